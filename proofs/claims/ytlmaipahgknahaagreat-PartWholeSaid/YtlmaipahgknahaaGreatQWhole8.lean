/- What the claim of this folder leans on: our own texts, joined, without what it does not use. -/
import Derived.Test.YtlmaipahgknahaaGreatRows
import Derived.WalkKit
import Derived.ProofKit
import Derived.OpenShut
import Derived.RowKit3
import Derived.OrdersHeld
import Derived.Scope
import Derived.KernelRfl
import Derived.Laws.Sem
import Derived.Laws.StructEq
import Derived.Deep.AppendSrc
import Derived.Laws.BytesArg
import Derived.Laws.RangeString
import Derived.Maps.RangeRun
import Derived.Lib.ConvBytes
import Derived.Lib.SlBytesConst
import Derived.ChangeSlices
import Derived.ChangeMaps5
import Derived.ChangeSame
import Derived.Deep.Slices
import Derived.Deep.Fields
import Derived.Test.YtlmaipahgknahaaGreatProg
import Derived.WideKeyRuns
import Derived.DeepKeys3
import Derived.Laws.MakeOwn
import Derived.Sort.MapsRangeIn
import Derived.Sort.KeysCollected
import Derived.RangeFuncNested
import Derived.RangeFuncBound
import Derived.RangeFuncCalls
import Derived.RangeFuncLeaves
import Derived.RangeFuncBox
import Derived.OwnWalkIn
import Derived.TacticsInMore
import Derived.RegionIn
import Derived.LoopNIn
import Derived.LoopIn
import Derived.Maps.AppendAt
import Derived.Shelf.Abstract
import Derived.Shelf.Sort.Plain
import Derived.Shelf.Slices.In.SortNone
import Derived.Test.YtlmaipahgknahaaGreatQWhole1
import Derived.Test.YtlmaipahgknahaaGreatQWhole2
import Derived.Test.YtlmaipahgknahaaGreatQWhole3
import Derived.Test.YtlmaipahgknahaaGreatQWhole4
import Derived.Test.YtlmaipahgknahaaGreatQWhole5
import Derived.Test.YtlmaipahgknahaaGreatQWhole6
import Derived.Test.YtlmaipahgknahaaGreatQWhole7
set_option linter.unusedVariables false
set_option linter.unusedSimpArgs false
namespace Go.Dec
structure SegR where
 base:Int
 fin:Int
 x:Sl
 bs:List BatM
structure RefM where
 seg:Int
 gap:Int
 SR:List SegR
def SegR.p (s:SegR):SegA:=⟨s.base,s.fin,s.bs.map BatM.p⟩
def RefM.l (R:RefM):List SegA:=R.SR.map SegR.p
def RefM.bs (R:RefM):List BatM:=R.SR.flatMap SegR.bs
def zfe (s:SegR):List Value:=[.int .i64 s.base,.int .i64 s.fin,.slice s.x.a s.x.len s.x.cap]
instance:EncA zfe [.int .i64,.int .i64,.slc] (λs=>(s.base,s.fin,s.x,())):=⟨λ_=>rfl⟩
instance:EncN zfe 3:=⟨λ_=>rfl,by decide,by simp [zfe,Value.oneCell']⟩
instance:EncF zfe 0 (.int .i64) (λs=>s.base):=⟨λ_=>rfl⟩
section
variable {w:World} {l r:List HP} {a:Nat} {R:RefM}
theorem zex:zv R.l=R.bs.map BatM.p:=by
 unfold zv RefM.l RefM.bs
 rw [List.flatMap_map,List.map_flatMap]
 rfl
class okR (R:RefM) (l:List HP):Prop where
 segs:z0b 0 R.l
 rd:∀ b ∈ R.bs,FocR l b.x 4 (b.rs.flatMap zy)
 len:R.SR.length<=1000000
 all:R.bs.length<=1000000
theorem okR.valid {L:List HP} (h:okR R L):∀ s ∈ R.SR,SegOk s.p/\(∀ b ∈ s.bs,z04 b=0/\FocR L b.x 4 (b.rs.flatMap zy))/\s.bs.length<=1000000:=λs hs=>by
 have h1:=(h.segs.mem s.p (List.mem_map.2 ⟨s,hs,rfl⟩)).1
 refine ⟨h1,λb hb=>⟨(h1.bs.valid b.p (List.mem_map.2 ⟨b,hb,rfl⟩)).1,h.rd b (List.mem_flatMap.2 ⟨s,hs,hb⟩)⟩,?_⟩
 refine Nat.le_trans ?_ h.all
 obtain ⟨u,v,huv⟩:=List.append_of_mem hs
 unfold RefM.bs
 rw [huv]
 simp only [List.flatMap_append,List.flatMap_cons,List.length_append]
 omega
instance okR.cons {H:HP} {L:List HP} [h:okR R L]:okR R (H::L):=⟨h.segs,λb hb=>by have:=h.rd b hb;infer_instance,h.len,h.all⟩
end
instance:EncF zy 0 .str (λr=>r.key):=⟨λ_=>rfl⟩
section
variable {w:World} {l r:List HP} {a:Nat} {R:RefM} {z:Sl} {g1 g2:Int}
theorem okR.base {L:List HP} (h:okR R L):∀ s ∈ R.SR,0<=s.base/\s.base<=1099511627776:=λs hs=>(h.valid s hs).1.base
end
instance:EncF zfe 2 .slc (λs=>s.x):=⟨λ_=>rfl⟩
def SegR.add (s:SegR) (z:Sl) (q:List BatM):SegR:=⟨s.base,s.fin,z,s.bs++q⟩
def zau (t:ByteArray):ByteArray:=if t.size>30 then t.extract 0 30 else t
def zlg (r:RecM):RecM:=⟨zau r.key,zau r.value,r.gone,r.time⟩
def z0e (b:BatM):BatM:=⟨b.base,b.pid,b.epoch,b.seq,b.kind,b.time,z7a,(b.rs.take 6).map zlg⟩
theorem ze0 (t:ByteArray):(zau t).size<=30:=by
 unfold zau
 split
 ·rw [ByteArray.size_extract];omega
 ·omega
theorem zvv (b:BatM) (n:Int) (z:Sl):2<=(z2i (((z0e b).at z).to n)).length/\(z2i (((z0e b).at z).to n)).length<=668:=by
 have h:=zol (b:=((z0e b).at z).to n) (n:=60) λr hr=>by
  obtain ⟨q,-,rfl⟩:=List.mem_map.1 (show r ∈ (b.rs.take 6).map zlg from hr)
  have h1:=ze0 q.key
  have h2:=ze0 q.value
  show (zau q.key).size+(zau q.value).size<=60
  omega
 have h3:(((z0e b).at z).to n).rs.length<=6:=by
  show ((b.rs.take 6).map zlg).length<=6
  rw [List.length_map,List.length_take];omega
 omega
abbrev cZ (b:BatM) (z:Sl):Array Value:=#[.int .i64 b.base,.int .i64 b.pid,.int .i64 b.epoch,.int .i64 b.seq,.int .i64 b.kind,.int .i64 b.time,.slice z.a z.len z.cap]
theorem zit {nm:SegA->ByteArray}:∀ {fs:List FileA} {l:List SegA},fs.map (·.name)=l.map nm->(∀ f ∈ fs,∀ s ∈ l,f.name=nm s->f.b=s.file)->used fs=z5m l
 | [],[],_,_=>rfl
 | [],s::l,h,_=>by simp at h
 | f::fs,[],h,_=>by simp at h
 | f::fs,s::l,h,hh=>by
  rw [List.map_cons,List.map_cons,List.cons.injEq] at h
  have h1:=hh f (List.mem_cons_self ..) s (List.mem_cons_self ..) h.1
  have h2:=zit h.2 λf hf s hs=>hh f (List.mem_cons_of_mem _ hf) s (List.mem_cons_of_mem _ hs)
  rw [z1i,h2,h1]
  simp [z5m]
theorem Cpl.sizes {pre:ByteArray} {l:List SegA} {D:DiskA} (h:Cpl pre l D):l.length<=D.fs.length/\z5m l<=used D.fs:=by
 have hn:=h.names
 have e:(D.fs.filter λf=>(bl (z19 pre)).isPrefixOf (bl f.name)).map (·.name)=l.map λs=>zm pre s.base zw:=by
  rw [<- hn]
  unfold z0y
  rw [List.filter_map]
  congr 1
  apply List.filter_congr
  intro f _
  show _=Go.Proofs.YtlmaipahgknahaaGreat.preF (z19 pre) f.name
  rw [zpm]
 have hs:=zit e λf hf s hs hfs=>by
  have h1:=zc9 (z2q h.ok.sorted) (List.mem_filter.1 hf).1
  obtain ⟨k,hk⟩:=h.has s hs
  rw [hfs,hk] at h1
  simp only [Option.some.injEq,Prod.mk.injEq] at h1
  exact h1.1.symm
 have hl:=congrArg List.length e
 rw [List.length_map,List.length_map] at hl
 exact ⟨by rw [<- hl];exact List.length_filter_le _ _,by rw [<- hs];exact zew List.filter_sublist⟩
theorem zpw:∀ {n:Int} {l:List SegA},z0b n l->(zv l).length*10<=z5m l
 | _,[],_=>Nat.le_refl _
 | n,s::l,⟨h1,h2,h3⟩=>by
  have h4:=zpw h3
  have h5:=zgq h2
  have e1:zv (s::l)=s.bs++zv l:=by simp [zv]
  have e2:z5m (s::l)=s.file.length+z5m l:=by simp [z5m]
  rw [e1,e2,List.length_append]
  omega
theorem Cpl.len {pre:ByteArray} {l:List SegA} {D:DiskA} (h:Cpl pre l D):l.length<=128/\(zv l).length<=500000/\∀ s ∈ l,s.file.length<=4194304:=by
 obtain ⟨h1,h2⟩:=h.sizes
 have h3:=zpw h.segs
 have h4:=h.ok.many
 have h5:=h.ok.used
 refine ⟨by omega,by omega,λs hs=>?_⟩
 obtain ⟨k,hk⟩:=h.has s hs
 exact Nat.le_trans (zd3 hk) h5
theorem zm7 (b:BatM) (z:Sl) (n:Int):((zx n [(z0e b).at z]).2.flatMap frL).length<=676:=by
 unfold zx
 split
 ·exact Nat.zero_le _
 ·rename_i hv
  have hv:=Decidable.not_not.1 hv
  split
  ·exact Nat.zero_le _
  ·show ((((z0e b).at z).to n)::(zx _ []).2 |>.flatMap frL).length<=676
   have h1:=zvv b n z
   have h2:=z4y hv
   simp only [zx,List.flatMap_cons,List.flatMap_nil,List.append_nil]
   omega
theorem zy9 {seg:Int} {l:List SegA} {bs:List BatM}:z5m (z18 seg l bs).2<=z5m l+((zx (zp l) bs).2.flatMap frL).length+29:=by
 unfold z18
 split
 ·simp only;omega
 split
 ·simp only;omega
 simp only
 split
 ·rename_i hr
  have hne:l≠[]:=by rintro rfl;cases hr
  obtain ⟨l0,s,rfl⟩:=z3e hne
  rw [z3r,z73,z73,z6s,List.length_append]
  omega
 ·have:=zha (zp l) 0
  rw [z73,zes,List.length_append]
  omega
theorem zrj (seg:Int) (l:List SegA) (b:BatM) (z1 z2:Sl):z18 seg l [(z0e b).at z1]=z18 seg l [(z0e b).at z2]:=by
 rw [<- zkz,<- zkz seg l [(z0e b).at z2]]
 rfl
theorem z2w (l:List SegA) (s:SegA):zv (l++[s])=zv l++s.bs:=by simp [zv]
theorem zv7 {a b:List BatM} (h:b≠[]):z0c (a++b)=z0c b:=by
 obtain ⟨b0,x,rfl⟩:=z3e h
 rw [<- List.append_assoc,z3l,z3l]
theorem zbh {seg:Int} {l:List SegA} {bs:List BatM} (hok:z0b 0 l) (hb:bs≠[]) (hp:(zx (zp l) bs).1=0) :
  zv (z18 seg l bs).2=zv l++(zx (zp l) bs).2.map BatM.p/\zp (z18 seg l bs).2=z0c ((zx (zp l) bs).2.map BatM.p):=by
 have hq1:=(zct hp).1
 have hq:(zx (zp l) bs).2.map BatM.p≠[]:=by
  intro h
  have:=List.map_eq_nil_iff.1 h
  rw [this] at hq1
  exact hb (List.length_eq_zero_iff.1 hq1.symm)
 have hnx:=hok.next (Int.le_refl 0)
 have hlt:=((z9w hnx.1 hp).1.next hnx.1).1 hq
 unfold z18
 rw [if_neg hb,if_neg (by rw [hp];simp)]
 simp only
 split
 ·rename_i hr
  have hne:l≠[]:=by rintro rfl;cases hr
  obtain ⟨l0,s,rfl⟩:=z3e hne
  rw [z3r,z2w,z2w,z3a]
  refine ⟨by simp [SegA.add],?_⟩
  have hsr:=z5d hok.front.2.1
  rw [z3a] at hlt hq ⊢
  show max (max s.base s.fin) (z0c (s.bs++_))=_
  rw [zv7 hq]
  omega
 ·rw [z2w,z3a]
  refine ⟨by simp [SegA.add],?_⟩
  show max (max (zp l) 0) (z0c ([]++_))=_
  rw [List.nil_append]
  omega
theorem zeo {seg:Int} {l:List SegA} {bs:List BatM} (h:bs=[]\/(zx (zp l) bs).1≠0):(z18 seg l bs).2=l/\(z18 seg l bs).1.2≠0:=by
 unfold z18
 by_cases hb:bs=[]
 ·rw [if_pos hb];exact ⟨rfl,by simp⟩
 ·rw [if_neg hb]
  rcases h with h|h
  ·exact absurd h hb
  ·rw [if_pos h];exact ⟨rfl,h⟩
def z9b (seg:Int) (bs:List BatM):List SegA:=bs.foldl (λl b=>(z18 seg l [b]).2) []
theorem zm9 (seg:Int) (bs:List BatM) (b:BatM):z9b seg (bs++[b])=(z18 seg (z9b seg bs) [b]).2:=by
 unfold z9b
 rw [List.foldl_append]
 rfl
theorem zii (b:BatM) (n:Int) (h:(zx n [b]).1=0):(zx n [b]).2=[b.to n]:=by
 unfold zx at h ⊢
 split at h
 ·rename_i h1;exact absurd h h1
 ·rename_i h1
  rw [if_neg h1]
  split at h
  ·rename_i h2;exact absurd rfl h2
  ·rename_i h2;rw [if_neg h2];rfl
theorem z024 (seg:Int) (l:List SegA) (b:BatM):z18 seg l [(b.to (zp l)).p]=z18 seg l [b]:=by
 rw [<- zkz seg l [b]]
 have e:zx (zp l) [(b.to (zp l)).p]=zx (zp l) ([b].map BatM.p):=rfl
 unfold z18
 rw [e]
 rfl
def z8c (pre:ByteArray) (l:List SegA) (D:DiskA) (n:Nat):Prop:=n<=(zv l).length/\∀ l0 t,l=l0++[t]->(∀ s ∈ l0,z06 D.fs (zm pre s.base zw)=some (s.file,s.file.length)) /\
 ∃ k,z06 D.fs (zm pre t.base zw)=some (t.file,k)/\∀ j,1<=j->j<=t.bs.length->(zv l0).length+j<=n->(t.cut j).file.length<=k
theorem zbl {α:Type} {a b:List α} {x y:α} (h:a++[x]=b++[y]):a=b/\x=y:=by
 have:=List.append_inj' h rfl
 exact ⟨this.1,by simpa using this.2⟩
theorem zdq (t:SegA) (j:Nat):(t.cut j).file.length<=t.file.length:=by
 rw [z2j,z2j]
 show (shL t.base t.fin).length+((t.bs.take j).flatMap frL).length<=_
 have:t.bs.flatMap frL=(t.bs.take j).flatMap frL++(t.bs.drop j).flatMap frL:=by rw [<- List.flatMap_append,List.take_append_drop]
 rw [this,List.length_append];omega
theorem z8c.sync {pre:ByteArray} {l:List SegA} {D:DiskA} {n:Nat} (h:z8c pre l D n) (hc:Cpl pre l D):z8c pre l (z0i pre l D).2 n/\((z0i pre l D).1=0->z8c pre l (z0i pre l D).2 (zv l).length /\
  ∀ s ∈ l,z06 (z0i pre l D).2.fs (zm pre s.base zw)=some (s.file,s.file.length)):=by
 by_cases h0:l=[]
 ·subst h0
  exact ⟨h,λ_=>⟨⟨Nat.le_refl _,λl0 t e=>by simp at e⟩,λs hs=>by cases hs⟩⟩
 obtain ⟨l0,t,rfl⟩:=z3e h0
 have e:z0i pre (l0++[t]) D=z1u D [zm pre t.base zw]:=by unfold z0i;rw [z1v]
 rw [e]
 obtain ⟨h1,k,h2,h3⟩:=h.2 l0 t rfl
 obtain ⟨-,-,-,-,h5⟩:=zll hc.ok (zm pre t.base zw)
 obtain ⟨f1,f2,f3,f4⟩:=hc.segs.front
 have hold:∀ s ∈ l0,z06 (z1u D [zm pre t.base zw]).2.fs (zm pre s.base zw)=some (s.file,s.file.length):=λs hs=>by
  rcases h5 (zm pre s.base zw) with h6|⟨h6,-,-⟩
  ·rw [h6];exact h1 s hs
  ·exact absurd h6 (z70 (f1.mem s hs).1 f2 (by have:=(f4 s hs).2;omega))
 constructor
 ·refine ⟨h.1,λl0' t' e'=>?_⟩
  obtain ⟨rfl,rfl⟩:=zbl e'
  refine ⟨hold,?_⟩
  rcases h5 (zm pre t.base zw) with h6|⟨-,-,h6⟩
  ·rw [h6];exact ⟨k,h2,h3⟩
  ·rw [h6,h2]
   exact ⟨t.file.length,rfl,λj h7 h8 h9=>zdq _ _⟩
 ·intro h0
  have hnew:z06 (z1u D [zm pre t.base zw]).2.fs (zm pre t.base zw)=some (t.file,t.file.length):=by
   obtain ⟨-,-,-,-,-,h7⟩:=zpy hc.ok h0
   rw [h7,h2];simp
  refine ⟨⟨Nat.le_refl _,λl0' t' e'=>?_⟩,λs hs=>?_⟩
  ·obtain ⟨rfl,rfl⟩:=zbl e'
   exact ⟨hold,t.file.length,hnew,λj _ _ _=>zdq _ _⟩
  ·rcases List.mem_append.1 hs with hs|hs
   ·exact hold s hs
   ·simp only [List.mem_cons,List.not_mem_nil,or_false] at hs
    subst hs;exact hnew
theorem z8c.begin {pre:ByteArray} {l:List SegA} {s:SegA} {D:DiskA} {n:Nat} (h:z8c pre l D n) (hc:Cpl pre l D) (hsegs:z0b 0 (l++[s])) (hall:∀ t ∈ l,z06 D.fs (zm pre t.base zw)=some (t.file,t.file.length)) (ha:(z09 D (zm pre s.base zw) s.file).1=0):z8c pre (l++[s]) (z09 D (zm pre s.base zw) s.file).2 n:=by
 obtain ⟨-,-,-,-,-,-,h7⟩:=z9o hc.ok ha
 obtain ⟨f1,f2,f3,f4⟩:=hsegs.front
 have hn:=h.1
 have hnone:z06 D.fs (zm pre s.base zw)=none:=by
  cases hq:z06 D.fs (zm pre s.base zw) with
  | none=>rfl
  | some q =>
   obtain ⟨t,ht,e⟩:=hc.only _ (by rw [hq];rfl) (z4i pre s.base zw)
   exact absurd e (z70 f2 (f1.mem t ht).1 (by have:=(f4 t ht).2;omega))
 refine ⟨by rw [z2w,List.length_append];omega,λl0' t' e'=>?_⟩
 obtain ⟨rfl,rfl⟩:=zbl e'
 refine ⟨λt ht=>?_,0,?_,λj j1 j2 j3=>?_⟩
 ·rw [h7,if_neg (z70 (f1.mem t ht).1 f2 (by have:=(f4 t ht).2;omega))]
  exact hall t ht
 ·rw [h7,if_pos rfl,hnone]
  rfl
 ·omega
theorem z8c.app {pre:ByteArray} {seg:Int} {l:List SegA} {D:DiskA} {bs:List BatM} {n:Nat} (hp:z3n pre=true) (h:z8c pre l D n) (hc:Cpl pre l D):z8c pre (z0m pre seg l D bs).2.1 (z0m pre seg l D bs).2.2 n:=by
 have hsegs:=z9x (seg:=seg) (bs:=bs) hc.segs
 unfold z0m
 unfold z18 at hsegs
 split
 ·exact h
 rename_i hb
 rw [if_neg hb] at hsegs
 split
 ·exact h
 rename_i hpl
 rw [if_neg hpl] at hsegs
 simp only at hsegs
 split
 ·rename_i hr
  have hne:l≠[]:=by rintro rfl;cases hr
  obtain ⟨l0,t,rfl⟩:=z3e hne
  rw [zfa]
  split
  ·rename_i he
   simp only
   rw [z8h he];exact h
  ·rename_i he
   have he:=Decidable.not_not.1 he
   simp only
   rw [z3r]
   obtain ⟨h1,k,h2,h3⟩:=h.2 l0 t rfl
   obtain ⟨-,-,-,-,-,-,h7⟩:=z9o hc.ok he
   obtain ⟨f1,f2,f3,f4⟩:=hc.segs.front
   have hn:=h.1
   rw [z2w,List.length_append] at hn
   refine ⟨by rw [z2w,List.length_append];simp only [SegA.add,List.length_append];omega,λl0' t' e'=>?_⟩
   obtain ⟨rfl,rfl⟩:=zbl e'
   refine ⟨λs hs=>?_,k,?_,λj j1 j2 j3=>?_⟩
   ·rw [h7,if_neg (z70 (f1.mem s hs).1 f2 (by have:=(f4 s hs).2;omega))]
    exact h1 s hs
   ·show z06 _ (zm pre t.base zw)=_
    rw [h7,if_pos rfl,h2,z6s]
    rfl
   ·have hj:j<=t.bs.length:=by omega
    have e:(t.add (zx (zp (l0++[t])) bs).2).cut j=t.cut j:=by
     unfold SegA.cut SegA.add
     simp only
     rw [List.take_append_of_le_length hj]
    rw [e]
    exact h3 j j1 hj j3
 ·rename_i hr
  obtain ⟨hs1,hs2⟩:=h.sync hc
  split
  ·exact hs1
  rename_i hse
  have hse:=Decidable.not_not.1 hse
  split
  ·rename_i he
   simp only
   rw [z8h he];exact hs1
  ·rename_i he
   have he:=Decidable.not_not.1 he
   rw [if_neg hr] at hsegs
   simp only
   obtain ⟨hs3,hs4⟩:=hs2 hse
   rw [<- zes] at he ⊢
   exact hs1.begin (s:=SegA.add ⟨zp l,0,[]⟩ (zx (zp l) bs).2) (z6z hc).1 hsegs hs4 he
structure CutP (pre:ByteArray) (l0:List SegA) (t:SegA) (k:Nat) (D:DiskA):Prop where
 ok:okA D
 segs:z0b 0 (l0++[t])
 old:∀ s ∈ l0,z06 D.fs (zm pre s.base zw)=some (s.file,s.file.length)
 last:z06 D.fs (zm pre t.base zw)=some (t.file.take k,k)
 le:k<=t.file.length
 only:∀ n,(z06 D.fs n).isSome=true->(bl (z19 pre)).isPrefixOf (bl n)=true->∃ s ∈ l0++[t],n=zm pre s.base zw
theorem CutP.fs {pre:ByteArray} {l0:List SegA} {t:SegA} {k:Nat} {D D':DiskA} (h:CutP pre l0 t k D) (hok:okA D') (e:D'.fs=D.fs):CutP pre l0 t k D' :=
 ⟨hok,h.segs,by rw [e];exact h.old,by rw [e];exact h.last,h.le,by rw [e];exact h.only⟩
theorem zx9 {pre:ByteArray} {l:List SegA} {D:DiskA} (hok:okA D) (hsegs:z0b 0 l) (hex:∀ s ∈ l,(z06 D.fs (zm pre s.base zw)).isSome=true) (only:∀ n,(z06 D.fs n).isSome=true->(bl (z19 pre)).isPrefixOf (bl n)=true->∃ s ∈ l,n=zm pre s.base zw):z0y (z19 pre) D.fs=l.map λs=>zm pre s.base zw:=by
 refine zcz (zcq hok _) (zab pre hsegs) λn=>?_
 rw [zi9]
 constructor
 ·rintro ⟨h1,h2⟩
  obtain ⟨s,hs,rfl⟩:=only n h1 h2
  exact List.mem_map.2 ⟨s,hs,rfl⟩
 ·intro hn
  obtain ⟨s,hs,rfl⟩:=List.mem_map.1 hn
  exact ⟨hex s hs,z4i pre s.base zw⟩
theorem zhl {l1 l:List SegA} {s:SegA} (hok:z0b 0 (l1++s::l)):¬ s.base<zp l1:=by
 have hs:SegOk s:=(hok.mem s (by simp)).1
 have:=hs.base
 by_cases h0:l1=[]
 ·subst h0;show ¬ s.base<0;omega
 ·obtain ⟨l0,t,rfl⟩:=z3e h0
  rw [z3a]
  have h1:=hok.skip l0.length (l0.length+1) (by simp) (by omega)
  have e1:(l0++[t]++s::l)[l0.length]'(by simp)=t:=by simp
  have e2:(l0++[t]++s::l)[l0.length+1]'(by simp)=s:=by
   rw [List.getElem_append_right (by simp)];simp
  rw [e1,e2] at h1
  omega
theorem zid {pre:ByteArray} {D:DiskA} {rest:List Int}:∀ {l l1:List SegA},z0b 0 (l1++l)->(∀ s ∈ l,∃ k,z06 D.fs (zm pre s.base zw)=some (s.file,k))->z22 pre (l.map SegA.base++rest) l1 D=z22 pre rest (l1++l) D
 | [],l1,_,_=>by simp
 | s::l,l1,hok,hh=>by
  rw [List.map_cons,List.cons_append]
  have hok2:z0b 0 ((l1++[s])++l):=by rwa [List.append_assoc]
  have hs:SegOk s:=(hok.mem s (by simp)).1
  obtain ⟨k,hk⟩:=hh s (List.mem_cons_self ..)
  have hsc:z1o pre l1 D s.base=((true,0),l1++[s],D):=by
   unfold z1o
   rw [hk]
   simp only
   rw [zio hs]
   simp only
   rw [if_pos trivial]
  have e:z22 pre (s.base::(l.map SegA.base++rest)) l1 D=z22 pre (l.map SegA.base++rest) (l1++[s]) D:=by
   rw [z22]
   rw [if_neg (zhl hok),hsc,if_neg (by simp),if_pos rfl]
  rw [e,zid hok2 λt ht=>hh t (List.mem_cons_of_mem _ ht),List.append_assoc]
  rfl
theorem ze4 {g:FileA->FileA} (hg:∀ f,(g f).b.length<=f.b.length):∀ fs:List FileA,used (fs.map g)<=used fs
 | []=>Nat.le_refl _
 | f::fs=>by
  have:=ze4 hg fs
  have:=hg f
  rw [List.map_cons,z1i,z1i]
  omega
theorem zwm (A:DiskA) (n:ByteArray) (k:Int):used (cutA' A n k).2.fs<=used A.fs:=by
 unfold cutA'
 split
 ·exact Nat.le_refl _
 split
 ·exact Nat.le_refl _
 split
 ·exact Nat.le_refl _
 ·show used (z2c _).fs<=_
  rw [z3f]
  refine ze4 (λf=>?_) _
  unfold z1q
  split
  ·show (f.b.take _).length<=_;rw [List.length_take];omega
  ·exact Nat.le_refl _
theorem zwl {D:DiskA} (h:Calm D) (n:ByteArray) (k:Int):Calm (cutA' D n k).2:=by
 unfold cutA'
 split
 ·exact h
 split
 ·exact h
 split
 ·exact h
 ·show Calm (z2c _)
  rw [z9p (by exact h.left)]
  exact ⟨h.gone,h.left⟩
theorem zvm {t:SegA} (ht:SegOk t) (j:Nat):(t.cut j).reach<=t.reach:=by
 unfold SegA.reach SegA.cut
 simp only
 have h:z0c (t.bs.take j)<=max (max t.base t.fin) (z0c t.bs):=by
  by_cases h0:t.bs.take j=[]
  ·rw [h0];have:=ht.base;show (0:Int)<=_;omega
  ·obtain ⟨l,b,hb⟩:=z3e h0
   rw [hb,z3l]
   have hm:b ∈ t.bs:=List.mem_of_mem_take (by rw [hb];simp)
   have:=ht.bs.le_next hm
   omega
 omega
structure OpnP (pre:ByteArray) (l:List SegA) (n:Nat) (D:DiskA) (l1:List SegA) (D3:DiskA):Prop where
 cpl:Cpl pre l1 D3
 room:D3.room=D.room
 used:used D3.fs<=used D.fs
 len:D3.fs.length<=D.fs.length
 calm:Calm D->Calm D3
 sure:n<=(zv l1).length
 le:(zv l1).length<=(zv l).length
 part:zv l1=(zv l).take (zv l1).length
 next:zp l1<=zp l
theorem z0b.cutLast {n:Int} {l0:List SegA} {t:SegA} (h:z0b n (l0++[t])) (j:Nat):z0b n (l0++[t.cut j]):=by
 obtain ⟨h1,h2,h3,h4⟩:=h.front
 exact h1.snoc (h2.cut j) h3 h4
theorem CutP.opened {pre:ByteArray} {l0:List SegA} {t:SegA} {k n:Nat} {D:DiskA} (h:CutP pre l0 t k D) (hg:D.gone=false) (hn0:n<=(zv (l0++[t])).length) (hn:∀ j,1<=j->j<=t.bs.length->(zv l0).length+j<=n->(t.cut j).file.length<=k) :
  ∃ l1 D3,z4g pre D=(0,l1,D3)/\OpnP pre (l0++[t]) n D l1 D3:=by
 have hex:∀ s ∈ l0++[t],(z06 D.fs (zm pre s.base zw)).isSome=true:=λs hs=>by
  rcases List.mem_append.1 hs with hs|hs
  ·rw [h.old s hs];rfl
  ·simp only [List.mem_cons,List.not_mem_nil,or_false] at hs
   subst hs;rw [h.last];rfl
 have hnm:=zx9 h.ok h.segs hex h.only
 obtain ⟨f1,f2,f3,f4⟩:=h.segs.front
 have hstart:z4g pre D=z22 pre [t.base] l0 D:=by
  unfold z4g
  rw [hnm,zb5 pre D λs hs=>(h.segs.mem s hs).1,if_neg (by simp)]
  simp only
  rw [List.map_append]
  have:=zid (pre:=pre) (D:=D) (rest:=[t].map SegA.base) (l:=l0) (l1:=[]) f1 λs hs=>⟨_,h.old s hs⟩
  rw [this]
  rfl
 rw [hstart]
 rw [z2w,List.length_append] at hn0
 have hne:∀ s ∈ l0,zm pre s.base zw≠zm pre t.base zw:=λs hs=>z70 (f1.mem s hs).1 f2 (by have:=(f4 s hs).2;omega)
 have hb:=zhl (l:=[]) h.segs
 have hisS:(z06 D.fs (zm pre t.base zw)).isSome=true:=by rw [h.last];rfl
 rcases zy4 f2 k with ⟨c1,c2⟩|⟨j,c1,c2,c3,c4⟩
 ·have hsc:z1o pre l0 D t.base=((false,(z13 D (zm pre t.base zw)).1),l0,(z13 D (zm pre t.base zw)).2):=by
   unfold z1o
   rw [h.last]
   simp only
   rw [c2]
  have hr:(z13 D (zm pre t.base zw)).1=0:=by
   rcases zvq hisS with ⟨r1,-⟩|⟨-,r2,-⟩
   ·exact r1
   ·rw [hg] at r2;cases r2
  refine ⟨l0,(z13 D (zm pre t.base zw)).2,?_,?_⟩
  ·rw [z22,if_neg hb,hsc,hr]
   rfl
  ·obtain ⟨-,r1,r2,r3,r4,-,r6⟩:=z041 h.ok hr
   have hnl:n<=(zv l0).length:=by
    apply Nat.le_of_not_lt
    intro hlt
    have h1:=hn 1 (Nat.le_refl _) (by omega) (by omega)
    rw [z2j] at h1
    have:(shL (t.cut 1).base (t.cut 1).fin).length=(shL t.base t.fin).length:=rfl
    omega
   refine ⟨⟨r1,f1,λs hs=>⟨s.file.length,?_⟩,λm hm hp=>?_⟩,r2,r3,r4,λhc=>zy0 hc _,hnl,?_,?_,?_⟩
   ·rw [r6,if_neg (hne s hs)];exact h.old s hs
   ·rw [r6] at hm
    by_cases hmt:m=zm pre t.base zw
    ·rw [if_pos hmt] at hm;cases hm
    ·rw [if_neg hmt] at hm
     obtain ⟨s,hs,rfl⟩:=h.only m hm hp
     rcases List.mem_append.1 hs with hs|hs
     ·exact ⟨s,hs,rfl⟩
     ·simp only [List.mem_cons,List.not_mem_nil,or_false] at hs
      subst hs;exact absurd rfl hmt
   ·rw [z2w,List.length_append];omega
   ·rw [z2w,List.take_left]
   ·rw [z3a]
    have:=(z5d f2).1
    omega
 ·have hprefix:zv (l0++[t.cut j])=(zv (l0++[t])).take (zv (l0++[t.cut j])).length/\(zv (l0++[t.cut j])).length=(zv l0).length+j:=by
   have e:(t.cut j).bs=t.bs.take j:=rfl
   rw [z2w,z2w,e,List.length_append,List.length_take,Nat.min_eq_left c1,List.take_append,List.take_of_length_le (Nat.le_add_right _ _),Nat.add_sub_cancel_left]
   exact ⟨rfl,rfl⟩
  have hnl:n<=(zv (l0++[t.cut j])).length:=by
   rw [hprefix.2]
   apply Nat.le_of_not_lt
   intro hlt
   have h1:=hn (n-(zv l0).length) (by omega) (by omega) (by omega)
   have h2:=c4 (n-(zv l0).length) (by omega) h1
   omega
  have hle:(zv (l0++[t.cut j])).length<=(zv (l0++[t])).length:=by rw [hprefix.2,z2w,List.length_append];omega
  have hnx:zp (l0++[t.cut j])<=zp (l0++[t]):=by rw [z3a,z3a];exact zvm f2 j
  have hkl:(t.file.take k).length=k:=by rw [List.length_take,Nat.min_eq_left h.le]
  have hraw:=(zlb c3).2.2.1
  by_cases hk:(t.cut j).file.length=k
  ·have hsc:z1o pre l0 D t.base=((true,0),l0++[t.cut j],D):=by
    unfold z1o
    rw [h.last]
    simp only
    rw [c3]
    simp only
    rw [if_pos (by rw [hkl];exact hk)]
   refine ⟨l0++[t.cut j],D,?_,?_⟩
   ·rw [z22,if_neg hb,hsc,if_neg (by simp),if_pos rfl]
    rfl
   ·refine ⟨⟨h.ok,h.segs.cutLast j,λs hs=>?_,λm hm hp=>?_⟩,rfl,Nat.le_refl _,Nat.le_refl _,id,hnl,hle,hprefix.1,hnx⟩
    ·rcases List.mem_append.1 hs with hs|hs
     ·exact ⟨_,h.old s hs⟩
     ·simp only [List.mem_cons,List.not_mem_nil,or_false] at hs
      subst hs
      refine ⟨k,?_⟩
      show z06 D.fs (zm pre t.base zw)=_
      rw [h.last,<- hraw,hk,List.take_take,Nat.min_self]
    ·obtain ⟨s,hs,rfl⟩:=h.only m hm hp
     rcases List.mem_append.1 hs with hs|hs
     ·exact ⟨s,by simp [hs],rfl⟩
     ·simp only [List.mem_cons,List.not_mem_nil,or_false] at hs
      subst hs;exact ⟨s.cut j,by simp,rfl⟩
  ·have hsc:z1o pre l0 D t.base=((false,(cutA' D (zm pre t.base zw) ((t.cut j).file.length:Nat)).1),l0++[t.cut j],(cutA' D (zm pre t.base zw) ((t.cut j).file.length:Nat)).2):=by
    unfold z1o
    rw [h.last]
    simp only
    rw [c3]
    simp only
    rw [if_neg (by rw [hkl];exact hk)]
   have hr:(cutA' D (zm pre t.base zw) ((t.cut j).file.length:Nat)).1=0:=by
    rcases zuc (A:=D) (k:=((t.cut j).file.length:Nat)) h.last (by rw [hkl];omega) with ⟨r1,-⟩|⟨-,r2,-⟩
    ·exact r1
    ·rw [hg] at r2;cases r2
   refine ⟨l0++[t.cut j],(cutA' D (zm pre t.base zw) ((t.cut j).file.length:Nat)).2,?_,?_⟩
   ·rw [z22,if_neg hb,hsc,hr]
    rfl
   ·obtain ⟨-,r1,r2,r3,r4⟩:=z031 h.ok hr
    refine ⟨⟨r1,h.segs.cutLast j,λs hs=>?_,λm hm hp=>?_⟩,r2,zwm _ _ _,by omega,λhc=>zwl hc _ _,hnl,hle,hprefix.1,hnx⟩
    ·rcases List.mem_append.1 hs with hs|hs
     ·rw [r4,if_neg (hne s hs)];exact ⟨_,h.old s hs⟩
     ·simp only [List.mem_cons,List.not_mem_nil,or_false] at hs
      subst hs
      refine ⟨min k (t.cut j).file.length,?_⟩
      show z06 _ (zm pre t.base zw)=_
      rw [r4,if_pos rfl,h.last]
      show some ((t.file.take k).take _,_)=_
      rw [Int.toNat_natCast,hraw]
    ·rw [r4] at hm
     have hm2:(z06 D.fs m).isSome=true:=by
      by_cases hmt:m=zm pre t.base zw
      ·rw [hmt];exact hisS
      ·rw [if_neg hmt] at hm;exact hm
     obtain ⟨s,hs,rfl⟩:=h.only m hm2 hp
     rcases List.mem_append.1 hs with hs|hs
     ·exact ⟨s,by simp [hs],rfl⟩
     ·simp only [List.mem_cons,List.not_mem_nil,or_false] at hs
      subst hs;exact ⟨s.cut j,by simp,rfl⟩
def CrP (pre:ByteArray) (l:List SegA) (n:Nat) (D:DiskA):Prop:=(l=[]/\n=0/\Cpl pre [] D)\/∃ l0 t k,l=l0++[t]/\n<=(zv l).length/\CutP pre l0 t k D/\∀ j,1<=j->j<=t.bs.length->(zv l0).length+j<=n->(t.cut j).file.length<=k
theorem CrP.ok {pre:ByteArray} {l:List SegA} {D:DiskA} {n:Nat} (h:CrP pre l n D):okA D:=by
 rcases h with ⟨h1,h2,h3⟩|⟨l0,t,k,h1,h2,h3,h4⟩
 ·exact h3.ok
 ·exact h3.ok
theorem CrP.opened {pre:ByteArray} {l:List SegA} {D:DiskA} {n:Nat} (h:CrP pre l n D) (hg:D.gone=false):∃ l1 D3,z4g pre D=(0,l1,D3)/\OpnP pre l n D l1 D3:=by
 rcases h with ⟨rfl,rfl,h3⟩|⟨l0,t,k,rfl,h2,h3,h4⟩
 ·exact ⟨[],D,h3.opened,h3,rfl,Nat.le_refl _,Nat.le_refl _,id,Nat.zero_le _,Nat.le_refl _,rfl,Int.le_refl _⟩
 ·exact h3.opened hg h2 h4
theorem z8u:∀ {n:Int} {l:List SegA},0<=n->z0b n l->z1j n (zv l)
 | _,[],_,_=>trivial
 | n,s::l,hn,⟨h1,h2,h3⟩=>by
  have e1:zv (s::l)=s.bs++zv l:=by simp [zv]
  have hr:=z5d h2
  have hb:=h2.base
  rw [e1]
  refine z1j.append hn (h2.bs.mono h1) ((z8u (by omega) h3).mono ?_)
  omega
section
variable {w:World} {l r:List HP} {lg d:Nat} {D:DiskA} {A:LogA}
theorem z02y (b:BatM) (x:Sl) {r1:List HP} [hf:Fo l lgP lg A r1] [hf2:Fo r1 dk A.d D r] (hlen:A.l.length<=1000000) (hok:z0b 0 A.l) (hfl:∀ s ∈ A.l,s.file.length<=500000000)
  (hx:FocR r x 7 ([b].flatMap zn)) (hb:FocR r b.x 4 (b.rs.flatMap zy)) (hs:Sat w l) :
  Ret P F.a102 #[.pointer (some ⟨lg,0,none⟩),x.v] w λvs w'=>vs=[.int .i64 (z0m A.pre A.seg A.l D [b]).1.1,.int .i64 (z0m A.pre A.seg A.l D [b]).1.2] /\
   Sat w' (lgP lg (A.set (z0m A.pre A.seg A.l D [b]).2.1)::dk A.d (z0m A.pre A.seg A.l D [b]).2.2::r) :=
 zuw x [b] hlen hok hfl (by show 1<=900;omega) hx (λc hc=>by
  simp only [List.mem_cons,List.not_mem_nil,or_false] at hc
  subst hc
  exact hb) hs
theorem nil_append (x:Sl) (hs:Sat w l):Ret P F.a102 #[.pointer none,x.v] w λvs w'=>vs=[.int .i64 0,.int .i64 1]/\Sat w' l :=
 ze6 _ x <| by
  delta zs1 AA AB AC AF AG AH AJ AQ AR AT AY Aa Ab Ac Af Ah Ai Aj Am An Ao Aq As Aw Ax Ay Ba Bf Bg Bs
  refine z10 ?_ (by rfl)
  exact ⟨rfl,rfl,hs⟩
end
def InP (pool:List BatM) (R:RefM):Prop:=∀ b ∈ R.bs,∃ c ∈ pool,b.x=c.x/\b.rs=c.rs
structure Grw (pre:ByteArray) (D:DiskA) (l':List SegA) (D':DiskA):Prop where
 cpl:Cpl pre l' D'
 fr:Fr pre D D'
 calm:Calm D'
 used:used D'.fs<=used D.fs+705
 len:D'.fs.length<=D.fs.length+1
theorem InP.rd {pool:List BatM} {R:RefM} {l:List HP} (h:InP pool R):∀ b ∈ R.bs,FocR (z0v pool::l) b.x 4 (b.rs.flatMap zy):=λb hb=>by
 obtain ⟨c,hc,e1,e2⟩:=h b hb
 rw [e1,e2]
 exact zaf hc
theorem InP.more {pool:List BatM} {R:RefM} (h:InP pool R) (x:BatM):InP (pool++[x]) R:=λb hb=>by
 obtain ⟨c,hc,e⟩:=h b hb
 exact ⟨c,List.mem_append_left _ hc,e⟩
theorem InP.app {pool:List BatM} {R R':RefM} {b0:BatM} {z:Sl} (h:InP pool R) (hR:∀ b ∈ R'.bs,b ∈ R.bs\/(b.x=z/\b.rs=(z0e b0).rs)):InP (pool++[(z0e b0).at z]) R':=λb hb=>by
 rcases hR b hb with h1|⟨h1,h2⟩
 ·exact h.more _ b h1
 ·exact ⟨(z0e b0).at z,by simp,h1,h2⟩
abbrev qP:ByteArray:=ByteArray.mk #[113]
abbrev qqP:ByteArray:=ByteArray.mk #[113,113]
theorem zdc:z3n qP=true:=by kernel_rfl
theorem zvl:z3n qqP=true:=by kernel_rfl
theorem z03z:qP≠qqP:=λh=>by have:=congrArg ByteArray.size h;cases this
structure ApP (s:Int) (k:Nat) (D:DiskA) (R S:RefM) (pool:List BatM):Prop where
 rs:R.seg=s
 ss:S.seg=s
 c1:Cpl qP R.l D
 c2:Cpl qqP S.l D
 calm:Calm D
 room:D.room=1048576
 used:used D.fs<=705*k
 len:D.fs.length<=k
 in1:InP pool R
 in2:InP pool S
theorem ApP.left {s:Int} {k:Nat} {D D':DiskA} {R R' S:RefM} {pool:List BatM} {b0:BatM} {z:Sl} (h:ApP s k D R S pool) (hg:Grw qP D R'.l D') (h1:R'.seg=R.seg) (hR:∀ b ∈ R'.bs,b ∈ R.bs\/(b.x=z/\b.rs=(z0e b0).rs)):ApP s (k+1) D' R' S (pool++[(z0e b0).at z]) :=
 ⟨h1.trans h.rs,h.ss,hg.cpl,h.c2.frame hg.cpl.ok zdc zvl z03z hg.fr,hg.calm,hg.fr.room.trans h.room,by have:=hg.used;have:=h.used;omega,by have:=hg.len;have:=h.len;omega,h.in1.app hR,h.in2.more _⟩
theorem ApP.right {s:Int} {k:Nat} {D D':DiskA} {R S S':RefM} {pool:List BatM} {b0:BatM} {z:Sl} (h:ApP s k D R S pool) (hg:Grw qqP D S'.l D') (h1:S'.seg=S.seg) (hR:∀ b ∈ S'.bs,b ∈ S.bs\/(b.x=z/\b.rs=(z0e b0).rs)):ApP s (k+1) D' R S' (pool++[(z0e b0).at z]) :=
 ⟨h.rs,h1.trans h.ss,h.c1.frame hg.cpl.ok zvl zdc z03z.symm hg.fr,hg.cpl,hg.calm,hg.fr.room.trans h.room,by have:=hg.used;have:=h.used;omega,by have:=hg.len;have:=h.len;omega,h.in1.more _,h.in2.app hR⟩
theorem ApP.free {s:Int} {k:Nat} {D:DiskA} {R S:RefM} {pool:List BatM} (h:ApP s k D R S pool) (hk:k<=100):705<=D.free:=by
 have:=h.used
 have:=h.room
 unfold DiskA.free
 omega
def zqp (b:Bool):List Value:=[.bool b]
instance:Enc1 zqp .bool (λb=>b):=⟨λ_=>rfl⟩
instance:EncN zqp 1:=⟨λ_=>rfl,by decide,by simp [zqp,Value.oneCell']⟩
section
variable {w:World} {l r:List HP} {lg a:Nat} {A:LogA} {D:DiskA} {R:RefM}
theorem zx6 {r1:List HP} [hf:Fo l lgP lg A r1] [hf2:Fo r1 dk A.d D r] (hlen:A.l.length<=1000000000) (hok:z0b 0 A.l) (hs:Sat w l) :
  Ret P F.a108 #[.pointer (some ⟨lg,0,none⟩)] w λvs w'=>vs=[.int .i64 (z0i A.pre A.l D).1]/\Sat w' (lgP lg A::dk A.d (z0i A.pre A.l D).2::r):=by
 have hs:=hs.perm (hf.perm.trans (.cons _ hf2.perm))
 clear hf hf2
 obtain ⟨M,rfl,hs⟩:=z7m hs
 have hll:M.l.length=M.SM.length:=List.length_map ..
 have hMl:M.A.l=M.l:=rfl
 rw [hMl] at hlen hok
 have hs:Sat w (lgQ lg M::dk M.d D::r):=hs
 refine (zp7 (lg:=lg) (M:=M) (D:=D) (by omega) hok hs).mono λvs w' h=>?_
 obtain ⟨h1,h2⟩:=h
 exact ⟨h1,z4e M h2⟩
structure FilI (s:Int) (k:Nat) (D:DiskA) (l:List SegA) (R:RefM) (pool:List BatM) (n:Nat) (C:Prop):Prop where
 cpl:Cpl qP l D
 syn:z8c qP l D n
 rseg:R.seg=4194304
 segs:z0b 0 R.l
 srl:R.SR.length<=k
 brl:R.bs.length<=k
 all:R.bs.map BatM.p=zv l
 next:zp R.l=zp l
 rep:l=z9b s (zv l)
 room:D.room=1048576
 used:used D.fs<=705*k
 len:D.fs.length<=k
 in1:InP pool R
 calm:C->Calm D
structure FilE (s:Int) (D:DiskA) (l:List SegA) (outs pool:List BatM) (n:Nat) (C:Prop):Prop where
 cpl:Cpl qP l D
 syn:z8c qP l D n
 told:outs.map BatM.p=zv l\/(D.gone=true/\∃ b,outs.map BatM.p=zv l++[b])
 rep:l=z9b s (zv l)
 room:D.room=1048576
 used:used D.fs<=14805
 len:D.fs.length<=21
 num:outs.length<=21
 in1:∀ b ∈ outs,∃ c ∈ pool,b.x=c.x/\b.rs=c.rs
 calm:C->Calm D/\outs.map BatM.p=zv l
theorem FilI.free {s:Int} {k n:Nat} {l:List SegA} {pool:List BatM} {C:Prop} (h:FilI s k D l R pool n C) (hk:k<=100):705<=D.free:=by
 have:=h.used
 have:=h.room
 unfold DiskA.free
 omega
theorem FilI.done {s:Int} {k n:Nat} {l:List SegA} {pool:List BatM} {C:Prop} (h:FilI s k D l R pool n C) (hk:k<=20):FilE s D l R.bs pool n C :=
 ⟨h.cpl,h.syn,.inl h.all,h.rep,h.room,by have:=h.used;omega,by have:=h.len;omega,by have:=h.brl;omega,h.in1,λc=>⟨h.calm c,h.all⟩⟩
theorem FilI.step {s:Int} {k n:Nat} {l:List SegA} {pool:List BatM} {C:Prop} {R':RefM} {b0:BatM} {z z':Sl} (h:FilI s k D l R pool n C) (hk:k<=100)
  (h1:(z0m qP s l D [(z0e b0).at z]).1=(z18 s l [(z0e b0).at z]).1) (h2:(z0m qP s l D [(z0e b0).at z]).2.1=(z18 s l [(z0e b0).at z]).2)
  (r1:R'.seg=R.seg) (r2:R'.l=(z18 R.seg R.l [(z0e b0).at z']).2) (r3:R'.SR.length<=R.SR.length+1) (r4:R'.bs.length<=R.bs.length+1) (r5:∀ b ∈ R'.bs,b ∈ R.bs\/(b.x=z'/\b.rs=(z0e b0).rs)) :
  FilI s (k+1) (z0m qP s l D [(z0e b0).at z]).2.2 (z0m qP s l D [(z0e b0).at z]).2.1 R' (pool++[(z0e b0).at z']) n C:=by
 have hst:=zbb s [(z0e b0).at z] zdc h.cpl
 have hsy:=h.syn.app (seg:=s) (bs:=[(z0e b0).at z]) zdc h.cpl
 have hsum:=zy9 (seg:=s) (l:=l) (bs:=[(z0e b0).at z])
 have hsm:=zm7 b0 z (zp l)
 have hsl:=zha (zp l) 0
 have hR:R'.bs.map BatM.p=zv R'.l:=by rw [zex]
 have hRR:R.bs.map BatM.p=zv R.l:=by rw [zex]
 have hrall:zv R.l=zv l:=hRR.symm.trans h.all
 have er:z18 R.seg R.l [(z0e b0).at z']=z18 R.seg R.l [(z0e b0).at z]:=zrj _ _ _ _ _
 rw [er] at r2
 have hsegR:z0b 0 R'.l:=by rw [r2];exact z9x h.segs
 have hallN:zv R'.l=zv (z18 s l [(z0e b0).at z]).2/\zp R'.l=zp (z18 s l [(z0e b0).at z]).2/\(z18 s l [(z0e b0).at z]).2=z9b s (zv (z18 s l [(z0e b0).at z]).2):=by
  by_cases hp:(zx (zp l) [(z0e b0).at z]).1=0
  ·obtain ⟨g1,g2⟩:=zbh (seg:=s) h.cpl.segs (by simp) hp
   obtain ⟨g3,g4⟩:=zbh (seg:=R.seg) (bs:=[(z0e b0).at z]) h.segs (by simp) (by rw [h.next];exact hp)
   rw [h.next] at g3 g4
   rw [r2]
   refine ⟨by rw [g1,g3,hrall],by rw [g2,g4],?_⟩
   rw [g1,zii _ _ hp]
   show _=z9b s (zv l++[(((z0e b0).at z).to (zp l)).p])
   rw [zm9,<- h.rep,z024]
  ·obtain ⟨g1,-⟩:=zeo (seg:=s) (l:=l) (bs:=[(z0e b0).at z]) (.inr hp)
   obtain ⟨g3,-⟩:=zeo (seg:=R.seg) (l:=R.l) (bs:=[(z0e b0).at z]) (.inr (by rw [h.next];exact hp))
   rw [r2,g1,g3]
   exact ⟨hrall,h.next,h.rep⟩
 rw [h2] at hst hsy ⊢
 have hu:=hst.2.2.1
 have hl:=hst.2.2.2.1
 have hll:(z18 s l [(z0e b0).at z]).2.length<=l.length+1:=by
  unfold z18
  split
  ·simp
  split
  ·simp
  ·simp only
   split
   ·rename_i hr
    have hne:l≠[]:=by rintro rfl;cases hr
    obtain ⟨l0,t,rfl⟩:=z3e hne
    rw [z3r];simp
   ·simp
 have hlen2:(z0m qP s l D [(z0e b0).at z]).2.2.fs.length<=D.fs.length+1:=by
  unfold z0m
  split
  ·simp only;omega
  split
  ·simp only;omega
  split
  ·split <;> exact z78.1
  ·obtain ⟨-,-,-,s4,-⟩:=z6z h.cpl
   split
   ·simp only;omega
   split
   ·simp only
    have:=(z78 (A:=(z0i qP l D).2) (n:=zm qP (zp l) zw) (bs:=shL (zp l) 0++(zx (zp l) [(z0e b0).at z]).2.flatMap frL)).1
    omega
   ·simp only
    have:=(z78 (A:=(z0i qP l D).2) (n:=zm qP (zp l) zw) (bs:=shL (zp l) 0++(zx (zp l) [(z0e b0).at z]).2.flatMap frL)).1
    omega
 exact ⟨hst.1,hsy,r1.trans h.rseg,hsegR,by have:=h.srl;omega,by have:=h.brl;omega,by rw [hR];exact hallN.1,hallN.2.1,hallN.2.2,hst.2.1.room.trans h.room,by have:=h.used;omega,by have:=h.len;omega,h.in1.app r5,λc=>hst.2.2.2.2 (h.calm c)⟩
theorem FilI.fail {s:Int} {k n:Nat} {l:List SegA} {pool:List BatM} {C:Prop} {R':RefM} {b0:BatM} {z z':Sl} (h:FilI s k D l R pool n C) (hk:k<20)
  (h1:(z0m qP s l D [(z0e b0).at z]).2.1=l) (h2:(z0m qP s l D [(z0e b0).at z]).2.2.gone=true)
  (r2:R'.l=(z18 R.seg R.l [(z0e b0).at z']).2) (r4:R'.bs.length<=R.bs.length+1) (r5:∀ b ∈ R'.bs,b ∈ R.bs\/(b.x=z'/\b.rs=(z0e b0).rs)) :
  FilE s (z0m qP s l D [(z0e b0).at z]).2.2 l R'.bs (pool++[(z0e b0).at z']) n C:=by
 have hst:=zbb s [(z0e b0).at z] zdc h.cpl
 have hsy:=h.syn.app (seg:=s) (bs:=[(z0e b0).at z]) zdc h.cpl
 rw [h1] at hst hsy
 have hR:R'.bs.map BatM.p=zv R'.l:=by rw [zex]
 have hRR:R.bs.map BatM.p=zv R.l:=by rw [zex]
 have hrall:zv R.l=zv l:=hRR.symm.trans h.all
 have hu:=hst.2.2.1
 have hl:=hst.2.2.2.1
 refine ⟨hst.1,hsy,?_,h.rep,hst.2.1.room.trans h.room,by have:=h.used;omega,by have:=h.len;omega,by have:=h.brl;omega,h.in1.app r5,λc=>?_⟩
 ·by_cases hp:(zx (zp R.l) [(z0e b0).at z']).1=0
  ·obtain ⟨g3,-⟩:=zbh (seg:=R.seg) (bs:=[(z0e b0).at z']) h.segs (by simp) hp
   refine .inr ⟨h2,?_⟩
   rw [hR,r2,g3,zii _ _ hp,hrall]
   exact ⟨_,rfl⟩
  ·obtain ⟨g3,-⟩:=zeo (seg:=R.seg) (l:=R.l) (bs:=[(z0e b0).at z']) (.inr hp)
   refine .inl ?_
   rw [hR,r2,g3,hrall]
 ·have:=(hst.2.2.2.2 (h.calm c)).gone
  rw [this] at h2;cases h2
set_option maxHeartbeats 1000000 in
end
abbrev cP (b:BatM) (k:Nat) (q:Int) (z:Sl):Array Value:=#[.int .i64 (b.base+(k:Int)),.int .i64 b.pid,.int .i64 b.epoch,.int .i64 q,.int .i64 b.kind,.int .i64 b.time,.slice z.a z.len z.cap]
def InB (pool bs:List BatM):Prop:=∀ b ∈ bs,∃ c ∈ pool,b.x=c.x/\b.rs=c.rs
theorem InB.rd {pool bs:List BatM} {l:List HP} (h:InB pool bs):∀ b ∈ bs,FocR (z0v pool::l) b.x 4 (b.rs.flatMap zy):=λb hb=>by
 obtain ⟨c,hc,e1,e2⟩:=h b hb
 rw [e1,e2]
 exact zaf hc
theorem InB.more {pool bs:List BatM} (h:InB pool bs) (q:List BatM):InB (pool++q) bs:=λb hb=>by
 obtain ⟨c,hc,e⟩:=h b hb
 exact ⟨c,List.mem_append_left _ hc,e⟩
theorem InB.app {pool a b:List BatM} (h1:InB pool a) (h2:InB pool b):InB pool (a++b):=λx hx=>by
 rcases List.mem_append.1 hx with hx|hx
 ·exact h1 x hx
 ·exact h2 x hx
section
variable {w:World} {l r:List HP} {lg:Nat} {A:LogA}
theorem zx4 [hf:Fo l lgP lg A r] (hlen:A.l.length<=1000000000) (hs:Sat w l):Ret P F.a104 #[.pointer (some ⟨lg,0,none⟩)] w λvs w'=>vs=[.int .i64 (zp A.l)]/\Sat w' (lgP lg A::r):=by
 have hs:=hs.perm hf.perm
 clear hf
 obtain ⟨M,hM,hsn⟩:=z7m hs
 clear hs
 subst hM
 have hll:M.l.length=M.SM.length:=List.length_map ..
 have hMl:M.A.l=M.l:=rfl
 rw [hMl] at hlen
 refine (zaq (lg:=lg) (M:=M) (by omega) hsn).mono λvs w' h=>?_
 obtain ⟨h1,h2⟩:=h
 exact ⟨h1,z4e M h2⟩
set_option maxHeartbeats 1000000 in
end
structure PartA where
 L:LogA
 most:Int
 T:TabA
 V:ViewA
def paP (p:Nat) (A:PartA):HP:=HP.ex λM:Nat × Nat × Nat=>HP.star (pt p (.cells #[.pointer (some ⟨M.1,0,none⟩),.pointer (some ⟨A.L.d,0,none⟩),.string A.L.pre,.int .i64 A.most,.pointer (some ⟨M.2.1,0,none⟩),.pointer (some ⟨M.2.2,0,none⟩)] T.a30))
 (HP.star (lgP M.1 A.L) (HP.star (tb M.2.1 A.T) (vw M.2.2 A.V)))
def z2v (A:PartA):Int:=if A.V.op.length=0 then zp A.L.l else max (z16 A.V) (z1r A.L.l)
section
variable {w:World} {l r r1 r2 r3 r4 l':List HP} {p lg t v:Nat} {A:PartA} {D:DiskA}
theorem z50 (hs:Sat w (paP p A::l)):∃ lg t v:Nat,Sat w (pt p (.cells #[.pointer (some ⟨lg,0,none⟩),.pointer (some ⟨A.L.d,0,none⟩),.string A.L.pre,.int .i64 A.most,.pointer (some ⟨t,0,none⟩),.pointer (some ⟨v,0,none⟩)] T.a30)::lgP lg A.L::tb t A.T::vw v A.V::l):=by
 obtain ⟨⟨lg,t,v⟩,hs⟩:=hs.ex
 have hs:=hs.star
 have hs:=(hs.pick [1]).star
 have hs:=(hs.pick [1]).star
 exact ⟨lg,t,v,hs.pick [3,2,0]⟩
theorem z06z (lg t v:Nat) (hs:Sat w (pt p (.cells #[.pointer (some ⟨lg,0,none⟩),.pointer (some ⟨A.L.d,0,none⟩),.string A.L.pre,.int .i64 A.most,.pointer (some ⟨t,0,none⟩),.pointer (some ⟨v,0,none⟩)] T.a30)::lgP lg A.L::tb t A.T::vw v A.V::l)):Sat w (paP p A::l):=by
 have h1:=(hs.pick [2,2]).star_mk
 have h2:=(h1.pick [2,0]).star_mk
 exact .ex_mk (lg,t,v) ((h2.pick [1]).star_mk)
theorem z2k (A:PartA) (hs:Sat w l) [h1:FocB l p (.cells [.pointer (some ⟨lg,0,none⟩),.pointer (some ⟨A.L.d,0,none⟩),.string A.L.pre,.int .i64 A.most,.pointer (some ⟨t,0,none⟩),.pointer (some ⟨v,0,none⟩)].toArray T.a30) r1] [h2:Fo r1 lgP lg A.L r2] [h3:Fo r2 tb t A.T r3] [h4:Fo r3 vw v A.V r4] [h5:Sub r4 l']:Sat w (paP p A::l'):=by
 have hs:=hs.perm (h1.perm.trans (.cons _ (h2.perm.trans (.cons _ (h3.perm.trans (.cons _ h4.perm))))))
 have hs:Sat w (paP p A::r4):=z06z lg t v hs
 exact hs.sub
theorem zpk [hf:Fo l paP p A r] (hlen:A.L.l.length<=1000000000) (hs:Sat w l):Ret P F.a72 #[.pointer (some ⟨p,0,none⟩)] w λvs w'=>vs=[.int .i64 (zp A.L.l)]/\Sat w' (paP p A::r) :=
 zte _ <| by
  delta z060 AF Aa Af Ah Ai Aj Ba Bb
  obtain ⟨lg,t,v,hs⟩:=z50 (hs.perm hf.perm)
  refine z07 ?_ (by simp)
  refine zk ?_
  refine za hs ?_
  refine z8 (zx4 (lg:=lg) (A:=A.L) hlen hs) λ_ w' hs=>?_
  obtain ⟨rfl,hs⟩:=hs
  refine zb ?_
  refine wp_lt ?_
  exact ⟨rfl,rfl,z2k A hs⟩
theorem zxj [hf:Fo l paP p A r] (hs:Sat w l):Ret P F.a70 #[.pointer (some ⟨p,0,none⟩)] w λvs w'=>vs=[.int .i64 (z1r A.L.l)]/\Sat w' (paP p A::r) :=
 ztc _ <| by
  delta z05y AF Aa Af Ah Ai Aj Ba Bb
  obtain ⟨lg,t,v,hs⟩:=z50 (hs.perm hf.perm)
  refine z07 ?_ (by simp)
  refine zk ?_
  refine za hs ?_
  obtain ⟨M,hM,hsl⟩:=z7m (hs.pick [1])
  refine z8 (zgr (lg:=lg) hsl) λ_ w' hs=>?_
  obtain ⟨rfl,hs⟩:=hs
  refine zb ?_
  refine wp_lt ?_
  have hMl:M.l=A.L.l:=congrArg LogA.l hM
  have hs:=z4e M hs
  rw [hM] at hs
  rw [hMl]
  exact ⟨rfl,rfl,z2k A hs⟩
theorem zik [hf:Fo l paP p A r] (hlen:A.L.l.length<=1000000000) (hs:Sat w l):Ret P F.a74 #[.pointer (some ⟨p,0,none⟩)] w λvs w'=>vs=[.int .i64 (z2v A)]/\Sat w' (paP p A::r) :=
 ztg _ <| by
  delta z062 AC AF Aa Af Ah Ai Aj Am Ba Bb;unfold z2v
  obtain ⟨lg,t,v,hs⟩:=z50 (hs.perm hf.perm)
  refine z07 ?_ (by simp)
  refine zk ?_
  refine za hs ?_
  refine z8 (z01h (v:=v) (A:=A.V) hs) λ_ w' hs=>?_
  obtain ⟨z,rfl,hs⟩:=hs
  refine zb ?_
  have hz:=hs.slen z (xs:=A.V.op) (enc:=z2r)
  refine ze (λh=>?_) λh=>?_
  ·have h0:A.V.op.length=0:=by simpa [hz] using h
   rw [if_pos h0]
   have hs:Sat w' (paP p A::r):=z2k A hs
   refine z8 (zpk (p:=p) (A:=A) hlen hs) λ_ w' hs=>?_
   obtain ⟨rfl,hs⟩:=hs
   refine zb ?_
   refine wp_lt ?_
   exact ⟨rfl,rfl,hs⟩
  ·have h0:¬ A.V.op.length=0:=by simpa [hz] using h
   rw [if_neg h0]
   refine zk ?_
   refine za hs ?_
   refine z8 (zi4 (v:=v) (A:=A.V) hs) λ_ w' hs=>?_
   obtain ⟨rfl,hs⟩:=hs
   refine zb ?_
   have hs:Sat w' (paP p A::r):=z2k A hs
   refine z8 (zxj (p:=p) (A:=A) hs) λ_ w' hs=>?_
   obtain ⟨rfl,hs⟩:=hs
   refine zb ?_
   refine wp_lt ?_
   refine ⟨rfl,?_,hs⟩
   have e:(if z1r A.L.l>z16 A.V then z1r A.L.l else z16 A.V)=max (z16 A.V) (z1r A.L.l):=by split <;> omega
   rw [e]
end
def za5 (A:PartA) (b:BatM):VerA × Int:=if (z1s A.T b).2≠0\/(z1s A.T b).1.again=true then z1s A.T b else ((z1s A.T b).1,z3w A.V b)
def z5h (A:PartA) (b:BatM):PartA:=⟨A.L,A.most,(zjd A.T b).2,(za1 A.V b).2⟩
def PartA.log (A:PartA) (l:List SegA):PartA:=⟨A.L.set l,A.most,A.T,A.V⟩
def zjk (A:PartA) (D:DiskA) (c:BatM):(Int × Bool × Int) × PartA × DiskA :=
 if (z0m A.L.pre A.L.seg A.L.l D [c]).1.2≠0 then ((0,false,(z0m A.L.pre A.L.seg A.L.l D [c]).1.2),A.log (z0m A.L.pre A.L.seg A.L.l D [c]).2.1,(z0m A.L.pre A.L.seg A.L.l D [c]).2.2) else
 if (z0i A.L.pre (z0m A.L.pre A.L.seg A.L.l D [c]).2.1 (z0m A.L.pre A.L.seg A.L.l D [c]).2.2).1≠0 then ((0,false,(z0i A.L.pre (z0m A.L.pre A.L.seg A.L.l D [c]).2.1 (z0m A.L.pre A.L.seg A.L.l D [c]).2.2).1),A.log (z0m A.L.pre A.L.seg A.L.l D [c]).2.1,(z0i A.L.pre (z0m A.L.pre A.L.seg A.L.l D [c]).2.1 (z0m A.L.pre A.L.seg A.L.l D [c]).2.2).2) else
 (((z0m A.L.pre A.L.seg A.L.l D [c]).1.1,false,0),z5h (A.log (z0m A.L.pre A.L.seg A.L.l D [c]).2.1) (c.to (z0m A.L.pre A.L.seg A.L.l D [c]).1.1),(z0i A.L.pre (z0m A.L.pre A.L.seg A.L.l D [c]).2.1 (z0m A.L.pre A.L.seg A.L.l D [c]).2.2).2)
def z0u (A:PartA) (D:DiskA) (b:BatM):(Int × Bool × Int) × PartA × DiskA :=
 if (za5 A (b.to (zp A.L.l))).2≠0\/(za5 A (b.to (zp A.L.l))).1.again=true then (((za5 A (b.to (zp A.L.l))).1.base,(za5 A (b.to (zp A.L.l))).1.again,(za5 A (b.to (zp A.L.l))).2),A,D)
 else zjk A D (b.to (zp A.L.l))
instance {n k:Int} {b:Bool}:IsR (.tup [.one (.int .i64),.one .bool,.one (.int .i64)]) [.int .i64 n,.bool b,.int .i64 k] (n,b,k,()):=⟨rfl⟩
section
variable {w:World} {l r r1 r2 r3 r4 l':List HP} {p lg t v:Nat} {A:PartA} {D:DiskA}
theorem zpq (b:BatM) [hf:Fo l paP p A r] [hb:FocR r b.x 4 (b.rs.flatMap zy)] (hs:Sat w l):Ret P F.a79 #[.pointer (some ⟨p,0,none⟩),.agg (zn b).toArray] w λvs w'=>vs=[]/\Sat w' (paP p (z5h A b)::r) :=
 ztl _ b.base b.pid b.epoch b.seq b.kind b.time b.x <| by
  delta z067 AA AF AM Ah Aj Ao Aw Ay Ba Bb
  obtain ⟨lg,t,v,hs⟩:=z50 (hs.perm hf.perm)
  refine zt hs λa0 w' hs=>?_
  refine z02 hs λw' hs=>?_
  refine zk ?_
  refine za hs ?_
  refine zj hs ?_
  refine z8 (z02k (t:=t) (A:=A.T) b hs) λ_ _ hs=>?_
  obtain ⟨rfl,hs⟩:=hs
  refine zb ?_
  refine zd ?_
  refine z02 hs λw' hs=>?_
  refine zk ?_
  refine za hs ?_
  refine zj hs ?_
  refine z8 (z01i (v:=v) (A:=A.V) b hs) λ_ _ hs=>?_
  obtain ⟨rfl,hs⟩:=hs
  refine zb ?_
  refine zd ?_
  exact ⟨rfl,rfl,z2k (lg:=lg) (t:=t) (v:=v) (z5h A b) hs⟩
theorem zpi (b:BatM) (hs:Sat w l):Ret P F.a82 #[.agg (zn b).toArray] w λvs w'=>vs=[.bool (z00 b)]/\Sat w' l :=
 zto b.base b.pid b.epoch b.seq b.kind b.time b.x <| by
  delta z06a AL AM Aj Ao Aq Ar
  refine zt hs λa0 w' hs=>?_
  refine za hs ?_
  refine za hs ?_
  refine wp_lt ?_
  refine ⟨rfl,?_,hs.tail⟩
  unfold z00
  rfl
theorem z03w (b:BatM) [hf:Fo l paP p A r] [hb:FocR r b.x 4 (b.rs.flatMap zy)] (hs:Sat w l):Ret P F.a75 #[.pointer (some ⟨p,0,none⟩),.agg (zn b).toArray] w λvs w'=>vs=[.agg (zff (za5 A b).1).toArray,.int .i64 (za5 A b).2]/\Sat w' (paP p A::r) :=
 zth _ b.base b.pid b.epoch b.seq b.kind b.time b.x <| by
  delta z063 AA AF AG AM AP Aa Ab Ac Af Ah Ai Aj Ao Aw Ay Ba Bb Bg Bk Bl Bn Bx;unfold za5
  obtain ⟨lg,t,v,hs⟩:=z50 (hs.perm hf.perm)
  refine zt hs λa0 w' hs=>?_
  refine zq hs λa1 w' hs=>?_
  refine zf (λq w'=>∃ a:Nat,q=(⟨a,0,none⟩,(z1s A.T b).2,())/\Sat w' (pt a (.cells #[.bool (z1s A.T b).1.again,.int .i64 (z1s A.T b).1.base] T.a6)::pt a1 (.cells #[.bool false,.int .i64 0] T.a6)::pt a0 (.cells #[.int .i64 b.base,.int .i64 b.pid,.int .i64 b.epoch,.int .i64 b.seq,.int .i64 b.kind,.int .i64 b.time,.slice b.x.a b.x.len b.x.cap] T.a0)::paP p A::r)) ?_ ?_
  ·refine z02 hs λw' hs=>?_
   refine zk ?_
   refine z1d hs ?_
   refine zge hs ?_
   refine ⟨?_,?_⟩
   ·refine zd ?_
    refine z8 (zeu (t:=t) (A:=A.T) b hs) λ_ _ hs=>?_
    obtain ⟨rfl,hs⟩:=hs
    refine zb ?_
    refine zq hs λa15 w' hs=>?_
    refine zr hs λw' hs=>?_
    refine wp_lt ?_
    refine zd ?_
    have hs:Sat w' (pt a15 (.cells #[.bool (z1s A.T b).1.again,.int .i64 (z1s A.T b).1.base] T.a6)::_):=hs
    refine zg ⟨a15,rfl,?_⟩
    have hs:Sat w' (paP p A::pt a15 (.cells #[.bool (z1s A.T b).1.again,.int .i64 (z1s A.T b).1.base] T.a6)::pt a1 (.cells #[.bool false,.int .i64 0] T.a6)::pt a0 (.cells #[.int .i64 b.base,.int .i64 b.pid,.int .i64 b.epoch,.int .i64 b.seq,.int .i64 b.kind,.int .i64 b.time,.slice b.x.a b.x.len b.x.cap] T.a0)::r):=z2k (lg:=lg) (t:=t) (v:=v) A hs
    exact hs.pick [1,1,1,0]
   ·refine zq hs λa17 w' hs=>?_
    refine zd ?_
    refine z8 (zeu (t:=t) (A:=A.T) b hs) λ_ _ hs=>?_
    obtain ⟨rfl,hs⟩:=hs
    refine zb ?_
    refine zr hs λw' hs=>?_
    refine wp_lt ?_
    refine zd ?_
    refine zg ⟨a17,rfl,?_⟩
    have hs:Sat w' (paP p A::pt a17 (.cells #[.bool (z1s A.T b).1.again,.int .i64 (z1s A.T b).1.base] T.a6)::pt a1 (.cells #[.bool false,.int .i64 0] T.a6)::pt a0 (.cells #[.int .i64 b.base,.int .i64 b.pid,.int .i64 b.epoch,.int .i64 b.seq,.int .i64 b.kind,.int .i64 b.time,.slice b.x.a b.x.len b.x.cap] T.a0)::r):=z2k (lg:=lg) (t:=t) (v:=v) A hs
    exact hs.pick [1,1,1,0]
  clear hs
  rintro _ w ⟨a,rfl,hs⟩
  refine z40 _ _ ?_
  generalize z1s A.T b=j at *
  obtain ⟨v0,e⟩:=j
  simp only at hs ⊢
  refine za hs ?_
  refine ze (λh=>?_) λh=>?_
  ·rw [if_pos h]
   refine zj hs ?_
   refine zr hs λw' hs=>?_
   refine wp_lt ?_
   refine zj hs ?_
   exact ⟨rfl,rfl,hs.sub⟩
  rw [if_neg h]
  refine zf (λq w'=>q=(z3w A.V b,())/\Sat w' (pt a1 (.cells #[.bool v0.again,.int .i64 v0.base] T.a6)::paP p A::r)) ?_ ?_
  ·refine z02 hs λw' hs=>?_
   refine zge hs ?_
   obtain ⟨lg,t,v,hs⟩:=z50 (hs.pick [3])
   refine zk ?_
   refine za hs ?_
   refine zj hs ?_
   refine z8 (zus (v:=v) (A:=A.V) b hs) λ_ w' hs=>?_
   obtain ⟨rfl,hs⟩:=hs
   refine zb ?_ (by first|trivial|(repeat (first|exact trivial|exact λ_=>z0a hs|exact λ_=>z0p hs|refine And.intro ?_ ?_)))
   refine zd ?_
   refine zr hs λw' hs=>?_
   refine wp_lt ?_
   refine zd ?_
   refine zg ⟨rfl,?_⟩
   have hs:Sat w' (paP p A::pt a1 (.cells #[.bool v0.again,.int .i64 v0.base] T.a6)::r):=z2k (lg:=lg) (t:=t) (v:=v) A hs
   exact hs.pick [1]
  clear hs
  rintro _ w ⟨rfl,hs⟩
  refine zl ?_
  refine zj hs ?_
  exact ⟨rfl,rfl,hs.sub⟩
theorem zx1 (pre:ByteArray) (seg:Int) (l:List SegA) (D:DiskA) (bs:List BatM):(z0m pre seg l D bs).2.1.length<=l.length+1:=by
 unfold z0m
 split
 ·exact Nat.le_succ _
 split
 ·exact Nat.le_succ _
 split
 ·split
  ·exact Nat.le_succ _
  ·unfold z45
   split <;> simp
 split
 ·exact Nat.le_succ _
 split
 ·exact Nat.le_succ _
 ·simp
set_option maxHeartbeats 1000000 in
theorem zvk (b:BatM) {r1:List HP} [hf:Fo l paP p A r1] [hf2:Fo r1 dk A.L.d D r] (hb:FocR r b.x 4 (b.rs.flatMap zy)) (hlen:A.L.l.length<=100000) (hok:z0b 0 A.L.l) (hfl:∀ s ∈ A.L.l,s.file.length<=500000000) (hr:b.rs.length<=1000000) (hs:Sat w l) :
  Ret P F.a77 #[.pointer (some ⟨p,0,none⟩),.agg (zn b).toArray] w λvs w'=>vs=[.int .i64 (z0u A D b).1.1,.bool (z0u A D b).1.2.1,.int .i64 (z0u A D b).1.2.2]/\Sat w' (paP p (z0u A D b).2.1::dk A.L.d (z0u A D b).2.2::r) :=
 ztj _ b.base b.pid b.epoch b.seq b.kind b.time b.x <| by
  delta z065 AA AF AG AL AM AR AS AY Aa Ab Ac Af Ah Ai Aj Ao Ap Aq Au Aw Ay Ba Bb Bg Bk Bl Bn Bo Bp;unfold z0u
  have hs:=hs.perm (hf.perm.trans (.cons _ hf2.perm))
  clear hf hf2
  have hb':FocR r (b.to (zp A.L.l)).x 4 ((b.to (zp A.L.l)).rs.flatMap zy):=hb
  have hr':(b.to (zp A.L.l)).rs.length<=1000000:=hr
  refine zt hs λa0 w' hs=>?_
  refine z8 (zpk (p:=p) (A:=A) (by omega) hs) λ_ w' hs=>?_
  obtain ⟨rfl,hs⟩:=hs
  refine zb ?_
  refine z08 hs λw' hs=>?_
  have hs:Sat w' (pt a0 (.cells (zn (b.to (zp A.L.l))).toArray T.a0)::paP p A::dk A.L.d D::r):=hs
  generalize b.to (zp A.L.l)=c at *
  have hs:Sat w' (pt a0 (.cells #[.int .i64 c.base,.int .i64 c.pid,.int .i64 c.epoch,.int .i64 c.seq,.int .i64 c.kind,.int .i64 c.time,.slice c.x.a c.x.len c.x.cap] T.a0)::paP p A::dk A.L.d D::r):=hs
  refine zj hs ?_
  refine z8 (z03w (p:=p) (A:=A) c hs) λ_ w' hs=>?_
  obtain ⟨rfl,hs⟩:=hs
  refine zb ?_
  refine zq hs λa12 w' hs=>?_
  refine zr hs λw' hs=>?_
  refine wp_lt ?_
  refine za hs ?_
  refine ze (λh=>?_) λh=>?_
  ·rw [if_pos h]
   refine z02 hs λw' hs=>?_
   refine za hs ?_
   refine za hs ?_
   refine wp_lt ?_
   refine wp_lt ?_
   refine wp_lt ?_
   refine zd ?_
   exact ⟨rfl,rfl,hs.sub⟩
  rw [if_neg h]
  have hs:Sat w' (pt a0 (.cells #[.int .i64 c.base,.int .i64 c.pid,.int .i64 c.epoch,.int .i64 c.seq,.int .i64 c.kind,.int .i64 c.time,.slice c.x.a c.x.len c.x.cap] T.a0)::paP p A::dk A.L.d D::r):=hs.sub
  unfold zjk
  have hlsg:=zuv (pre:=A.L.pre) (seg:=A.L.seg) (D:=D) (bs:=[c]) hok
  have hlln:=zx1 A.L.pre A.L.seg A.L.l D [c]
  generalize hla:z0m A.L.pre A.L.seg A.L.l D [c]=la at *
  refine zf (λq w'=>q=(la.1.2,la.1.1,())/\Sat w' (pt a0 (.cells #[.int .i64 c.base,.int .i64 c.pid,.int .i64 c.epoch,.int .i64 c.seq,.int .i64 c.kind,.int .i64 c.time,.slice c.x.a c.x.len c.x.cap] T.a0)::paP p (A.log la.2.1)::dk A.L.d la.2.2::r)) ?_ ?_
  ·refine z02 hs λw' hs=>?_
   obtain ⟨lg,t,v,hs⟩:=z50 (hs.pick [1])
   refine zk ?_
   refine z1d hs ?_
   refine zj hs ?_
   refine z7w hs (enc:=zn) [c] λy w' hs=>⟨(by first|trivial|(repeat (first|exact trivial|exact λ_=>z0a hs|exact λ_=>z0p hs|refine And.intro ?_ ?_))),?_⟩
   refine zd ?_
   refine z8 (z02y (lg:=lg) (A:=A.L) (D:=D) c y (by omega) hok hfl inferInstance inferInstance hs) λ_ w' hs=>?_
   obtain ⟨rfl,hs⟩:=hs
   rw [hla] at hs ⊢
   refine ⟨(la.1.1,la.1.2,()),rfl,trivial,z40 _ _ ?_⟩
   refine wp_lt ?_
   refine wp_lt ?_
   refine zd ?_
   refine zg ⟨rfl,?_⟩
   have hs:Sat w' (lgP lg (A.log la.2.1).L::_):=hs
   have hs:Sat w' (paP p (A.log la.2.1)::dk A.L.d la.2.2::pt a0 (.cells #[.int .i64 c.base,.int .i64 c.pid,.int .i64 c.epoch,.int .i64 c.seq,.int .i64 c.kind,.int .i64 c.time,.slice c.x.a c.x.len c.x.cap] T.a0)::r):=z2k (lg:=lg) (t:=t) (v:=v) (A.log la.2.1) hs
   exact hs.pick [2]
  clear hs
  rintro _ w ⟨rfl,hs⟩
  refine z40 _ _ ?_
  obtain ⟨⟨at_,e⟩,l',D'⟩:=la
  simp only at hs hlsg hlln ⊢
  refine zf (λq w'=>q=((if e≠0 then e else (z0i A.L.pre l' D').1),())/\Sat w' (pt a0 (.cells #[.int .i64 c.base,.int .i64 c.pid,.int .i64 c.epoch,.int .i64 c.seq,.int .i64 c.kind,.int .i64 c.time,.slice c.x.a c.x.len c.x.cap] T.a0)::paP p (A.log l')::dk A.L.d (if e≠0 then D' else (z0i A.L.pre l' D').2)::r)) ?_ ?_
  ·refine ze (λh1=>?_) λh1=>?_
   ·have hs:Sat w (paP p (A.log l')::pt a0 (.cells #[.int .i64 c.base,.int .i64 c.pid,.int .i64 c.epoch,.int .i64 c.seq,.int .i64 c.kind,.int .i64 c.time,.slice c.x.a c.x.len c.x.cap] T.a0)::dk (A.log l').L.d D'::r):=hs.pick [1]
    obtain ⟨lg,t,v,hs⟩:=z50 hs
    refine zk ?_
    refine za hs ?_
    refine z8 (zx6 (lg:=lg) (A:=(A.log l').L) (D:=D') (by show l'.length<=_;omega) hlsg hs) λ_ w' hs=>?_
    obtain ⟨rfl,hs⟩:=hs
    refine zb ?_
    refine wp_lt ?_
    refine zg ⟨?_,?_⟩
    ·rw [if_neg (by simpa using h1)];rfl
    ·rw [if_neg (by simpa using h1)]
     have hs:Sat w' (lgP lg (A.log l').L::dk A.L.d (z0i A.L.pre l' D').2::_):=hs
     have hs:Sat w' (paP p (A.log l')::dk A.L.d (z0i A.L.pre l' D').2::pt a0 (.cells #[.int .i64 c.base,.int .i64 c.pid,.int .i64 c.epoch,.int .i64 c.seq,.int .i64 c.kind,.int .i64 c.time,.slice c.x.a c.x.len c.x.cap] T.a0)::r):=z2k (lg:=lg) (t:=t) (v:=v) (A.log l') hs
     exact hs.pick [2]
   ·refine zg ⟨?_,?_⟩
    ·rw [if_pos (by simpa using h1)]
    ·rw [if_pos (by simpa using h1)];exact hs
  clear hs
  rintro _ w ⟨rfl,hs⟩
  refine zl ?_
  by_cases he:e≠0
  ·rw [if_pos he] at hs ⊢
   rw [if_pos he]
   refine z10 ?_ (by simpa using he)
   refine wp_lt ?_
   exact ⟨rfl,rfl,hs.sub⟩
  rw [if_neg he] at hs ⊢
  rw [if_neg he]
  refine ze (λh2=>?_) λh2=>?_
  ·rw [if_pos h2]
   refine wp_lt ?_
   exact ⟨rfl,rfl,hs.sub⟩
  rw [if_neg h2]
  refine z08 hs λw' hs=>?_
  refine zj hs ?_
  have hb2:FocR r (c.to at_).x 4 ((c.to at_).rs.flatMap zy):=hb'
  refine z8 (zpr (c.to at_) hr' hs) λ_ w' hs=>?_
  obtain ⟨z,rfl,hs⟩:=hs
  refine ⟨(at_,c.pid,c.epoch,c.seq,c.kind,c.time,z,()),rfl,trivial,zgh _ _ _ _ _ _ _ ?_⟩
  have hb3:FocR (slc T.a2 4 z ((c.to at_).rs.flatMap zy)::dk A.L.d (z0i A.L.pre l' D').2::r) ((c.to at_).at z).x 4 (((c.to at_).at z).rs.flatMap zy):=(FocR.head:FocR (slc T.a2 4 z ((c.to at_).rs.flatMap zy)::_) z 4 ((c.to at_).rs.flatMap zy))
  have hs:Sat w' (paP p (A.log l')::slc T.a2 4 z ((c.to at_).rs.flatMap zy)::dk A.L.d (z0i A.L.pre l' D').2::r):=hs.sub
  refine z8 (zpq (p:=p) (A:=A.log l') ((c.to at_).at z) hs) λ_ w' hs=>?_
  obtain ⟨rfl,hs⟩:=hs
  refine zb ?_
  refine wp_lt ?_
  have hs:Sat w' (paP p (z5h (A.log l') (c.to at_))::_):=hs
  exact ⟨rfl,rfl,hs.sub⟩
theorem zve (b:BatM) {r1:List HP} [hf:Fo l paP p A r1] [hf2:Fo r1 dk A.L.d D r] (hb:FocR r b.x 4 (b.rs.flatMap zy)) (hlen:A.L.l.length<=100000) (hok:z0b 0 A.L.l) (hfl:∀ s ∈ A.L.l,s.file.length<=500000000) (hr:b.rs.length<=1000000) (hm:z00 b=false) (hs:Sat w l) :
  Ret P F.a68 #[.pointer (some ⟨p,0,none⟩),.agg (zn b).toArray] w λvs w'=>vs=[.int .i64 (z0u A D b).1.1,.bool (z0u A D b).1.2.1,.int .i64 (z0u A D b).1.2.2]/\Sat w' (paP p (z0u A D b).2.1::dk A.L.d (z0u A D b).2.2::r) :=
 zgl _ b.base b.pid b.epoch b.seq b.kind b.time b.x <| by
  delta zys AJ AL AM AZ Aa Af Ah Aj Ao Av Aw
  have hs:=hs.perm (hf.perm.trans (.cons _ hf2.perm))
  clear hf hf2
  refine zt hs λa0 w' hs=>?_
  refine wp_lt ?_
  refine z07 ?_ (by simp)
  refine zj hs ?_
  refine z8 (zpi b hs) λ_ w' hs=>?_
  obtain ⟨rfl,hs⟩:=hs
  refine zb ?_
  refine wp_lt ?_
  refine z07 ?_ (by rw [hm];simp)
  refine zj hs ?_
  have hs:=hs.pick [1,1]
  refine z8 (zvk (p:=p) (A:=A) (D:=D) b inferInstance hlen hok hfl hr hs) λ_ w' hs=>?_
  obtain ⟨rfl,hs⟩:=hs
  refine zb ?_
  refine wp_lt ?_
  refine wp_lt ?_
  refine wp_lt ?_
  exact ⟨rfl,rfl,hs.sub⟩
def z4m (pid epoch:Int) (commit:Bool) (time:Int) (x:Sl):BatM:=⟨0,pid,epoch,0,if commit then 2 else 3,time,x,[]⟩
theorem z02a (pid epoch:Int) (commit:Bool) (time:Int) (hs:Sat w l):Ret P F.a88 #[.int .i64 pid,.int .i64 epoch,.bool commit,.int .i64 time] w λvs w'=>vs=[.agg (zn (z4m pid epoch commit time ⟨none,0,0⟩)).toArray]/\Sat w' l :=
 ztu _ _ _ _ <| by
  delta z06h AS Aa Ab Ac Ai Aj Ao As Aw
  refine zq hs λa0 w' hs=>?_
  refine zq hs λa1 w' hs=>?_
  refine zr hs λw' hs=>?_
  refine zf (λq w'=>Sat w' (pt a1 (.cells (zn (z4m pid epoch commit time ⟨none,0,0⟩)).toArray T.a0)::pt a0 (.cells #[.int .i64 0,.int .i64 0,.int .i64 0,.int .i64 0,.int .i64 0,.int .i64 0,.slice none 0 0] T.a0)::l)) ?_ ?_
  ·cases commit with
   | true =>
    refine z10 ?_ (by simp)
    refine z08 hs λw' hs=>?_
    exact zg hs
   | false =>
    refine z07 ?_ (by simp)
    exact zg hs
  clear hs
  rintro _ w hs
  have hs:Sat w (pt a1 (.cells #[.int .i64 0,.int .i64 pid,.int .i64 epoch,.int .i64 0,.int .i64 (if commit then 2 else 3),.int .i64 time,.slice none 0 0] T.a0)::pt a0 (.cells #[.int .i64 0,.int .i64 0,.int .i64 0,.int .i64 0,.int .i64 0,.int .i64 0,.slice none 0 0] T.a0)::l):=hs
  refine zl ?_
  refine zj hs ?_
  refine zr hs λw' hs=>?_
  refine zj hs ?_
  exact ⟨rfl,rfl,hs.tail.tail⟩
theorem z01v (pid epoch:Int) (commit:Bool) (time:Int) {r1:List HP} [hf:Fo l paP p A r1] [hf2:Fo r1 dk A.L.d D r] (hlen:A.L.l.length<=100000) (hok:z0b 0 A.L.l) (hfl:∀ s ∈ A.L.l,s.file.length<=500000000) (hs:Sat w l) :
  Ret P F.a71 #[.pointer (some ⟨p,0,none⟩),.int .i64 pid,.int .i64 epoch,.bool commit,.int .i64 time] w λvs w'=>vs=[.int .i64 (z0u A D (z4m pid epoch commit time ⟨none,0,0⟩)).1.1,.bool (z0u A D (z4m pid epoch commit time ⟨none,0,0⟩)).1.2.1,.int .i64 (z0u A D (z4m pid epoch commit time ⟨none,0,0⟩)).1.2.2]/\Sat w' (paP p (z0u A D (z4m pid epoch commit time ⟨none,0,0⟩)).2.1::dk A.L.d (z0u A D (z4m pid epoch commit time ⟨none,0,0⟩)).2.2::r) :=
 ztd _ _ _ _ _ <| by
  delta z05z AL Aa Af Ah Ai Aj Ao Ap Av
  have hs:=hs.perm (hf.perm.trans (.cons _ hf2.perm))
  clear hf hf2
  refine z07 ?_ (by simp)
  refine z8 (z02a pid epoch commit time hs) λ_ w' hs=>?_
  obtain ⟨rfl,hs⟩:=hs
  refine ⟨(0,pid,epoch,0,(if commit then 2 else 3),time,⟨none,0,0⟩,()),rfl,trivial,zgh _ _ _ _ _ _ _ ?_⟩
  have hs:Sat w' (slc T.a2 4 ⟨none,0,0⟩ (([]:List RecM).flatMap zy)::_):=hs.slc_nil
  have hb:FocR (slc T.a2 4 ⟨none,0,0⟩ (([]:List RecM).flatMap zy)::r) (z4m pid epoch commit time ⟨none,0,0⟩).x 4 ((z4m pid epoch commit time ⟨none,0,0⟩).rs.flatMap zy):=(FocR.head:FocR (slc T.a2 4 ⟨none,0,0⟩ (([]:List RecM).flatMap zy)::r) ⟨none,0,0⟩ 4 (([]:List RecM).flatMap zy))
  have hs:Sat w' (paP p A::dk A.L.d D::slc T.a2 4 ⟨none,0,0⟩ (([]:List RecM).flatMap zy)::r):=hs.sub
  refine z8 (zvk (p:=p) (A:=A) (D:=D) (z4m pid epoch commit time ⟨none,0,0⟩) hb hlen hok hfl (by show 0<=_;omega) hs) λ_ w' hs=>?_
  obtain ⟨rfl,hs⟩:=hs
  refine zb ?_
  refine wp_lt ?_
  refine wp_lt ?_
  refine wp_lt ?_
  exact ⟨rfl,rfl,hs.sub⟩
end
def z2u (A:PartA) (c:Bool):Int->List BatM->List AtM × Int
 | n,[]=>([],n)
 | n,b::bs=>if c=true/\b.base>=z2v A then ([],n) else ((if c=false\/z1x A.V b=1 then z20 b else [])++(z2u A c (z1k b) bs).1,(z2u A c (z1k b) bs).2)
def z2m (A:PartA) (off most:Int) (c:Bool):(List AtM × Int) × Int:=if (z4t A.L.l off most).1≠0 then (([],0),(z4t A.L.l off most).1) else (z2u A c off (z4t A.L.l off most).2,0)
theorem zpf (A:PartA) (c:Bool):∀ (bs:List BatM) (n:Int),z2u A c n (bs.map BatM.p)=z2u A c n bs
 | [],n=>rfl
 | b::bs,n=>by
  have ih:=zpf A c bs (z1k b)
  show (if c=true/\b.base>=z2v A then (([]:List AtM),n) else ((if c=false\/z1x A.V b=1 then z20 b else [])++(z2u A c (z1k b) (bs.map BatM.p)).1,(z2u A c (z1k b) (bs.map BatM.p)).2))=_
  rw [ih]
  rfl
theorem zih {A:PartA} {c:Bool} {n:Int} {b:BatM} {bs:List BatM} (h:c=true/\b.base>=z2v A):z2u A c n (b::bs)=([],n):=if_pos h
theorem zpg {A:PartA} {c:Bool} {n:Int} {b:BatM} {bs:List BatM} (h:¬ (c=true/\b.base>=z2v A)):z2u A c n (b::bs)=((if c=false\/z1x A.V b=1 then z20 b else [])++(z2u A c (z1k b) bs).1,(z2u A c (z1k b) bs).2):=if_neg h
theorem zvn (l:List SegA) (off most:Int):(z4t l off most).2.length<=(zv l).length:=by
 unfold z4t
 split
 ·exact Nat.zero_le _
 split
 ·exact Nat.zero_le _
 ·simp only [List.length_take]
  exact Nat.le_trans (Nat.min_le_right _ _) (List.length_filterMap_le ..)
theorem zxx {l:List SegA} {off most:Int} {b:BatM} (hok:z0b 0 l) (h:b ∈ (z4t l off most).2):b.rs.length<=64:=by
 unfold z4t at h
 split at h
 ·cases h
 split at h
 ·cases h
 ·obtain ⟨c,hc,hf⟩:=List.mem_filterMap.1 (List.mem_of_mem_take h)
  have hv:=((z8u (Int.le_refl 0) hok).valid c hc).1
  have h64:=(z2h hv).1
  unfold z0q at hf
  split at hf
  ·cases hf
  split at hf
  ·cases hf;exact h64
  ·cases hf
   show (c.rs.drop _).length<=64
   rw [List.length_drop];omega
section
variable {w:World} {l r:List HP} {p:Nat} {A:PartA} {D:DiskA}
set_option maxHeartbeats 1000000 in
theorem z021 (off most:Int) (c:Bool) (ho : -9223372036854775808<=off/\off<9223372036854775808) (hmo:most<9223372036854775808) {r1:List HP} [hf:Fo l paP p A r1] [hf2:Fo r1 dk A.L.d D r] (hok:z0b 0 A.L.l) (hhas:zjg A.L.pre A.L.l D) (hlen:A.L.l.length<=1000000) (hall:(zv A.L.l).length<=1000000) (hs:Sat w l) :
  Ret P F.a73 #[.pointer (some ⟨p,0,none⟩),.int .i64 off,.int .i64 most,.bool c] w λvs w'=>∃ z:Sl,vs=[z.v,.int .i64 (z2m A off most c).1.2,.int .i64 (z2m A off most c).2]/\Sat w' (slc T.a31 5 z ((z2m A off most c).1.1.flatMap z0g)::paP p A::dk A.L.d D::r) :=
 ztf _ off most c <| by
  delta z061 AA AB AC AD AE AF AI AY Aa Ab Ac Af Ah Ai Aj Ak Am An Ao Aw Ay Ba Bb Bc Bd;unfold z2m
  have hs:=hs.perm (hf.perm.trans (.cons _ hf2.perm))
  clear hf hf2
  obtain ⟨lg,t,v,hs⟩:=z50 hs
  refine z07 ?_ (by simp)
  refine zk ?_
  refine za hs ?_
  refine z8 (zp6 (lg:=lg) (A:=A.L) (D:=D) off most ho hmo hok hhas hlen hall hs) λ_ w' hs=>?_
  obtain ⟨y,outs,rfl,hmap,hs⟩:=hs
  refine ⟨(y,(z4t A.L.l off most).1,()),rfl,trivial,z40 _ _ ?_⟩
  have hs:Sat w' (slc T.a0 7 y (outs.flatMap zn)::z0v outs::paP p A::dk A.L.d D::r):=by
   have hs:Sat w' (paP p A::slc T.a0 7 y (outs.flatMap zn)::z0v outs::dk A.L.d D::r):=z2k (lg:=lg) (t:=t) (v:=v) A hs
   exact hs.pick [1,1]
  refine wp_lt ?_
  refine ze (λh=>?_) λh=>?_
  ·rw [if_pos h]
   refine wp_lt ?_
   have hs:Sat w' (slc T.a31 5 ⟨none,0,0⟩ (([]:List AtM).flatMap z0g)::_):=hs.slc_nil
   exact ⟨rfl,⟨none,0,0⟩,rfl,hs.sub⟩
  rw [if_neg h,<- hmap,zpf]
  have hol:outs.length<=1000000:=by
   have:=congrArg List.length hmap
   rw [List.length_map] at this
   rw [this]
   exact Nat.le_trans (zvn _ _ _) hall
  have hov:∀ b ∈ outs,b.rs.length<=64:=λb hb=>by
   have h1:b.p ∈ (z4t A.L.l off most).2:=by rw [<- hmap];exact List.mem_map.2 ⟨b,hb,rfl⟩
   have h2:=zxx hok h1
   exact h2
  have hly:=hs.slen y (xs:=outs) (enc:=zn)
  refine wp_lt ?_
  refine zf (λq w'=>∃ z:Sl,q=(z,(z2u A c off outs).2,())/\Sat w' (slc T.a31 5 z ((z2u A c off outs).1.flatMap z0g)::paP p A::dk A.L.d D::r)) ?_ ?_
  rotate_left
  ·rintro _ w2 ⟨z,rfl,hs⟩
   refine z40 _ _ ?_
   refine wp_lt ?_
   exact ⟨rfl,z,rfl,hs⟩
  have hs:Sat w' (slc T.a31 5 ⟨none,0,0⟩ (([]:List AtM).flatMap z0g)::slc T.a0 7 y (outs.flatMap zn)::z0v outs::paP p A::dk A.L.d D::r):=hs.slc_nil
  refine z03 (λm q w=>∃ (i:Nat) (z:Sl) (n:Int) (done:List AtM),q=(z,n,(i:Int),())/\i<=outs.length/\outs.length-i=m/\done.length<=64*i /\
   z2u A c off outs=(done++(z2u A c n (outs.drop i)).1,(z2u A c n (outs.drop i)).2) /\
   Sat w (slc T.a31 5 z (done.flatMap z0g)::slc T.a0 7 y (outs.flatMap zn)::z0v outs::paP p A::dk A.L.d D::r)) outs.length
   ⟨0,⟨none,0,0⟩,off,[],rfl,by omega,rfl,by simp,by simp,hs⟩ ?_
  clear hs
  rintro m _ w ⟨i,z,n,done,rfl,hi,hm,hdl,hq,hs⟩
  refine z7i _ _ _ ?_
  refine ze (λhc=>?_) λhc=>?_
  rotate_left
  ·have e:outs.drop i=[]:=List.drop_eq_nil_of_le (by omega)
   rw [e] at hq
   have hq:z2u A c off outs=(done++[],n):=hq
   rw [List.append_nil] at hq
   refine zh (zg ⟨z,by rw [hq],?_⟩)
   rw [hq]
   exact hs.sub
  have hil:i<outs.length:=by omega
  have hdrop:outs.drop i=outs[i]::outs.drop (i+1):=List.drop_eq_getElem_cons hil
  rw [hdrop] at hq
  have hrl:outs[i].rs.length<=64:=hov _ (List.getElem_mem hil)
  generalize hb:outs[i]=b at *
  have hbm:b ∈ outs:=by rw [<- hb];exact List.getElem_mem hil
  refine z3b hs i hil ?_
  rw [hb]
  refine zq hs λa w' hs=>?_
  refine zr hs λw' hs=>?_
  have hbr:FocR (z0v outs::paP p A::dk A.L.d D::r) b.x 4 (b.rs.flatMap zy):=zaf hbm
  have hs:Sat w' (pt a (.cells #[.int .i64 b.base,.int .i64 b.pid,.int .i64 b.epoch,.int .i64 b.seq,.int .i64 b.kind,.int .i64 b.time,.slice b.x.a b.x.len b.x.cap] T.a0)::slc T.a31 5 z (done.flatMap z0g)::slc T.a0 7 y (outs.flatMap zn)::z0v outs::paP p A::dk A.L.d D::r):=hs
  refine zf (λq w'=>q=(decide (c=true/\b.base>=z2v A),())/\Sat w' (pt a (.cells #[.int .i64 b.base,.int .i64 b.pid,.int .i64 b.epoch,.int .i64 b.seq,.int .i64 b.kind,.int .i64 b.time,.slice b.x.a b.x.len b.x.cap] T.a0)::slc T.a31 5 z (done.flatMap z0g)::slc T.a0 7 y (outs.flatMap zn)::z0v outs::paP p A::dk A.L.d D::r)) ?_ ?_
  ·refine z02 hs λw' hs=>?_
   refine z1d hs ?_
   cases c with
   | false =>
    refine z07 ?_ (by simp)
    refine zd ?_
    exact zg ⟨by simp,hs⟩
   | true =>
    refine z10 ?_ (by simp)
    refine z8 (zik (p:=p) (A:=A) (by omega) hs) λ_ w' hs=>?_
    obtain ⟨rfl,hs⟩:=hs
    refine zb ?_ (by first|trivial|(repeat (first|exact trivial|exact λ_=>z0a hs|exact λ_=>z0p hs|refine And.intro ?_ ?_)))
    refine zd ?_
    exact zg ⟨by simp,hs.pick [1,1,1,1]⟩
  clear hs
  rintro _ w ⟨rfl,hs⟩
  refine zl ?_
  by_cases hstop:c=true/\b.base>=z2v A
  ·refine z10 ?_ (by simpa using hstop)
   have hq:z2u A c off outs=(done++[],n):=by
    rw [hq,zih hstop]
   rw [List.append_nil] at hq
   refine zh (zg ⟨z,by rw [hq],?_⟩)
   rw [hq]
   exact hs.sub
  refine z07 ?_ (by simpa using hstop)
  have hq:z2u A c off outs=(done++((if c=false\/z1x A.V b=1 then z20 b else [])++(z2u A c (z1k b) (outs.drop (i+1))).1),(z2u A c (z1k b) (outs.drop (i+1))).2):=by
   rw [hq,zpg hstop]
  refine zf (λq w'=>q=(decide (c=false\/z1x A.V b=1),())/\Sat w' (pt a (.cells #[.int .i64 b.base,.int .i64 b.pid,.int .i64 b.epoch,.int .i64 b.seq,.int .i64 b.kind,.int .i64 b.time,.slice b.x.a b.x.len b.x.cap] T.a0)::slc T.a31 5 z (done.flatMap z0g)::slc T.a0 7 y (outs.flatMap zn)::z0v outs::paP p A::dk A.L.d D::r)) ?_ ?_
  ·refine z02 hs λw' hs=>?_
   obtain ⟨lg,t,v,hs⟩:=z50 (hs.pick [4])
   refine z0k ?_
   refine za hs ?_
   refine zj hs ?_
   cases c with
   | false =>
    refine z10 ?_ (by simp)
    refine zd ?_
    refine zg ⟨by simp,?_⟩
    have hs:Sat w' (paP p A::pt a (.cells #[.int .i64 b.base,.int .i64 b.pid,.int .i64 b.epoch,.int .i64 b.seq,.int .i64 b.kind,.int .i64 b.time,.slice b.x.a b.x.len b.x.cap] T.a0)::slc T.a31 5 z (done.flatMap z0g)::slc T.a0 7 y (outs.flatMap zn)::z0v outs::dk A.L.d D::r):=z2k (lg:=lg) (t:=t) (v:=v) A hs
    exact hs.pick [1,1,1,1]
   | true =>
    refine z07 ?_ (by simp)
    refine z8 (z01f (v:=v) (A:=A.V) b hs) λ_ w' hs=>?_
    obtain ⟨rfl,hs⟩:=hs
    refine zb ?_
    refine zd ?_
    refine zg ⟨?_,?_⟩
    ·have:(z1x A.V b == 1)=decide (true=false\/z1x A.V b=1):=by rw [Bool.eq_iff_iff];simp
     rw [this]
    have hs:Sat w' (paP p A::pt a (.cells #[.int .i64 b.base,.int .i64 b.pid,.int .i64 b.epoch,.int .i64 b.seq,.int .i64 b.kind,.int .i64 b.time,.slice b.x.a b.x.len b.x.cap] T.a0)::slc T.a31 5 z (done.flatMap z0g)::slc T.a0 7 y (outs.flatMap zn)::z0v outs::dk A.L.d D::r):=z2k (lg:=lg) (t:=t) (v:=v) A hs
    exact hs.pick [1,1,1,1]
  clear hs
  rintro _ w ⟨rfl,hs⟩
  refine zl ?_
  have hfl:=zcf b
  refine zf (λq w'=>∃ z':Sl,q=(z',())/\Sat w' (pt a (.cells #[.int .i64 b.base,.int .i64 b.pid,.int .i64 b.epoch,.int .i64 b.seq,.int .i64 b.kind,.int .i64 b.time,.slice b.x.a b.x.len b.x.cap] T.a0)::slc T.a31 5 z' ((done++(if c=false\/z1x A.V b=1 then z20 b else [])).flatMap z0g)::slc T.a0 7 y (outs.flatMap zn)::z0v outs::paP p A::dk A.L.d D::r)) ?_ ?_
  ·by_cases hd:c=false\/z1x A.V b=1
   ·refine z10 ?_ (by simpa using hd)
    rw [if_pos hd]
    refine zj hs ?_
    refine zq5 hs (enc:=zn) [b] λx1 w' hs=>?_
    refine z8 (z038 x1 [b] (λb' hb'=>by rw [List.mem_singleton.1 hb'];infer_instance) (by simp) (λb' hb'=>by rw [List.mem_singleton.1 hb'];omega) hs) λ_ w' hs=>?_
    obtain ⟨z2,rfl,hs⟩:=hs
    refine zb ?_
    have e:z4s [b]=z20 b:=by simp [z4s]
    rw [e] at hs
    refine wp_app' (xs:=done) (ys:=z20 b) (enc:=z0g) hs (λz3 w' hs=>?_) (by omega)
    refine zg ⟨z3,rfl,?_⟩
    exact hs.sub
   ·refine z07 ?_ (by simpa using hd)
    rw [if_neg hd,List.append_nil]
    exact zg ⟨z,rfl,hs⟩
  clear hs
  rintro _ w ⟨z',rfl,hs⟩
  refine zl ?_
  refine zj hs ?_
  refine z8 (z8w b hs) λ_ w' hs=>?_
  obtain ⟨rfl,hs⟩:=hs
  refine zb ?_
  refine wp_lt ?_
  refine z2p (us':=[z'.v,.int .i64 (z1k b),.int .i64 ((i+1:Nat):Int)]) (by (try simp (disch:=omega) only [w64]);first|rfl|(congr;omega)) ?_
  refine z11 (outs.length-(i+1)) ⟨i+1,z',z1k b,done++(if c=false\/z1x A.V b=1 then z20 b else []),rfl,by omega,rfl,?_,?_,hs.sub⟩
  ·rw [List.length_append]
   split
   ·omega
   ·simp only [List.length_nil];omega
  ·rw [hq,List.append_assoc]
end
section
variable {w:World} {l r:List HP}
theorem z01b (x:Sl) (bs:List UInt8) [hx:FocR l x 1 (bs.flatMap zi)] (hcap:x.len<=x.cap) (hn:bs.length<=1000000000) (hs:Sat w l) :
  Ret P F.a35 #[x.v] w λvs w'=>∃ z:Sl,vs=[z.v,.bool (zj7 bs).isSome]/\Sat w' (slc T.a48 1 z (((zj7 bs).getD []).flatMap zi)::l) :=
 zsp x <| by
  delta z05d AL Af Ai Aj Am BL
  have hl:=hs.slen x (xs:=bs) (enc:=zi)
  refine z8 (zb3 x bs hcap hn hs) λ_ _ hs=>?_
  obtain ⟨z,rfl,hs⟩:=hs
  refine zb ?_
  refine wp_lt ?_
  refine wp_lt ?_
  unfold zj7
  cases hf:z0x bs with
  | none =>
   refine z10 ?_ (by simp)
   exact ⟨rfl,⟨none,0,0⟩,rfl,(hs.tail).slc_nil⟩
  | some q =>
   obtain ⟨body,n⟩:=q
   rw [hf] at hs
   dsimp only
   refine ze (λh=>?_) λh=>?_
   ·rw [if_neg (by simp at h;omega)]
    exact ⟨rfl,⟨none,0,0⟩,rfl,(hs.tail).slc_nil⟩
   ·rw [if_pos (by simp at h;omega)]
    exact ⟨rfl,z,rfl,hs⟩
end
def zg5 (pre:ByteArray):ByteArray:=pre++ByteArray.mk #[46,115,110,97,112]
def zga (pre:ByteArray):ByteArray:=pre++ByteArray.mk #[46,116,109,112]
def z6o (L:LogA) (most:Int):PartA:=⟨L,most,⟨most,0,[]⟩,⟨0,[],[]⟩⟩
def zbg (L:LogA) (most:Int):PartA:=(zv L.l).foldl z5h (z6o L most)
theorem z04b (A:PartA) (b:BatM):z5h A b.p=z5h A b:=rfl
theorem zpz:∀ (bs:List BatM) (A:PartA),(bs.map BatM.p).foldl z5h A=bs.foldl z5h A
 | [],A=>rfl
 | b::bs,A=>by
  rw [List.map_cons,List.foldl_cons,List.foldl_cons,z04b]
  exact zpz bs _
section
variable {w:World} {l r:List HP} {p d lg t v:Nat} {A:PartA} {D:DiskA} {c1 c2 c3 c4 c5:Value}
theorem z023 (pre:ByteArray) (hp:pre.size<=100) [hf:FocB l p (.cells [c1,c2,.string pre,c3,c4,c5].toArray T.a30) r] (hs:Sat w l):Ret P F.a78 #[.pointer (some ⟨p,0,none⟩)] w λvs w'=>vs=[.string (zg5 pre)]/\Sat w' l :=
 ztk _ <| by
  delta z066 AW Aj Ba Be
  refine zk ?_
  refine za hs ?_
  refine wp_must (by omega) ?_
  refine wp_lt ?_
  exact ⟨rfl,rfl,hs⟩
theorem zpn (pre:ByteArray) (hp:pre.size<=100) [hf:FocB l p (.cells [c1,c2,.string pre,c3,c4,c5].toArray T.a30) r] (hs:Sat w l):Ret P F.a80 #[.pointer (some ⟨p,0,none⟩)] w λvs w'=>vs=[.string (zga pre)]/\Sat w' l :=
 ztm _ <| by
  delta z068 AW Aj Ba Be
  refine zk ?_
  refine za hs ?_
  refine wp_must (by omega) ?_
  refine wp_lt ?_
  exact ⟨rfl,rfl,hs⟩
theorem z01x (n:ByteArray) (hno:∀ f ∈ D.fs,f.name≠n) [hf:Fo l dk d D r] (hs:Sat w l):Ret P F.a81 #[.pointer (some ⟨d,0,none⟩),.string n] w λvs w'=>vs=[.bool false]/\Sat w' (dk d D::r) :=
 ztn _ n <| by
  delta z069 AL Af Ah Aj Bc
  refine z8 (zg1 (d:=d) (A:=D) n hs) λ_ w' h=>?_
  rcases h with ⟨f,hf1,hf2,-⟩|⟨-,rfl,hs⟩
  ·exact absurd hf2 (hno f hf1)
  refine ⟨(⟨none,0,0⟩,3,()),rfl,trivial,z40 _ _ ?_⟩
  refine wp_lt ?_
  refine wp_lt ?_
  exact ⟨rfl,rfl,hs⟩
theorem zxm (pre:ByteArray) (most:Int) (hp:pre.size<=100) (hm:1<=most/\most<=4096) (hno:∀ f ∈ D.fs,f.name≠zg5 pre) (hs:Sat w (pt p (.cells #[c1,.pointer (some ⟨d,0,none⟩),.string pre,.int .i64 most,c2,c3] T.a30)::dk d D::r)) :
  Ret P F.a76 #[.pointer (some ⟨p,0,none⟩)] w λvs w'=>vs=[.int .i64 0]/\∃ t v:Nat,Sat w' (pt p (.cells #[c1,.pointer (some ⟨d,0,none⟩),.string pre,.int .i64 most,.pointer (some ⟨t,0,none⟩),.pointer (some ⟨v,0,none⟩)] T.a30)::tb t ⟨most,0,[]⟩::vw v ⟨0,[],[]⟩::dk d D::r) :=
 zti _ <| by
  delta z064 AA AB AD AF AL AQ AS AY Aa Ae Af Ah Ai Aj Ak Aq Ay Ba Bc Be Bf Bg Bh Bi Bj
  refine zk ?_
  refine za hs ?_
  refine z8 (z04c most hs) λ_ w' h=>?_
  rcases h with ⟨-,-,t,rfl,hs⟩|⟨h,-⟩
  rotate_left
  ·omega
  refine ⟨(some ⟨t,0,none⟩,0,()),rfl,trivial,z40 _ _ ?_⟩
  refine zk ?_
  refine z08 hs λw' hs=>?_
  refine z8 (z04f hs) λ_ w' hs=>?_
  obtain ⟨v,rfl,hs⟩:=hs
  refine zb ?_
  refine zk ?_
  refine z08 hs λw' hs=>?_
  refine zf (λq w'=>q=(⟨none,0,0⟩,())/\Sat w' (pt p (.cells #[c1,.pointer (some ⟨d,0,none⟩),.string pre,.int .i64 most,.pointer (some ⟨t,0,none⟩),.pointer (some ⟨v,0,none⟩)] T.a30)::tb t ⟨most,0,[]⟩::vw v ⟨0,[],[]⟩::dk d D::r)) ?_ ?_
  ·refine z02 hs λw' hs=>?_
   refine zk ?_
   refine z1d hs ?_
   refine z8 (z023 (p:=p) pre hp hs) λ_ w' hs=>?_
   obtain ⟨rfl,hs⟩:=hs
   refine zb ?_ (by first|trivial|(repeat (first|exact trivial|exact λ_=>z0a hs|exact λ_=>z0p hs|refine And.intro ?_ ?_)))
   refine zd ?_
   refine z8 (zg1 (d:=d) (A:=D) (zg5 pre) hs) λ_ w' h=>?_
   rcases h with ⟨f,hf1,hf2,-⟩|⟨-,rfl,hs⟩
   ·exact absurd hf2 (hno f hf1)
   refine ⟨(⟨none,0,0⟩,3,()),rfl,trivial,z40 _ _ ?_⟩
   refine wp_lt ?_
   refine zd ?_
   refine zg ⟨rfl,?_⟩
   exact hs.sub
  clear hs
  rintro _ w ⟨rfl,hs⟩
  refine zl ?_
  have hs:Sat w (slc T.a48 1 ⟨none,0,0⟩ (([]:List UInt8).flatMap zi)::_):=hs.slc_nil
  refine z8 (z01b ⟨none,0,0⟩ [] (Nat.le_refl _) (Nat.zero_le _) hs) λ_ w' hs=>?_
  obtain ⟨z,rfl,hs⟩:=hs
  have e:(zj7 []).isSome=false:=by kernel_rfl
  rw [e]
  refine ⟨(z,false,()),rfl,trivial,z40 _ _ ?_⟩
  refine wp_lt ?_
  refine z10 ?_ (by simp)
  exact ⟨rfl,rfl,t,v,hs.tail.tail⟩
theorem zwt {fs:List FileA} {n:ByteArray} (hno:∀ f ∈ fs,f.name≠n):(z8o fs n).1=0:=by rw [z8o,zce hno]
set_option maxHeartbeats 1000000 in
theorem zxn (pre:ByteArray) (seg gap most:Int) (hp:z3n pre=true) (hc:zfx seg gap) (hm:1<=most/\most<=1024) (hg:D.gone=false) (S:List SegA) (D':DiskA) (ho:z4g pre D=(0,S,D')) (hno:∀ f ∈ D'.fs,f.name≠zg5 pre/\f.name≠zga pre)
  (hok:z0b 0 S) (hhas:zjg pre S D') (hlen:S.length<=1000000) (hall:(zv S).length<=1000000) [hf:Fo l dk d D r] (hs:Sat w l) :
  Ret P F.a67 #[.pointer (some ⟨d,0,none⟩),.string pre,.agg #[.int .i64 seg,.int .i64 gap,.int .i64 most]] w λvs w'=>∃ p:Nat,vs=[.pointer (some ⟨p,0,none⟩),.int .i64 0]/\Sat w' (paP p (zbg ⟨d,pre,seg,gap,S⟩ most)::dk d D'::r) :=
 zta _ pre seg gap most <| by
  delta z05w AB AC AD AF AJ AM AN AO AP AQ AR Aa Ab Ac Ad Ae Af Ah Ai Aj Am An Ao Aq Ar As Aw Ax
  have hs:=hs.perm hf.perm
  clear hf
  have hps:pre.size<=100:=by
   unfold z3n at hp
   rw [Bool.and_eq_true,decide_eq_true_eq] at hp
   omega
  refine zt hs λa0 w' hs=>?_
  refine za hs ?_
  refine za hs ?_
  refine z07 ?_ (by simp;omega)
  refine zgg hs (seg,gap,()) ?_
  refine z8 (z01p (d:=d) (D:=D) pre seg gap hp hc hg hs) λ_ w' hs=>?_
  rw [ho] at hs
  rcases hs with ⟨he,-,-⟩|⟨-,lg,rfl,hs⟩
  ·exact absurd rfl he
  refine ⟨(some ⟨lg,0,none⟩,0,()),rfl,trivial,z40 _ _ ?_⟩
  refine wp_lt ?_
  refine z07 ?_ (by simp)
  refine za hs ?_
  refine zt hs λa10 w' hs=>?_
  have hs:Sat w' (pt a10 (.cells #[.pointer (some ⟨lg,0,none⟩),.pointer (some ⟨d,0,none⟩),.string pre,.int .i64 most,.pointer none,.pointer none] T.a30)::dk d D'::lgP lg ⟨d,pre,seg,gap,S⟩::r):=hs.sub
  refine zf (λq w'=>q=(false,())/\Sat w' (pt a10 (.cells #[.pointer (some ⟨lg,0,none⟩),.pointer (some ⟨d,0,none⟩),.string pre,.int .i64 most,.pointer none,.pointer none] T.a30)::dk d D'::lgP lg ⟨d,pre,seg,gap,S⟩::r)) ?_ ?_
  ·refine z8 (zpn (p:=a10) pre hps hs) λ_ w' hs=>?_
   obtain ⟨rfl,hs⟩:=hs
   refine zb ?_
   refine z8 (z048 (d:=d) (A:=D') (zga pre) hs) λ_ w' hs=>?_
   obtain ⟨rfl,hs⟩:=hs
   refine zb ?_
   rw [zwt λf hf=>(hno f hf).2]
   refine z07 ?_ (by simp)
   refine z8 (zpn (p:=a10) pre hps hs) λ_ w' hs=>?_
   obtain ⟨rfl,hs⟩:=hs
   refine zb ?_
   refine z8 (z01x (d:=d) (D:=D') (zga pre) (λf hf=>(hno f hf).2) hs) λ_ w' hs=>?_
   obtain ⟨rfl,hs⟩:=hs
   refine zb ?_
   exact zg ⟨rfl,hs.sub⟩
  clear hs
  rintro _ w ⟨rfl,hs⟩
  refine zl ?_
  refine zf (λq w'=>Sat w' (pt a10 (.cells #[.pointer (some ⟨lg,0,none⟩),.pointer (some ⟨d,0,none⟩),.string pre,.int .i64 most,.pointer none,.pointer none] T.a30)::dk d D'::lgP lg ⟨d,pre,seg,gap,S⟩::r)) ?_ ?_
  ·refine z07 ?_ (by simp)
   exact zg hs
  clear hs
  rintro _ w hs
  refine zl ?_
  refine z8 (zxm (p:=a10) (d:=d) (D:=D') pre most hps (by omega) (λf hf=>(hno f hf).1) hs) λ_ w' hs=>?_
  obtain ⟨rfl,t,v,hs⟩:=hs
  refine zb ?_
  refine wp_lt ?_
  refine z8 (zuu (lg:=lg) (A:=⟨d,pre,seg,gap,S⟩) (D:=D') hok hhas hlen hall hs) λ_ w' hs=>?_
  obtain ⟨y,outs,rfl,hmap,hs⟩:=hs
  refine zb ?_
  have hmap:outs.map BatM.p=zv S:=hmap
  have hs:Sat w' (paP a10 (z6o ⟨d,pre,seg,gap,S⟩ most)::slc T.a0 7 y (outs.flatMap zn)::z0v outs::dk d D'::r):=by
   have hs:Sat w' (slc T.a0 7 y (outs.flatMap zn)::z0v outs::lgP lg (z6o ⟨d,pre,seg,gap,S⟩ most).L::dk d D'::pt a10 (.cells #[.pointer (some ⟨lg,0,none⟩),.pointer (some ⟨(z6o ⟨d,pre,seg,gap,S⟩ most).L.d,0,none⟩),.string (z6o ⟨d,pre,seg,gap,S⟩ most).L.pre,.int .i64 (z6o ⟨d,pre,seg,gap,S⟩ most).most,.pointer (some ⟨t,0,none⟩),.pointer (some ⟨v,0,none⟩)] T.a30)::tb t (z6o ⟨d,pre,seg,gap,S⟩ most).T::vw v (z6o ⟨d,pre,seg,gap,S⟩ most).V::r):=hs
   exact z2k (lg:=lg) (t:=t) (v:=v) (z6o ⟨d,pre,seg,gap,S⟩ most) hs
  have hlo:=congrArg List.length hmap
  rw [List.length_map] at hlo
  have hly:=hs.slen y (xs:=outs) (enc:=zn)
  have hov:∀ b ∈ outs,0<=b.base:=λb hb=>by
   have h1:b.p ∈ zv S:=by rw [<- hmap];exact List.mem_map.2 ⟨b,hb,rfl⟩
   have hv:z04 b=0:=((z8u (Int.le_refl 0) hok).valid _ h1).1
   exact (z0z b hv).2.2.1.2.1.1
  have hop:zbg ⟨d,pre,seg,gap,S⟩ most=outs.foldl z5h (z6o ⟨d,pre,seg,gap,S⟩ most):=by
   unfold zbg
   show (zv S).foldl z5h _=_
   rw [<- hmap,zpz]
  rw [hop]
  generalize z6o ⟨d,pre,seg,gap,S⟩ most=A0 at *
  refine zf (λq w'=>Sat w' (paP a10 (outs.foldl z5h A0)::dk d D'::r)) ?_ ?_
  rotate_left
  ·rintro _ w2 hs
   refine zl ?_
   exact ⟨rfl,a10,rfl,hs⟩
  refine z03 (λm q w=>∃ i:Nat,q=((i:Int),())/\i<=outs.length/\outs.length-i=m/\Sat w (paP a10 ((outs.take i).foldl z5h A0)::slc T.a0 7 y (outs.flatMap zn)::z0v outs::dk d D'::r)) outs.length ⟨0,rfl,by omega,rfl,hs⟩ ?_
  clear hs
  rintro m _ w ⟨i,rfl,hi,hm2,hs⟩
  refine zl ?_
  refine ze (λhc2=>?_) λhc2=>?_
  rotate_left
  ·rw [List.take_of_length_le (by omega)] at hs
   refine zh (zg ?_)
   exact hs.sub
  have hil:i<outs.length:=by omega
  have hb0:=hov _ (List.getElem_mem hil)
  have hbr:FocR (z0v outs::dk d D'::r) outs[i].x 4 (outs[i].rs.flatMap zy):=zaf (List.getElem_mem hil)
  have htk:outs.take (i+1)=outs.take i++[outs[i]]:=by rw [List.take_add_one,List.getElem?_eq_getElem hil,Option.toList_some]
  refine z3b hs i hil ?_
  refine zq hs λa33 w' hs=>?_
  refine zr hs λw' hs=>?_
  refine za hs ?_
  refine zf (λq w'=>Sat w' (paP a10 ((outs.take (i+1)).foldl z5h A0)::slc T.a0 7 y (outs.flatMap zn)::z0v outs::dk d D'::r)) ?_ ?_
  ·refine z10 ?_ (by simpa using hb0)
   refine zj hs ?_
   refine z8 (zpq (p:=a10) (A:=(outs.take i).foldl z5h A0) outs[i] hs) λ_ w' hs=>?_
   obtain ⟨rfl,hs⟩:=hs
   refine zb ?_
   refine zg ?_
   rw [htk,List.foldl_append,List.foldl_cons,List.foldl_nil]
   exact hs.sub
  clear hs
  rintro _ w hs
  refine zl ?_
  refine z2p (us':=[.int .i64 ((i+1:Nat):Int)]) (by (try simp (disch:=omega) only [w64]);first|rfl|(congr;omega)) ?_
  exact z11 (outs.length-(i+1)) ⟨i+1,rfl,by omega,rfl,hs⟩
end
theorem zz2 (A:PartA) (D:DiskA) (b:BatM):(z0u A D b).2.1.L.d=A.L.d/\(z0u A D b).2.1.L.pre=A.L.pre/\(z0u A D b).2.1.L.seg=A.L.seg/\(z0u A D b).2.1.L.gap=A.L.gap/\(z0u A D b).2.1.most=A.most:=by
 unfold z0u
 split
 ·exact ⟨rfl,rfl,rfl,rfl,rfl⟩
 unfold zjk
 split
 ·exact ⟨rfl,rfl,rfl,rfl,rfl⟩
 split
 ·exact ⟨rfl,rfl,rfl,rfl,rfl⟩
 ·exact ⟨rfl,rfl,rfl,rfl,rfl⟩
theorem zpp {A:PartA} {D:DiskA} (b:BatM) (hp:z3n A.L.pre=true) (h:Cpl A.L.pre A.L.l D):Cpl A.L.pre (z0u A D b).2.1.L.l (z0u A D b).2.2:=by
 unfold z0u
 split
 ·exact h
 have h1:=(zbb A.L.seg [b.to (zp A.L.l)] hp h).1
 unfold zjk
 split
 ·exact h1
 split
 ·exact (z6z h1).1
 ·exact (z6z h1).1
section
variable {w:World} {l r:List HP} {p d:Nat} {A:PartA} {D:DiskA}
theorem zkv (b:BatM) {r1:List HP} [hf:Fo l paP p A r1] [hf2:Fo r1 dk A.L.d D r] (hb:FocR r b.x 4 (b.rs.flatMap zy)) (h:Cpl A.L.pre A.L.l D) (hr:b.rs.length<=1000000) (hm:z00 b=false) (hs:Sat w l) :
  Ret P F.a68 #[.pointer (some ⟨p,0,none⟩),.agg (zn b).toArray] w λvs w'=>vs=[.int .i64 (z0u A D b).1.1,.bool (z0u A D b).1.2.1,.int .i64 (z0u A D b).1.2.2]/\Sat w' (paP p (z0u A D b).2.1::dk A.L.d (z0u A D b).2.2::r):=by
 obtain ⟨h1,h2,h3⟩:=h.len
 exact zve b hb (by omega) h.segs (λs hs=>by have:=h3 s hs;omega) hr hm hs
theorem zpj (pid epoch:Int) (commit:Bool) (time:Int) {r1:List HP} [hf:Fo l paP p A r1] [hf2:Fo r1 dk A.L.d D r] (h:Cpl A.L.pre A.L.l D) (hs:Sat w l) :
  Ret P F.a71 #[.pointer (some ⟨p,0,none⟩),.int .i64 pid,.int .i64 epoch,.bool commit,.int .i64 time] w λvs w'=>vs=[.int .i64 (z0u A D (z4m pid epoch commit time ⟨none,0,0⟩)).1.1,.bool (z0u A D (z4m pid epoch commit time ⟨none,0,0⟩)).1.2.1,.int .i64 (z0u A D (z4m pid epoch commit time ⟨none,0,0⟩)).1.2.2]/\Sat w' (paP p (z0u A D (z4m pid epoch commit time ⟨none,0,0⟩)).2.1::dk A.L.d (z0u A D (z4m pid epoch commit time ⟨none,0,0⟩)).2.2::r):=by
 obtain ⟨h1,h2,h3⟩:=h.len
 exact z01v pid epoch commit time (by omega) h.segs (λs hs=>by have:=h3 s hs;omega) hs
theorem zdb (off most:Int) (c:Bool) (ho : -9223372036854775808<=off/\off<9223372036854775808) (hmo:most<9223372036854775808) {r1:List HP} [hf:Fo l paP p A r1] [hf2:Fo r1 dk A.L.d D r] (h:Cpl A.L.pre A.L.l D) (hs:Sat w l) :
  Ret P F.a73 #[.pointer (some ⟨p,0,none⟩),.int .i64 off,.int .i64 most,.bool c] w λvs w'=>∃ z:Sl,vs=[z.v,.int .i64 (z2m A off most c).1.2,.int .i64 (z2m A off most c).2]/\Sat w' (slc T.a31 5 z ((z2m A off most c).1.1.flatMap z0g)::paP p A::dk A.L.d D::r):=by
 obtain ⟨h1,h2,h3⟩:=h.len
 exact z021 off most c ho hmo h.segs h.has (by omega) (by omega) hs
theorem zpl (pre:ByteArray) (seg gap most:Int) (hp:z3n pre=true) (hc:zfx seg gap) (hm:1<=most/\most<=1024) (hg:D.gone=false) {S:List SegA} (h:Cpl pre S D) (hno:∀ f ∈ D.fs,f.name≠zg5 pre/\f.name≠zga pre) [hf:Fo l dk d D r] (hs:Sat w l) :
  Ret P F.a67 #[.pointer (some ⟨d,0,none⟩),.string pre,.agg #[.int .i64 seg,.int .i64 gap,.int .i64 most]] w λvs w'=>∃ p:Nat,vs=[.pointer (some ⟨p,0,none⟩),.int .i64 0]/\Sat w' (paP p (zbg ⟨d,pre,seg,gap,S⟩ most)::dk d D::r):=by
 obtain ⟨h1,h2,h3⟩:=h.len
 exact zxn pre seg gap most hp hc hm hg S D h.opened hno h.segs h.has (by omega) (by omega) hs
end
def kR:List RecM:=[⟨ByteArray.mk #[107],ByteArray.mk #[],false,0⟩]
def kB (x:Sl):BatM:=⟨0,3,0,0,1,0,x,kR⟩
def kA (d:Nat):PartA:=z6o ⟨d,aP,100,9,[]⟩ 4
def kD:DiskA:=⟨10000,-1,false,[]⟩
def kM:BatM:=z4m 3 0 true 0 ⟨none,0,0⟩
theorem k1 (d:Nat) (x:Sl):(z0u (kA d) kD (kB x)).1=(0,false,0):=by kernel_rfl
section
variable {d:Nat} {x:Sl} {S U:PartA × DiskA}
theorem k2 (h:S=(z0u (kA d) kD (kB x)).2):z0u S.1 S.2 (kB x)=((0,true,0),S):=by subst h;kernel_rfl
theorem k3 (h:S=(z0u (kA d) kD (kB x)).2):z2m S.1 0 9 true=(([],0),0):=by subst h;kernel_rfl
theorem k4 (h:S=(z0u (kA d) kD (kB x)).2):((z2m S.1 0 9 false).1.1.length,(z2m S.1 0 9 false).1.2,(z2m S.1 0 9 false).2)=(1,1,0):=by subst h;kernel_rfl
theorem k5 (h:S=(z0u (kA d) kD (kB x)).2):(z0u S.1 S.2 kM).1=(1,false,0):=by subst h;kernel_rfl
theorem k6 (h:S=(z0u (kA d) kD (kB x)).2) (h2:U=(z0u S.1 S.2 kM).2):((z2m U.1 0 9 true).1.1.length,(z2m U.1 0 9 true).1.2,(z2m U.1 0 9 true).2)=(1,2,0):=by subst h h2;kernel_rfl
theorem k7 (h:S=(z0u (kA d) kD (kB x)).2):S.1.L.d=d/\S.1.L.pre=aP/\Cpl aP S.1.L.l S.2:=by
 have h1:=zz2 (kA d) kD (kB x)
 have h2:=zpp (A:=kA d) (D:=kD) (kB x) (by kernel_rfl) (z84 aP 10000 (by omega))
 rw [<- h] at h1 h2
 exact ⟨h1.1,h1.2.1,h2⟩
theorem k8 (h:S.1.L.d=d/\S.1.L.pre=aP/\Cpl aP S.1.L.l S.2) (h2:U=(z0u S.1 S.2 kM).2):U.1.L.d=d/\U.1.L.pre=aP/\Cpl aP U.1.L.l U.2:=by
 obtain ⟨g1,g2,g3⟩:=h
 have h1:=zz2 S.1 S.2 kM
 rw [<- g2] at g3
 have h3:=zpp (A:=S.1) (D:=S.2) kM (by rw [g2];kernel_rfl) g3
 rw [<- h2] at h1 h3
 exact ⟨h1.1.trans g1,h1.2.1.trans g2,by rw [g2] at h3;exact h3⟩
end
def z67 (t:ByteArray):ByteArray:=if t.size>10 then t.extract 0 10 else t
def z34 (r:RecM):RecM:=⟨z67 r.key,z67 r.value,r.gone,r.time⟩
def z4q (b:BatM):BatM:=⟨b.base,b.pid,b.epoch,b.seq,b.kind,b.time,z7a,(b.rs.take 4).map z34⟩
section
variable {w:World} {l r:List HP}
theorem zqi (seg most:Int) (hm:0<=most/\most<8) (hs:Sat w l):Ret P F.a163 #[.int .i64 seg,.int .i64 most] w λvs w'=>∃ s:Int,(64<=s/\s<=363)/\vs=[.agg #[.int .i64 s,.int .i64 20,.int .i64 (most+1)]]/\Sat w' l :=
 znv seg most <| by
  delta z00a AB AG Aa Ab Ac Ad Af Ag Ai Aj
  have hm1 : -300<Int.tmod seg 300/\Int.tmod seg 300<300:=⟨by have:=Int.lt_tmod_of_pos seg (b:=300) (by omega);omega,Int.tmod_lt_of_pos seg (by omega)⟩
  have hm2:Int.tmod most 8=most:=Int.tmod_eq_of_lt hm.1 hm.2
  rw [hm2]
  generalize Int.tmod seg 300=s at *
  refine zq hs λa0 w' hs=>?_
  refine wp_lt ?_
  refine wp_lt ?_
  refine zf (λq w'=>∃ s:Int,(0<=s/\s<300)/\q=(s,())/\Sat w' (pt a0 (.cells [.int .i64 0,.int .i64 0,.int .i64 0].toArray T.a29)::l)) ?_ ?_
  ·refine ze (λh=>?_) λh=>?_
   ·rw [w64 (by omega) (by omega)]
    refine wp_lt ?_
    exact zg ⟨0-s,by omega,rfl,hs⟩
   ·exact zg ⟨s,by omega,rfl,hs⟩
  clear hs
  rintro _ w ⟨s,hm1,rfl,hs⟩
  refine zl ?_
  refine zf (λq w'=>q=(most,())/\Sat w' (pt a0 (.cells [.int .i64 0,.int .i64 0,.int .i64 0].toArray T.a29)::l)) ?_ ?_
  ·refine z07 ?_ (by omega)
   exact zg ⟨rfl,hs⟩
  clear hs
  rintro _ w ⟨rfl,hs⟩
  refine zl ?_
  rw [w64 (by omega) (by omega),w64 (by omega) (by omega)]
  refine zr hs λw' hs=>?_
  refine zj hs ?_
  exact ⟨rfl,64+s,by omega,rfl,hs.tail⟩
theorem zvu (b:BatM) [hb:FocR l b.x 4 (b.rs.flatMap zy)] (hs:Sat w l):Ret P F.a164 #[.agg (zn b).toArray] w λvs w'=>∃ z:Sl,vs=[.agg (zn ((z4q b).at z)).toArray]/\Sat w' (slc T.a2 4 z ((z4q b).rs.flatMap zy)::l) :=
 znw b.base b.pid b.epoch b.seq b.kind b.time b.x <| by
  delta z00b AB AM AS AT AU AV AW AX AY Aa Ab Ac Af Ai Aj Am Ao As Aw Ax
  have hl:=hs.slen b.x (xs:=b.rs) (enc:=zy)
  refine zt hs λa0 w' hs=>?_
  refine zq hs λa1 w' hs=>?_
  refine zj hs ?_
  refine zq hs λa9 w' hs=>?_
  refine zr hs λw' hs=>?_
  refine z08 hs λw' hs=>?_
  refine za hs ?_
  have hs:Sat w' (slc T.a2 4 ⟨none,0,0⟩ (([]:List RecM).flatMap zy)::pt a9 (.cells (cZ b ⟨none,0,0⟩) T.a0)::pt a1 (.cells #[.int .i64 0,.int .i64 0,.int .i64 0,.int .i64 0,.int .i64 0,.int .i64 0,.slice none 0 0] T.a0)::l):=by
   have h1:Sat w' (pt a9 (.cells (cZ b ⟨none,0,0⟩) T.a0)::pt a1 (.cells #[.int .i64 0,.int .i64 0,.int .i64 0,.int .i64 0,.int .i64 0,.int .i64 0,.slice none 0 0] T.a0)::l):=hs.sub
   exact h1.slc_nil
  refine zf (λ_ w'=>∃ z:Sl,Sat w' (slc T.a2 4 z ((z4q b).rs.flatMap zy)::pt a9 (.cells (cZ b z) T.a0)::pt a1 (.cells #[.int .i64 0,.int .i64 0,.int .i64 0,.int .i64 0,.int .i64 0,.int .i64 0,.slice none 0 0] T.a0)::l)) ?_ ?_
  rotate_left
  ·rintro _ w2 ⟨z,hs⟩
   refine zl ?_
   refine zj hs ?_
   refine zr hs λw' hs=>?_
   refine zj hs ?_
   exact ⟨rfl,z,rfl,hs.sub⟩
  refine z03 (λm v w=>∃ (i:Nat) (z:Sl),v=((i:Int),())/\i<=b.rs.length/\i<=4/\b.rs.length-i=m/\Sat w (slc T.a2 4 z (((b.rs.take i).map z34).flatMap zy)::pt a9 (.cells (cZ b z) T.a0)::pt a1 (.cells #[.int .i64 0,.int .i64 0,.int .i64 0,.int .i64 0,.int .i64 0,.int .i64 0,.slice none 0 0] T.a0)::l)) b.rs.length ⟨0,⟨none,0,0⟩,rfl,by omega,by omega,rfl,hs⟩ ?_
  clear hs
  rintro m _ w ⟨i,z,rfl,hi,hi6,hm,hs⟩
  refine zl ?_
  refine ze (λhc=>?_) λhc=>?_
  rotate_left
  ·refine zh (zg ⟨z,?_⟩)
   have e:b.rs.take i=b.rs.take 4:=by rw [List.take_of_length_le (by omega),List.take_of_length_le (by omega)]
   rw [e] at hs
   exact hs
  have hil:i<b.rs.length:=by omega
  refine z3b hs (xs:=b.rs) (enc:=zy) i hil ?_
  refine zq hs λa18 w' hs=>?_
  refine wp_lt ?_
  refine zr hs λw' hs=>?_
  refine ze (λh6=>?_) λh6=>?_
  ·have:i=4:=by omega
   subst this
   exact zh (zg ⟨z,hs.tail⟩)
  have hx:(b.rs.take (i+1)).map z34=(b.rs.take i).map z34++[z34 b.rs[i]]:=by rw [List.take_succ_eq_append_getElem hil,List.map_append];rfl
  generalize b.rs[i]=q at hx hs ⊢
  refine za hs ?_
  refine zf (λ_ w'=>Sat w' (pt a18 (.cells #[.string (z67 q.key),.string q.value,.bool q.gone,.int .i64 q.time] T.a2)::slc T.a2 4 z (((b.rs.take i).map z34).flatMap zy)::pt a9 (.cells (cZ b z) T.a0)::pt a1 (.cells #[.int .i64 0,.int .i64 0,.int .i64 0,.int .i64 0,.int .i64 0,.int .i64 0,.slice none 0 0] T.a0)::l)) ?_ ?_
  ·unfold z67
   refine ze (λh=>?_) λh=>?_
   ·refine za hs ?_
    refine wp_must (by omega) ?_
    refine z08 hs λw' hs=>?_
    refine zg ?_
    rw [if_pos (by omega)]
    exact hs
   ·refine zg ?_
    rw [if_neg (by omega)]
    exact hs
  clear hs
  rintro _ w hs
  refine zl ?_
  refine za hs ?_
  refine zf (λ_ w'=>Sat w' (pt a18 (.cells #[.string (z67 q.key),.string (z67 q.value),.bool q.gone,.int .i64 q.time] T.a2)::slc T.a2 4 z (((b.rs.take i).map z34).flatMap zy)::pt a9 (.cells (cZ b z) T.a0)::pt a1 (.cells #[.int .i64 0,.int .i64 0,.int .i64 0,.int .i64 0,.int .i64 0,.int .i64 0,.slice none 0 0] T.a0)::l)) ?_ ?_
  ·generalize z67 q.key=k0 at hs ⊢
   unfold z67
   refine ze (λh=>?_) λh=>?_
   ·refine za hs ?_
    refine wp_must (by omega) ?_
    refine z08 hs λw' hs=>?_
    refine zg ?_
    rw [if_pos (by omega)]
    exact hs
   ·refine zg ?_
    rw [if_neg (by omega)]
    exact hs
  clear hs
  rintro _ w hs
  refine zl ?_
  refine za hs ?_
  refine zj hs ?_
  refine z7x hs (enc:=zy) (z34 q) λy w' hs=>?_
  refine wp_app' (xs:=(b.rs.take i).map z34) (ys:=[z34 q]) (enc:=zy) hs (λz' w' hs=>?_) (by simp only [List.length_map,List.length_take,List.length_cons,List.length_nil];omega)
  refine z08 hs λw' hs=>?_
  rw [wS (i:=i) (by omega)]
  refine z11 (b.rs.length-(i+1)) ⟨i+1,z',rfl,by omega,by omega,rfl,?_⟩
  rw [hx]
  have hs:Sat w' (pt a9 (.cells (cZ b z') T.a0)::slc T.a2 4 z' (((b.rs.take i).map z34++[z34 q]).flatMap zy)::slc T.a2 4 y _::pt a18 _::pt a1 (.cells #[.int .i64 0,.int .i64 0,.int .i64 0,.int .i64 0,.int .i64 0,.int .i64 0,.slice none 0 0] T.a0)::l):=hs
  exact hs.sub
end
inductive Hist:List BatM->ViewA->Prop where
 | nil:Hist [] ⟨0,[],[]⟩
 | snoc {bs:List BatM} {A:ViewA} {b:BatM}:Hist bs A->z3w A b=0->Hist (bs++[b]) (z14 A b)
theorem z01s:okV ⟨0,[],[]⟩:=⟨by show (0:Int)<=0/\(0:Int)<=_;omega,by simp,by simp,by simp,by simp,by simp,by simp,by simp,by simp⟩
theorem zd9 {bs:List BatM} {A:ViewA} (h:Hist bs A):okV A:=by
 induction h with
 | nil=>exact z01s
 | snoc _ hc ih=>exact zkp ih hc
theorem zd2 {A:ViewA} {b:BatM}:(z14 A b).next=b.base+zo b:=by
 unfold z14
 split
 ·rfl
 ·split
  ·split <;> rfl
  ·rfl
theorem z9s {bs:List BatM} {A:ViewA} (h:Hist bs A):bs.Pairwise (λa b=>a.base<b.base)/\∀ b ∈ bs,b.base<A.next:=by
 induction h with
 | nil=>exact ⟨.nil,by simp⟩
 | @snoc bs A b _ hc ih =>
  obtain ⟨hv,hb,-⟩:=z4b hc
  have hs:=(z0z b hv).1
  refine ⟨?_,λc hcm=>?_⟩
  ·rw [List.pairwise_append]
   refine ⟨ih.1,by simp,λc hcm d hd=>?_⟩
   rw [List.mem_singleton.1 hd]
   have:=ih.2 c hcm
   omega
  ·rw [zd2]
   rcases List.mem_append.1 hcm with hcm|hcm
   ·have:=ih.2 c hcm;omega
   ·rw [List.mem_singleton.1 hcm];omega
theorem zd1 {A:ViewA} (hok:okV A):z16 A<=A.next/\∀ t ∈ A.op,z16 A<=t.first:=by
 unfold z16
 cases hop:A.op with
 | nil=>exact ⟨Int.le_refl _,by simp⟩
 | cons u us =>
  dsimp only
  have hu:u ∈ A.op:=by rw [hop];exact List.mem_cons_self ..
  have:=(hok.op u hu).1.first
  refine ⟨by omega,λt ht=>?_⟩
  have hb:=hok.byFirst
  rw [hop] at hb
  rcases List.mem_cons.1 ht with rfl|ht
  ·exact Int.le_refl _
  ·have:=(List.pairwise_cons.1 hb).1 t ht;omega
theorem zvx {A:ViewA} {s:Int} (h1:s<=A.next) (h2:∀ t ∈ A.op,s<=t.first):s<=z16 A:=by
 unfold z16
 cases hop:A.op with
 | nil=>exact h1
 | cons u us=>exact h2 u (by rw [hop];exact List.mem_cons_self ..)
theorem zmc {A:ViewA} {b:BatM} (hok:okV A) (hc:z3w A b=0):z16 A<=z16 (z14 A b):=by
 obtain ⟨hv,hb,-⟩:=z4b hc
 have hs:=(z0z b hv).1
 obtain ⟨h1,h2⟩:=zd1 hok
 refine zvx (by rw [zd2];omega) λt ht=>?_
 unfold z14 at ht
 split at ht
 ·rcases List.mem_append.1 ht with ht|ht
  ·exact h2 t ht
  ·rw [List.mem_singleton.1 ht];show z16 A<=b.base;omega
 ·split at ht
  ·split at ht <;> exact h2 t (List.mem_filter.1 ht).1
  ·exact h2 t ht
theorem zuj {A:ViewA} {b c:BatM} (hok:okV A) (hc:z3w A b=0) (hlt:c.base<z16 A):z1x (z14 A b) c=z1x A c:=by
 have hm:=zmc hok hc
 unfold z1x
 by_cases hmk:z00 c=true
 ·rw [if_pos hmk,if_pos hmk]
 rw [if_neg hmk,if_neg hmk,if_neg (show ¬ c.base>=z16 (z14 A b) by omega),if_neg (show ¬ c.base>=z16 A by omega)]
 have hfa:(z14 A b).fa=A.fa\/∃ t ∈ A.op,(z14 A b).fa=A.fa++[{ t with last:=b.base }]:=by
  unfold z14
  split
  ·exact .inl rfl
  ·split
   ·rename_i h1 h2
    obtain ⟨t,ht⟩:∃ t,opF A b.pid=some t:=Option.isSome_iff_exists.1 h2.2
    split
    ·refine .inr ⟨t,(z5c ht).1,?_⟩
     rw [ht];rfl
    ·exact .inl rfl
   ·exact .inl rfl
 rcases hfa with hfa|⟨t,ht,hfa⟩
 ·have:faF (z14 A b) c.pid c.epoch=faF A c.pid c.epoch:=by unfold faF;rw [hfa]
  rw [this]
 ·have h2:=(zd1 hok).2 t ht
  have hf:faF (z14 A b) c.pid c.epoch=(faF A c.pid c.epoch).or (([{ t with last:=b.base }]:List TxnA).find? λt=>decide (t.pid=c.pid/\t.epoch=c.epoch)):=by
   unfold faF;rw [hfa,List.find?_append]
  rw [hf]
  cases hA:faF A c.pid c.epoch with
  | some u=>rfl
  | none =>
   rw [Option.none_or]
   by_cases hk:t.pid=c.pid/\t.epoch=c.epoch
   ·rw [List.find?_cons_of_pos (by simp [hk])]
    rw [if_neg (λh=>by have:=h.2.2;have:c.base>=t.first:=this;omega),if_neg (λh=>by have:=h.2.1;cases this)]
   ·rw [List.find?_cons_of_neg (by simpa using hk),List.find?_nil]
theorem zvf {s:Int}:∀ {bs:List BatM},bs.Pairwise (λa b=>a.base<b.base)->∃ b1 b2,bs=b1++b2/\(∀ c ∈ b1,c.base<s)/\∀ c ∈ b2,c.base>=s
 | [],_=>⟨[],[],rfl,by simp,by simp⟩
 | b::r,h=>by
  rw [List.pairwise_cons] at h
  by_cases hb:b.base<s
  ·obtain ⟨b1,b2,rfl,h1,h2⟩:=zvf (s:=s) h.2
   refine ⟨b::b1,b2,rfl,λc hc=>?_,h2⟩
   rcases List.mem_cons.1 hc with rfl|hc
   ·exact hb
   ·exact h1 c hc
  ·refine ⟨[],b::r,rfl,by simp,λc hc=>?_⟩
   rcases List.mem_cons.1 hc with rfl|hc
   ·omega
   ·have:=h.1 c hc;omega
theorem zvh {bs:List BatM} {A:ViewA} {b:BatM} (h:Hist bs A) (hc:z3w A b=0):∃ more,z12 (z14 A b) (bs++[b])=z12 A bs++more:=by
 have hok:=zd9 h
 obtain ⟨b1,b2,rfl,h1,h2⟩:=zvf (s:=z16 A) (z9s h).1
 have e1:z12 (z14 A b) b1=z12 A b1:=by
  unfold z12
  clear h
  induction b1 with
  | nil=>rfl
  | cons c r ih =>
   rw [List.flatMap_cons,List.flatMap_cons,zuj hok hc (h1 c (List.mem_cons_self ..)),ih λd hd=>h1 d (List.mem_cons_of_mem _ hd)]
 have e2:z12 A b2=[]:=by
  unfold z12
  rw [List.flatMap_eq_nil_iff]
  intro c hcm
  have:=h2 c hcm
  rw [if_neg]
  unfold z1x
  split
  ·decide
  ·decide
 refine ⟨z12 (z14 A b) (b2++[b]),?_⟩
 have e3:∀ (A:ViewA) (x y:List BatM),z12 A (x++y)=z12 A x++z12 A y:=λA x y=>by unfold z12;rw [List.flatMap_append]
 rw [List.append_assoc,e3,e1,e3 A,e2,List.append_nil]
def zyx (a b:BatM):Prop:=a.pid=b.pid/\a.epoch=b.epoch
def zv8 (bs:List BatM) (i j:Nat) (a:BatM):Prop:=∀ k (hk:k<bs.length),i<k->k<j->zyx bs[k] a->z00 bs[k]=false
theorem zkq {A:ViewA} {p q:Int} (h:p≠q) {n:Int} {fa:List TxnA}:opF ⟨n,z2z q A.op,fa⟩ p=opF A p:=by
 unfold opF z2z
 rw [List.find?_filter]
 congr 1
 funext t
 by_cases ht:t.pid=p
 ·have:t.pid≠q:=by rw [ht];exact h
  simp [ht,h]
 ·simp [ht]
theorem z07o {bs:List BatM} {A:ViewA} (h:Hist bs A):∀ i (hi:i<bs.length),bs[i].kind=1->zv8 bs i bs.length bs[i]->∃ t,opF A bs[i].pid=some t/\t.epoch=bs[i].epoch/\t.first<=bs[i].base:=by
 induction h with
 | nil=>intro i hi;cases hi
 | @snoc bs A b hh hc ih =>
  obtain ⟨hv,hbase,hmay⟩:=z4b hc
  intro i hi hk hno
  by_cases hib:i<bs.length
  ·have hgi:(bs++[b])[i]=bs[i]:=List.getElem_append_left hib
   rw [hgi] at hk hno ⊢
   obtain ⟨t,h1,h2,h3⟩:=ih i hib hk λk hk' hik hkj hkey=>by
    have:=hno k (by rw [List.length_append];omega) hik (by rw [List.length_append];omega) (by rw [List.getElem_append_left hk'];exact hkey)
    rwa [List.getElem_append_left hk'] at this
   refine ⟨t,?_,h2,h3⟩
   unfold z14
   split
   ·show (A.op++[_]).find? _=some t
    rw [List.find?_append]
    have:A.op.find? (λu=>decide (u.pid=bs[i].pid))=some t:=h1
    rw [this];rfl
   ·split
    ·rename_i hm
     obtain ⟨u,hu⟩:∃ u,opF A b.pid=some u:=Option.isSome_iff_exists.1 hm.2
     have hk0:b.kind≠0:=by
      have:=hm.1
      unfold z00 at this
      simp only [Bool.or_eq_true,decide_eq_true_eq] at this
      omega
     obtain ⟨-,m2,-,-⟩:=z63 (hmay hk0)
     have hne:bs[i].pid≠b.pid:=λe=>by
      have e2:u=t:=by rw [<- e,h1] at hu;exact (Option.some.inj hu).symm
      have:=hno bs.length (by rw [List.length_append];simp) hib (by rw [List.length_append];simp) (by
       rw [List.getElem_append_right (Nat.le_refl _)]
       simp only [Nat.sub_self,List.getElem_cons_zero]
       exact ⟨e.symm,by rw [<- m2 u hu,e2,h2]⟩)
      rw [List.getElem_append_right (Nat.le_refl _)] at this
      simp only [Nat.sub_self,List.getElem_cons_zero] at this
      rw [hm.1] at this;cases this
     split
     ·rw [zkq hne];exact h1
     ·rw [zkq hne];exact h1
    ·exact h1
  ·have hib:i=bs.length:=by rw [List.length_append] at hi;simp at hi;omega
   subst hib
   have hgi:(bs++[b])[bs.length]=b:=by rw [List.getElem_append_right (Nat.le_refl _)];simp
   rw [hgi] at hk ⊢
   obtain ⟨-,m2,-,-⟩:=z63 (hmay (by omega))
   unfold z14
   cases ho:opF A b.pid with
   | none =>
    rw [if_pos ⟨hk,rfl⟩]
    refine ⟨⟨b.pid,b.epoch,b.base,-1⟩,?_,rfl,Int.le_refl _⟩
    show (A.op++[_]).find? _=_
    rw [List.find?_append]
    have:A.op.find? (λu=>decide (u.pid=b.pid))=none:=ho
    rw [this]
    simp
   | some t =>
    have hmk:z00 b=false:=by unfold z00;rw [hk];rfl
    rw [if_neg (λh=>by cases h.2),if_neg (λh=>by rw [hmk] at h;cases h.1)]
    refine ⟨t,ho,m2 t ho,?_⟩
    have:=((zd9 hh).op t (z5c ho).1).1.first
    omega
def z30 (a:BatM):List BatM->Int
 | []=>0
 | b::r=>if z00 b=true/\b.pid=a.pid/\b.epoch=a.epoch then (if b.kind=2 then 1 else 2) else z30 a r
theorem zea (a b:BatM):∀ s:List BatM,z30 a (s++[b])=if z30 a s≠0 then z30 a s else z30 a [b]
 | []=>by simp [z30]
 | c::s=>by
  have ih:=zea a b s
  have e:∀ t,z30 a (c::t)=if z00 c=true/\c.pid=a.pid/\c.epoch=a.epoch then (if c.kind=2 then 1 else 2) else z30 a t:=λ_=>rfl
  rw [List.cons_append,e,e]
  by_cases h:z00 c=true/\c.pid=a.pid/\c.epoch=a.epoch
  ·rw [if_pos h,if_pos h]
   split <;> simp
  ·rw [if_neg h,if_neg h,ih]
theorem zos (a b:BatM):z30 a [b]=if z00 b=true/\b.pid=a.pid/\b.epoch=a.epoch then (if b.kind=2 then 1 else 2) else 0:=rfl
theorem zg6 {bs p s:List BatM} {a b:BatM} (h:bs++[b]=p++a::s):(s=[]/\a=b/\p=bs)\/∃ s',s=s'++[b]/\bs=p++a::s':=by
 rcases List.eq_nil_or_concat s with hs|⟨s',c,hs⟩
 ·subst hs
  left
  have:=List.append_inj' h rfl
  exact ⟨rfl,(List.cons.inj this.2).1.symm,this.1.symm⟩
 ·rw [List.concat_eq_append] at hs
  subst hs
  right
  have h2:bs++[b]=(p++a::s')++[c]:=by rw [h];simp
  have:=List.append_inj' h2 rfl
  exact ⟨s',by rw [(List.cons.inj this.2).1],this.1⟩
theorem z8q {A:ViewA} {b:BatM} (hc:z3w A b=0) :
  (b.kind=1/\opF A b.pid=none/\z14 A b=⟨b.base+zo b,A.op++[⟨b.pid,b.epoch,b.base,-1⟩],A.fa⟩) \/
  (∃ t,z00 b=true/\opF A b.pid=some t/\t.epoch=b.epoch/\((b.kind=3/\z14 A b=⟨b.base+zo b,z2z b.pid A.op,A.fa++[⟨t.pid,t.epoch,t.first,b.base⟩]⟩)\/(b.kind=2/\z14 A b=⟨b.base+zo b,z2z b.pid A.op,A.fa⟩))) \/
  ((z00 b=true->opF A b.pid=none)/\(b.kind=1->∃ t,opF A b.pid=some t/\t.epoch=b.epoch)/\z14 A b=⟨b.base+zo b,A.op,A.fa⟩):=by
 obtain ⟨hv,hbase,hmay⟩:=z4b hc
 have hmk:z00 b=true->b.kind=2\/b.kind=3:=λh=>by
  unfold z00 at h
  simpa using h
 cases ho:opF A b.pid with
 | none =>
  by_cases hk:b.kind=1
  ·left
   refine ⟨hk,rfl,?_⟩
   unfold z14
   rw [if_pos ⟨hk,by rw [ho];rfl⟩]
  ·right;right
   refine ⟨λ_=>rfl,λh=>absurd h hk,?_⟩
   unfold z14
   rw [if_neg (λh=>hk h.1),if_neg (λh=>by rw [ho] at h;cases h.2)]
 | some t =>
  by_cases hm:z00 b=true
  ·have hk:=hmk hm
   obtain ⟨-,m2,-,-⟩:=z63 (hmay (by omega))
   right;left
   refine ⟨t,hm,rfl,m2 t ho,?_⟩
   rcases hk with hk|hk
   ·right
    refine ⟨hk,?_⟩
    unfold z14
    rw [if_neg (λh=>by omega),if_pos ⟨hm,by rw [ho];rfl⟩,if_neg (by omega)]
   ·left
    refine ⟨hk,?_⟩
    unfold z14
    rw [if_neg (λh=>by omega),if_pos ⟨hm,by rw [ho];rfl⟩,if_pos hk,ho];rfl
  ·right;right
   refine ⟨λh=>absurd h hm,λh=>?_,?_⟩
   ·obtain ⟨-,m2,-,-⟩:=z63 (hmay (by omega))
    exact ⟨t,rfl,m2 t ho⟩
   ·unfold z14
    rw [if_neg (λh=>by rw [ho] at h;cases h.2),if_neg (λh=>hm h.1)]
theorem zqq {p s:List BatM} {a:BatM} (h:z30 a s=0):zv8 (p++a::s) p.length (p++a::s).length a:=by
 intro k hk hik _ hkey
 have hk2:k-(p.length+1)<s.length:=by simp at hk;omega
 have z32:(p++a::s)[k]=s[k-(p.length+1)]:=by
  rw [List.getElem_append_right (by omega)]
  have:k-p.length=(k-(p.length+1))+1:=by omega
  simp only [this,List.getElem_cons_succ]
 rw [z32] at hkey ⊢
 have hall:∀ (s:List BatM),z30 a s=0->∀ c ∈ s,zyx c a->z00 c=false:=by
  intro s
  induction s with
  | nil=>intro _ c hc;cases hc
  | cons c s ih =>
   intro h d hd hkey
   unfold z30 at h
   split at h
   ·split at h <;> cases h
   ·rename_i hn
    rcases List.mem_cons.1 hd with rfl|hd
    ·cases hm:z00 d with
     | false=>rfl
     | true=>exact absurd ⟨hm,hkey.1,hkey.2⟩ hn
    ·exact ih h d hd hkey
 exact hall s h _ (List.getElem_mem hk2) hkey
theorem zwy {bs:List BatM} {A:ViewA} (h:Hist bs A) {p s:List BatM} {a:BatM} (hb:bs=p++a::s) (hk:a.kind=1) (he:z30 a s=0):∃ t,opF A a.pid=some t/\t.epoch=a.epoch/\t.first<=a.base:=by
 subst hb
 have hi:p.length<(p++a::s).length:=by simp
 have z32:(p++a::s)[p.length]=a:=by simp
 have:=z07o h p.length hi (by rw [z32];exact hk) (by rw [z32];exact zqq he)
 rwa [z32] at this
theorem z07p {bs:List BatM} {A:ViewA} (h:Hist bs A):∀ p a s,bs=p++a::s->a.kind=1->z30 a s=2->∃ t ∈ A.fa,t.pid=a.pid/\t.epoch=a.epoch/\t.first<=a.base:=by
 induction h with
 | nil=>intro p a s h;simp at h
 | @snoc bs A b hh hc ih =>
  intro p a s hb hk he
  have hfa:∀ t ∈ A.fa,t ∈ (z14 A b).fa:=λt ht=>by
   rcases z8q hc with ⟨h1,h2,h3⟩|⟨u,h1,h2,h3,⟨-,h4⟩|⟨-,h4⟩⟩|⟨h1,h2,h3⟩
   ·rw [h3];exact ht
   ·rw [h4];exact List.mem_append_left _ ht
   ·rw [h4];exact ht
   ·rw [h3];exact ht
  rcases zg6 hb with ⟨rfl,rfl,rfl⟩|⟨s',rfl,hb'⟩
  ·cases he
  ·rw [zea] at he
   by_cases h0:z30 a s'≠0
   ·rw [if_pos h0] at he
    obtain ⟨t,h1,h2⟩:=ih p a s' hb' hk he
    exact ⟨t,hfa t h1,h2⟩
   ·rw [if_neg h0,zos] at he
    have h0:z30 a s'=0:=Decidable.not_not.1 h0
    split at he
    ·rename_i hm
     split at he
     ·cases he
     ·rename_i hk2
      obtain ⟨t,g1,g2,g3⟩:=zwy hh hb' hk h0
      rw [<- hm.2.1] at g1
      rcases z8q hc with ⟨h1,h2,h3⟩|⟨u,h1,h2,h3,⟨-,h4⟩|⟨h5,h4⟩⟩|⟨h1,h2,h3⟩
      ·rw [h2] at g1;cases g1
      ·rw [h2] at g1
       obtain rfl:=Option.some.inj g1
       refine ⟨⟨u.pid,u.epoch,u.first,b.base⟩,by rw [h4];simp,?_,g2,g3⟩
       show u.pid=a.pid
       rw [(z5c h2).2,hm.2.1]
      ·exact absurd h5 hk2
      ·rw [h1 hm.1] at g1;cases g1
    ·cases he
theorem z07q {bs:List BatM} {A:ViewA} (h:Hist bs A):∀ p a s,bs=p++a::s->a.kind=1->z30 a s=1->∀ t,(t ∈ A.op\/t ∈ A.fa)->t.pid=a.pid->t.epoch=a.epoch->a.base<t.first:=by
 induction h with
 | nil=>intro p a s h;simp at h
 | @snoc bs A b hh hc ih =>
  intro p a s hb hk he
  obtain ⟨hv,hbase,hmay⟩:=z4b hc
  rcases zg6 hb with ⟨rfl,rfl,rfl⟩|⟨s',rfl,hb'⟩
  ·cases he
  ·have hlt:a.base<A.next:=(z9s hh).2 a (by rw [hb'];simp)
   rw [zea] at he
   by_cases h0:z30 a s'≠0
   ·rw [if_pos h0] at he
    have ih:=ih p a s' hb' hk he
    intro t ht htp hte
    rcases z8q hc with ⟨h1,h2,h3⟩|⟨u,h1,h2,h3,⟨-,h4⟩|⟨-,h4⟩⟩|⟨h1,h2,h3⟩
    ·rw [h3] at ht
     rcases ht with ht|ht
     ·rcases List.mem_append.1 ht with ht|ht
      ·exact ih t (.inl ht) htp hte
      ·rw [List.mem_singleton.1 ht];show a.base<b.base;omega
     ·exact ih t (.inr ht) htp hte
    ·rw [h4] at ht
     rcases ht with ht|ht
     ·exact ih t (.inl (List.mem_filter.1 ht).1) htp hte
     ·rcases List.mem_append.1 ht with ht|ht
      ·exact ih t (.inr ht) htp hte
      ·rw [List.mem_singleton.1 ht] at htp hte ⊢
       exact ih u (.inl (z5c h2).1) htp hte
    ·rw [h4] at ht
     rcases ht with ht|ht
     ·exact ih t (.inl (List.mem_filter.1 ht).1) htp hte
     ·exact ih t (.inr ht) htp hte
    ·rw [h3] at ht
     exact ih t ht htp hte
   ·rw [if_neg h0,zos] at he
    have h0:z30 a s'=0:=Decidable.not_not.1 h0
    split at he
    ·rename_i hm
     split at he
     ·rename_i hk2
      obtain ⟨t,g1,g2,g3⟩:=zwy hh hb' hk h0
      rw [<- hm.2.1] at g1
      obtain ⟨m1,-,-,-⟩:=z63 (hmay (by omega))
      intro t2 ht htp hte
      rcases z8q hc with ⟨h1,h2,h3⟩|⟨u,h1,h2,h3,⟨h5,h4⟩|⟨h5,h4⟩⟩|⟨h1,h2,h3⟩
      ·rw [h2] at g1;cases g1
      ·omega
      ·rw [h4] at ht
       rcases ht with ht|ht
       ·have:=(List.mem_filter.1 ht).2
        simp at this
        exact absurd (htp.trans hm.2.1.symm) this
       ·exact absurd ⟨htp.trans hm.2.1.symm,hte.trans hm.2.2.symm⟩ (z7k m1 t2 ht)
      ·rw [h1 hm.1] at g1;cases g1
     ·cases he
    ·cases he
theorem zqz {bs:List BatM} {A:ViewA} (h:Hist bs A):∀ b ∈ bs,z04 b=0:=by
 induction h with
 | nil=>intro b hb;cases hb
 | snoc _ hc ih =>
  intro c hcm
  rcases List.mem_append.1 hcm with hcm|hcm
  ·exact ih c hcm
  ·rw [List.mem_singleton.1 hcm];exact (z4b hc).1
theorem zhq (a:BatM):∀ s:List BatM,z30 a s=0\/z30 a s=1\/z30 a s=2
 | []=>.inl rfl
 | b::s=>by
  unfold z30
  split
  ·split
   ·exact .inr (.inl rfl)
   ·exact .inr (.inr rfl)
  ·exact zhq a s
theorem zws {bs p s:List BatM} {a:BatM} {A:ViewA} (h:Hist bs A) (hb:bs=p++a::s):z1x A a=1↔(a.base<z16 A/\z00 a=false/\(a.kind=0\/z30 a s=1)):=by
 have hok:=zd9 h
 have hv:=zqz h a (by rw [hb];simp)
 have hk:=(z0z a hv).2.2.1.1
 unfold z1x
 by_cases hm:z00 a=true
 ·rw [if_pos hm]
  simp [hm]
 rw [if_neg hm]
 have hm':z00 a=false:=by simpa using hm
 by_cases hs:a.base>=z16 A
 ·rw [if_pos hs]
  constructor
  ·intro h;cases h
  ·intro h;omega
 rw [if_neg hs]
 have hk01:a.kind=0\/a.kind=1:=by
  unfold z00 at hm'
  simp at hm'
  omega
 rcases hk01 with hk0|hk1
 ·rw [if_neg (λh=>by omega)]
  exact ⟨λ_=>⟨by omega,hm',.inl hk0⟩,λ_=>rfl⟩
 rcases zhq a s with he|he|he
 ·obtain ⟨t,g1,g2,g3⟩:=zwy h hb hk1 he
  have:=(zd1 hok).2 t (z5c g1).1
  omega
 ·have hd:=z07q h p a s hb hk1 he
  rw [if_neg]
  ·exact ⟨λ_=>⟨by omega,hm',.inr he⟩,λ_=>rfl⟩
  ·rintro ⟨-,h2,h3⟩
   obtain ⟨t,ht⟩:=Option.isSome_iff_exists.1 h2
   rw [ht] at h3
   obtain ⟨g1,g2,g3⟩:=z93 ht
   have h4:=hd t (.inr g1) g2 g3
   have h3:a.base>=t.first:=h3
   omega
 ·obtain ⟨t,g1,g2,g3,g4⟩:=z07p h p a s hb hk1 he
  rw [if_pos]
  ·constructor
   ·intro h;cases h
   ·rintro ⟨-,-,h|h⟩ <;> omega
  ·cases hf:faF A a.pid a.epoch with
   | none=>exact absurd ⟨g2,g3⟩ (z7k hf t g1)
   | some u =>
    refine ⟨hk1,rfl,?_⟩
    obtain ⟨f1,f2,f3⟩:=z93 hf
    have:u=t:=by
     have hkk:∀ {l:List TxnA},(l.map λt=>(t.pid,t.epoch)).Nodup->u ∈ l->t ∈ l->u=t:=λ{l} hnd h5 h6=>by
      induction l with
      | nil=>cases h5
      | cons c r ihl =>
       rw [List.map_cons,List.nodup_cons] at hnd
       rcases List.mem_cons.1 h5 with e5|m5 <;> rcases List.mem_cons.1 h6 with e6|m6
       ·exact e5.trans e6.symm
       ·exact absurd (List.mem_map.2 ⟨t,m6,by rw [<- e5,f2,f3,g2,g3]⟩) hnd.1
       ·exact absurd (List.mem_map.2 ⟨u,m5,by rw [<- e6,f2,f3,g2,g3]⟩) hnd.1
       ·exact ihl hnd.2 m5 m6
     exact hkk hok.keys f1 g1
    show a.base>=u.first
    rw [this];exact g4
structure InvW (A:PartA) (D:DiskA) (d:Nat):Prop where
 cpl:Cpl aP A.L.l D
 calm:Calm D
 pre:A.L.pre=aP
 dd:A.L.d=d
 hist:Hist (zv A.L.l) A.V
 nxt:A.V.next<=zp A.L.l
 fst:z1r A.L.l=0
theorem zri {seg:Int} {l:List SegA} {bs:List BatM} (h:z1r l=0):z1r (z18 seg l bs).2=0:=by
 unfold z18
 split
 ·exact h
 split
 ·exact h
 show z1r (if _ then _ else _)=0
 cases l with
 | nil=>rfl
 | cons s r =>
  have hs:s.base=0:=h
  split
  ·unfold z45
   cases hq:(s::r).getLast? with
   | none=>exact h
   | some t =>
    cases r with
    | nil =>
     have:t=s:=by simpa using hq.symm
     subst this
     exact hs
    | cons u r=>exact hs
  ·exact hs
theorem z01g (d n:Nat) (hn:n<=4194304) (seg gap most:Int):InvW (zbg ⟨d,aP,seg,gap,[]⟩ most) ⟨n,-1,false,[]⟩ d :=
 ⟨z84 aP n hn,⟨rfl,rfl⟩,rfl,rfl,.nil,Int.le_refl _,rfl⟩
theorem z01y {n:Int} {c:BatM} (hv:z04 (c.to n)=0):zx n [c]=(0,[c.to n]):=by
 unfold zx
 rw [if_neg (by rw [hv];simp)]
 rfl
theorem zgu {A:PartA} {D:DiskA} {d:Nat} (b:BatM) (h:InvW A D d) :
  InvW (z0u A D b).2.1 (z0u A D b).2.2 d/\(((z0u A D b).2.1.L.l=A.L.l/\(z0u A D b).2.1.V=A.V) \/
   ∃ c,z3w A.V c=0/\zv (z0u A D b).2.1.L.l=zv A.L.l++[c]/\(z0u A D b).2.1.V=z14 A.V c/\c.rs=b.rs):=by
 have hpre:z3n A.L.pre=true:=by rw [h.pre];kernel_rfl
 have hcp:Cpl A.L.pre A.L.l D:=by rw [h.pre];exact h.cpl
 unfold z0u
 split
 ·exact ⟨h,.inl ⟨rfl,rfl⟩⟩
 rename_i hn
 have hask:(za5 A (b.to (zp A.L.l))).2=0:=Classical.byContradiction λg=>hn (.inl g)
 have hcode:z3w A.V (b.to (zp A.L.l))=0:=by
  unfold za5 at hn hask
  by_cases g:(z1s A.T (b.to (zp A.L.l))).2≠0\/(z1s A.T (b.to (zp A.L.l))).1.again=true
  ·rw [if_pos g] at hn;exact absurd g hn
  ·rw [if_neg g] at hask;exact hask
 obtain ⟨hv,hbase,-⟩:=z4b hcode
 obtain ⟨c,hc⟩:∃ c,c=b.to (zp A.L.l):=⟨_,rfl⟩
 have hcn:c.to (zp A.L.l)=c:=by rw [hc];rfl
 have hcb:c.base=zp A.L.l:=by rw [hc];rfl
 have hcr:c.rs=b.rs:=by rw [hc];rfl
 rw [<- hc] at hcode hv ⊢
 have hst:=zbb A.L.seg [c] hpre hcp
 have hcalm:=hst.2.2.2.2 h.calm
 have hpl:zx (zp A.L.l) [c]=(0,[c]):=by rw [z01y (by rw [hcn];exact hv),hcn]
 have hall:=zbh (seg:=A.L.seg) (bs:=[c]) hcp.segs (by simp) (by rw [hpl])
 rw [hpl] at hall
 have hfst:=zri (seg:=A.L.seg) (bs:=[c]) h.fst
 unfold zjk
 rcases zfo A.L.pre A.L.seg A.L.l D [c] with ⟨h1,h2⟩|⟨h1,h2,h3,h4⟩
 ·have e:(z18 A.L.seg A.L.l [c]).1=(zp A.L.l,0):=by
   unfold z18
   rw [if_neg (by simp),if_neg (by rw [hpl];simp)]
  rw [if_neg (by rw [h1,e];simp)]
  obtain ⟨y1,y2,y3,y4,y5⟩:=z6z hst.1
  rw [if_neg (by rw [y5 hcalm];simp)]
  have e2:c.to (z0m A.L.pre A.L.seg A.L.l D [c]).1.1=c:=by rw [h1,e];exact hcn
  rw [e2]
  have hal:zv (z0m A.L.pre A.L.seg A.L.l D [c]).2.1=zv A.L.l++[c.p]:=by rw [h2];exact hall.1
  have hnx:zp (z0m A.L.pre A.L.seg A.L.l D [c]).2.1=c.base+zo c:=by rw [h2];exact hall.2
  have htk:(za1 A.V c).2=z14 A.V c.p:=by
   unfold za1
   rw [if_neg (by rw [hcode];simp)]
   rfl
  have hcp2:z3w A.V c.p=0:=hcode
  refine ⟨⟨by rw [h.pre] at y1;rw [h.pre];exact y1,zft hcalm _ _,h.pre,h.dd,?_,?_,?_⟩,.inr ⟨c.p,hcp2,hal,htk,hcr⟩⟩
  ·show Hist (zv (z0m A.L.pre A.L.seg A.L.l D [c]).2.1) (za1 A.V c).2
   rw [hal,htk]
   exact .snoc h.hist hcp2
  ·show (za1 A.V c).2.next<=zp (z0m A.L.pre A.L.seg A.L.l D [c]).2.1
   rw [htk,hnx,zd2]
   exact Int.le_refl _
  ·show z1r (z0m A.L.pre A.L.seg A.L.l D [c]).2.1=0
   rw [h2]
   exact hfst
 ·rw [if_pos h2]
  refine ⟨⟨?_,hcalm,h.pre,h.dd,?_,?_,?_⟩,.inl ⟨h3,rfl⟩⟩
  ·have:=hst.1
   rw [h.pre] at this ⊢
   exact this
  ·show Hist (zv (z0m A.L.pre A.L.seg A.L.l D [c]).2.1) A.V
   rw [h3];exact h.hist
  ·show A.V.next<=zp (z0m A.L.pre A.L.seg A.L.l D [c]).2.1
   rw [h3];exact h.nxt
  ·show z1r (z0m A.L.pre A.L.seg A.L.l D [c]).2.1=0
   rw [h3];exact h.fst
theorem zlk {A:PartA} {D:DiskA} {d:Nat} (h:InvW A D d):z16 A.V<=z2v A/\∀ c ∈ zv A.L.l,c.base<z2v A->c.base<z16 A.V:=by
 have hb:=(z9s h.hist).2
 have hn:=h.nxt
 unfold z2v
 cases ho:A.V.op with
 | nil =>
  have e:z16 A.V=A.V.next:=by unfold z16;rw [ho]
  rw [e]
  exact ⟨hn,λc hc _=>hb c hc⟩
 | cons t r =>
  rw [if_neg (by simp),h.fst]
  have hok:=zd9 h.hist
  have h0:0<=z16 A.V:=by
   unfold z16
   rw [ho]
   exact ((hok.op t (by rw [ho];simp)).1.first).1
  constructor
  ·omega
  ·intro c _ h2;omega
theorem zvg {A:PartA} {D:DiskA} {d:Nat} (h:InvW A D d):∀ (bs:List BatM) (n:Int),bs.Pairwise (λa b=>a.base<b.base)->(z2u A true n bs).1=z12 A.V bs
 | [],n,_=>rfl
 | b::bs,n,hp=>by
  rw [List.pairwise_cons] at hp
  by_cases hs:b.base>=z2v A
  ·rw [zih ⟨rfl,hs⟩]
   have hst:=(zlk h).1
   have hz:∀ c ∈ b::bs,¬ z1x A.V c=1:=λc hc=>by
    have h1:z16 A.V<=c.base:=by
     rcases List.mem_cons.1 hc with rfl|hc
     ·omega
     ·have:=hp.1 c hc;omega
    unfold z1x
    by_cases hm:z00 c=true
    ·rw [if_pos hm];omega
    ·rw [if_neg hm,if_pos (by omega)];omega
   symm
   show (b::bs).flatMap (λb=>if z1x A.V b=1 then z20 b else [])=[]
   rw [List.flatMap_eq_nil_iff]
   intro c hc
   rw [if_neg (hz c hc)]
  ·rw [zpg (λg=>hs g.2)]
   have ih:=zvg h bs (z1k b) hp.2
   show _++(z2u A true (z1k b) bs).1=(b::bs).flatMap (λb=>if z1x A.V b=1 then z20 b else [])
   rw [ih,List.flatMap_cons]
   simp only [Bool.true_eq_false,false_or]
   rfl
theorem z040 {A:PartA} {D:DiskA} {d:Nat} (h:InvW A D d) (hn:(zv A.L.l).length<=1000):(z2m A 0 1000 true).2=0/\(z2m A 0 1000 true).1.1=z12 A.V (zv A.L.l):=by
 have hr:z4t A.L.l 0 1000=(0,zv A.L.l):=by
  have:=zl2 h.cpl.segs (n:=1000) (by omega) (by omega)
  rwa [h.fst] at this
 unfold z2m
 rw [hr]
 exact ⟨rfl,zvg h _ _ (z9s h.hist).1⟩
theorem zvp {A:PartA} {D:DiskA} {d:Nat} (b:BatM) (h:InvW A D d):∃ more,z12 (z0u A D b).2.1.V (zv (z0u A D b).2.1.L.l)=z12 A.V (zv A.L.l)++more:=by
 obtain ⟨-,h2⟩:=zgu b h
 rcases h2 with ⟨e1,e2⟩|⟨c,h3,e1,e2,-⟩
 ·rw [e1,e2];exact ⟨[],by rw [List.append_nil]⟩
 ·rw [e1,e2];exact zvh h.hist h3
theorem zxu {A:PartA} {D:DiskA} {d:Nat} (b:BatM) (h:InvW A D d):(zv (z0u A D b).2.1.L.l).length<=(zv A.L.l).length+1:=by
 obtain ⟨-,h2⟩:=zgu b h
 rcases h2 with ⟨e1,e2⟩|⟨c,h3,e1,e2,-⟩
 ·rw [e1];omega
 ·rw [e1,List.length_append];simp
theorem zed {b:BatM} (hv:z04 b=0):∀ r ∈ z20 b,b.base<=r.off/\r.off<b.base+zo b:=λr hr=>by
 obtain ⟨s1,s2,hnum,-,s5⟩:=z0z b hv
 have h0:=hnum.2.1.1
 unfold z20 at hr
 split at hr
 ·cases hr
 rename_i hm
 obtain ⟨i,hi,rfl⟩:=List.mem_mapIdx.1 hr
 have hsp:zo b=(b.rs.length:Nat):=by unfold zo;rw [if_neg hm]
 show b.base<=IntKind.wrap .i64 (b.base+i)/\IntKind.wrap .i64 (b.base+i)<b.base+zo b
 rw [w64 (by omega) (by omega)]
 omega
theorem zqd:∀ {n:Int} {bs:List BatM},z1j n bs->∀ c ∈ bs,n<=c.base
 | n,b::bs,⟨hv,_,h1,h2⟩,c,hc=>by
  rcases List.mem_cons.1 hc with rfl|hc
  ·exact h1
  ·have:=zqd h2 c hc
   have:=(z0z b hv).1
   omega
theorem zjs:∀ {n:Int} {p s:List BatM} {a:BatM},z1j n (p++a::s)->(∀ c ∈ p,c.base+zo c<=a.base)/\∀ c ∈ s,a.base+zo a<=c.base
 | n,[],s,a,⟨hv,_,h1,h2⟩=>⟨λ_ h=>(by cases h),λc hc=>zqd h2 c hc⟩
 | n,b::p,s,a,⟨hv,_,h1,h2⟩=>by
  obtain ⟨i1,i2⟩:=zjs h2
  refine ⟨λc hc=>?_,i2⟩
  rcases List.mem_cons.1 hc with rfl|hc
  ·exact zqd h2 a (by simp)
  ·exact i1 c hc
def inB (a:BatM) (r:AtM):Bool:=decide (a.base<=r.off/\r.off<a.base+a.rs.length)
theorem z00z {A:PartA} {D:DiskA} {d:Nat} (h:InvW A D d) {p s:List BatM} {a:BatM} (hb:zv A.L.l=p++a::s) (hk:a.kind=1):(z12 A.V (zv A.L.l)).countP (inB a)=if z1x A.V a=1 then a.rs.length else 0:=by
 have hok:=z8u (Int.le_refl 0) h.cpl.segs
 have hval:∀ c ∈ zv A.L.l,z04 c=0:=λc hc=>(hok.valid c hc).1
 rw [hb] at hok
 obtain ⟨h1,h2⟩:=zjs hok
 have hm:¬ z00 a=true:=by unfold z00;rw [hk];simp
 have hsp:zo a=(a.rs.length:Nat):=by unfold zo;rw [if_neg hm]
 have hva:=hval a (by rw [hb];simp)
 have e1:∀ c ∈ p,(if z1x A.V c=1 then z20 c else []).countP (inB a)=0:=λc hc=>by
  have hvc:=hval c (by rw [hb];exact List.mem_append_left _ hc)
  split
  ·rw [List.countP_eq_zero]
   intro r hr
   have:=zed hvc r hr
   have:=h1 c hc
   unfold inB
   simp only [decide_eq_true_eq]
   omega
  ·rfl
 have e2:∀ c ∈ s,(if z1x A.V c=1 then z20 c else []).countP (inB a)=0:=λc hc=>by
  have hvc:=hval c (by rw [hb];simp [hc])
  split
  ·rw [List.countP_eq_zero]
   intro r hr
   have:=zed hvc r hr
   have:=h2 c hc
   unfold inB
   simp only [decide_eq_true_eq]
   omega
  ·rfl
 have e3:(z20 a).countP (inB a)=a.rs.length:=by
  have hl:(z20 a).length=a.rs.length:=by unfold z20;rw [if_neg hm,List.length_mapIdx]
  rw [<- hl,List.countP_eq_length]
  intro r hr
  have:=zed hva r hr
  unfold inB
  simp only [decide_eq_true_eq]
  omega
 have z:∀ l:List BatM,(∀ c ∈ l,(if z1x A.V c=1 then z20 c else []).countP (inB a)=0)->(l.flatMap λc=>if z1x A.V c=1 then z20 c else []).countP (inB a)=0:=λl hl=>by
  induction l with
  | nil=>rfl
  | cons c r ih =>
   rw [List.flatMap_cons,List.countP_append,hl c (List.mem_cons_self ..),ih λx hx=>hl x (List.mem_cons_of_mem _ hx)]
 unfold z12
 rw [hb,List.flatMap_append,List.flatMap_cons,List.countP_append,List.countP_append,z p e1,z s e2]
 split
 ·rw [e3];omega
 ·rfl
def z4o (a:BatM) (e:Int) (s:List BatM):Int:=s.foldl (λe x=>if e=0/\z00 x=true/\x.pid=a.pid/\x.epoch=a.epoch then x.kind else e) e
theorem zor (a:BatM):∀ (s:List BatM) (e:Int),e≠0->z4o a e s=e
 | [],e,_=>rfl
 | x::s,e,h=>by
  unfold z4o
  rw [List.foldl_cons,if_neg (λg=>h g.1)]
  exact zor a s e h
theorem zoq (a:BatM):∀ s:List BatM,(z4o a 0 s=2↔z30 a s=1)
 | []=>by unfold z4o z30;simp
 | x::s=>by
  have ih:=zoq a s
  unfold z4o at ih ⊢
  rw [List.foldl_cons]
  unfold z30
  by_cases h:z00 x=true/\x.pid=a.pid/\x.epoch=a.epoch
  ·rw [if_pos ⟨rfl,h⟩,if_pos h]
   have hk:x.kind=2\/x.kind=3:=by have:=h.1;unfold z00 at this;simpa using this
   have:=zor a s x.kind (by omega)
   unfold z4o at this
   rw [this]
   rcases hk with e|e
   ·rw [e];simp
   ·rw [e];simp
  ·rw [if_neg (λg=>h g.2),if_neg h]
   exact ih
theorem z02o {A:PartA} {D:DiskA} {d:Nat} (h:InvW A D d) {p s:List BatM} {a:BatM} (hb:zv A.L.l=p++a::s) (hk:a.kind=1) (hs:a.base<z2v A):(z12 A.V (zv A.L.l)).countP (inB a)=if z4o a 0 s=2 then a.rs.length else 0:=by
 rw [z00z h hb hk]
 have hm:z00 a=false:=by unfold z00;rw [hk];rfl
 have h1:=zws h.hist hb
 have h2:=(zlk h).2 a (by rw [hb];simp) hs
 have h3:z1x A.V a=1↔z4o a 0 s=2:=by
  rw [h1,zoq]
  constructor
  ·rintro ⟨-,-,h4|h4⟩
   ·omega
   ·exact h4
  ·intro h4;exact ⟨h2,hm,.inr h4⟩
 by_cases h4:z1x A.V a=1
 ·rw [if_pos h4,if_pos (h3.1 h4)]
 ·rw [if_neg h4,if_neg (λg=>h4 (h3.2 g))]
section
variable {w:World} {l r:List HP} {p d:Nat} {A:PartA} {D:DiskA}
theorem zd7 {w:World} {d e:Nat} {D:DiskA} {X:HP} {l:List HP} (h:e=d) (hs:Sat w (X::dk d D::l)):Sat w (X::dk e D::l):=by rw [h];exact hs
theorem zvc {x:List AtM × Int} {e:Int} {n:Nat} {k m:Int} (h:(x.1.length,x.2,e)=(n,k,m)):x.1.length=n/\x.2=k/\e=m:=by
 simp only [Prod.mk.injEq] at h
 exact h
set_option maxHeartbeats 1000000 in
theorem zu4 (hs:Sat w l):Ret P F.a162 #[] w λvs w'=>vs=[.bool true]/\Sat w' l :=
 z9h <| by
  unfold z8a
  refine z8 (zv6 10000 (by omega) hs) λ_ w' hs=>?_
  obtain ⟨d,rfl,hs⟩:=hs
  refine ⟨(some ⟨d,0,none⟩,0,()),rfl,trivial,z40 _ _ ?_⟩
  refine wp_lt ?_
  have hs:Sat w' (dk d kD::l):=hs
  have hp0:z3n aP=true:=by kernel_rfl
  refine z8 (zpl (d:=d) (D:=kD) aP 100 9 4 hp0 ⟨by decide,by decide⟩ (by omega) rfl (z84 aP 10000 (by omega)) (λf hf=>by cases hf) hs) λ_ w' hs=>?_
  obtain ⟨p,rfl,hs⟩:=hs
  refine ⟨(some ⟨p,0,none⟩,0,()),rfl,trivial,z40 _ _ ?_⟩
  refine wp_lt ?_
  refine z07 ?_ (by simp)
  have hs:Sat w' (paP p (kA d)::dk d kD::l):=hs
  refine zq5 hs (enc:=zy) kR λx w' hs=>?_
  refine zq hs λa w' hs=>?_
  refine zr hs λw' hs=>?_
  have hb:FocR (pt a (.cells #[.int .i64 0,.int .i64 3,.int .i64 0,.int .i64 0,.int .i64 1,.int .i64 0,.slice x.a x.len x.cap] T.a0)::slc T.a2 4 x (kR.flatMap zy)::l) (kB x).x 4 ((kB x).rs.flatMap zy) :=
   (FocR.tail (h:=FocR.head):FocR (pt a (.cells #[.int .i64 0,.int .i64 3,.int .i64 0,.int .i64 0,.int .i64 1,.int .i64 0,.slice x.a x.len x.cap] T.a0)::slc T.a2 4 x (kR.flatMap zy)::l) x 4 (kR.flatMap zy))
  have hs:Sat w' (pt a (.cells #[.int .i64 0,.int .i64 3,.int .i64 0,.int .i64 0,.int .i64 1,.int .i64 0,.slice x.a x.len x.cap] T.a0)::slc T.a2 4 x (kR.flatMap zy)::paP p (kA d)::dk d kD::l):=hs
  have c0:Cpl aP [] kD:=z84 aP 10000 (by omega)
  obtain ⟨S,hS⟩:∃ S,S=(z0u (kA d) kD (kB x)).2:=⟨_,rfl⟩
  obtain ⟨U,hU⟩:∃ U,U=(z0u S.1 S.2 kM).2:=⟨_,rfl⟩
  have e1:=k1 d x
  have e2:=k2 hS
  have e3:=k3 hS
  have e4:=k4 hS
  have e5:=k5 hS
  have e6:=k6 hS hU
  have e7:=k7 hS
  obtain ⟨g3,g4,c2⟩:=k8 e7 hU
  obtain ⟨g1,g2,c1⟩:=e7
  rw [<- g2] at c1
  rw [<- g4] at c2
  have hrl:(kB x).rs.length<=1000000:=by show 1<=_;omega
  refine zj hs ?_
  have hs:Sat w' (paP p (kA d)::dk (kA d).L.d kD::pt a (.cells #[.int .i64 0,.int .i64 3,.int .i64 0,.int .i64 0,.int .i64 1,.int .i64 0,.slice x.a x.len x.cap] T.a0)::slc T.a2 4 x (kR.flatMap zy)::l):=hs.pick [2,2]
  refine z8 (zkv (p:=p) (A:=kA d) (D:=kD) (kB x) hb c0 hrl rfl hs) λ_ w' hs=>?_
  obtain ⟨hv,hs⟩:=hs
  rw [e1] at hv
  rw [<- hS] at hs
  subst hv
  refine ⟨(0,false,0,()),rfl,trivial,z7i _ _ _ ?_⟩
  refine wp_lt ?_
  refine wp_lt ?_
  refine wp_lt ?_
  have hs:Sat w' (paP p S.1::dk d S.2::pt a (.cells #[.int .i64 0,.int .i64 3,.int .i64 0,.int .i64 0,.int .i64 1,.int .i64 0,.slice x.a x.len x.cap] T.a0)::slc T.a2 4 x (kR.flatMap zy)::l):=hs
  refine zj hs ?_
  have hs:=zd7 g1 hs
  refine z8 (zkv (p:=p) (A:=S.1) (D:=S.2) (kB x) hb c1 hrl rfl hs) λ_ w' hs=>?_
  obtain ⟨hv,hs⟩:=hs
  rw [e2] at hv hs
  subst hv
  refine ⟨(0,true,0,()),rfl,trivial,z7i _ _ _ ?_⟩
  refine wp_lt ?_
  refine wp_lt ?_
  refine wp_lt ?_
  refine z8 (zdb (p:=p) (A:=S.1) (D:=S.2) 0 9 true (by omega) (by omega) c1 hs) λ_ w' hs=>?_
  obtain ⟨z1,hv,hs⟩:=hs
  rw [e3] at hv hs
  subst hv
  refine ⟨(z1,0,0,()),rfl,trivial,z7i _ _ _ ?_⟩
  have hz1:=hs.slen z1 (xs:=([]:List AtM)) (enc:=z0g)
  have hs:=hs.tail
  refine wp_lt ?_
  refine wp_lt ?_
  refine z8 (zdb (p:=p) (A:=S.1) (D:=S.2) 0 9 false (by omega) (by omega) c1 hs) λ_ w' hs=>?_
  obtain ⟨z2,hv,hs⟩:=hs
  obtain ⟨q1,q2,q3⟩:=zvc e4
  have hz2:=hs.slen z2 (xs:=(z2m S.1 0 9 false).1.1) (enc:=z0g)
  rw [q1] at hz2
  rw [q2,q3] at hv
  subst hv
  refine ⟨(z2,1,0,()),rfl,trivial,z7i _ _ _ ?_⟩
  have hs:=hs.tail
  refine wp_lt ?_
  refine wp_lt ?_
  refine z8 (zpj (p:=p) (A:=S.1) (D:=S.2) 3 0 true 0 c1 hs) λ_ w' hs=>?_
  obtain ⟨hv,hs⟩:=hs
  have hs:Sat w' (paP p (z0u S.1 S.2 kM).2.1::dk S.1.L.d (z0u S.1 S.2 kM).2.2::_):=hs
  rw [<- hU] at hs
  have hv:_=[Value.int .i64 (z0u S.1 S.2 kM).1.1,Value.bool (z0u S.1 S.2 kM).1.2.1,Value.int .i64 (z0u S.1 S.2 kM).1.2.2]:=hv
  rw [e5] at hv
  subst hv
  refine ⟨(1,false,0,()),rfl,trivial,z7i _ _ _ ?_⟩
  have hs:Sat w' (paP p U.1::dk S.1.L.d U.2::pt a (.cells #[.int .i64 0,.int .i64 3,.int .i64 0,.int .i64 0,.int .i64 1,.int .i64 0,.slice x.a x.len x.cap] T.a0)::slc T.a2 4 x (kR.flatMap zy)::l):=hs
  refine wp_lt ?_
  refine wp_lt ?_
  refine wp_lt ?_
  have hs:=zd7 (g3.trans g1.symm) hs
  refine z8 (zdb (p:=p) (A:=U.1) (D:=U.2) 0 9 true (by omega) (by omega) c2 hs) λ_ w' hs=>?_
  obtain ⟨z3,hv,hs⟩:=hs
  obtain ⟨q1,q2,q3⟩:=zvc e6
  have hz3:=hs.slen z3 (xs:=(z2m U.1 0 9 true).1.1) (enc:=z0g)
  rw [q1] at hz3
  rw [q2,q3] at hv
  subst hv
  refine ⟨(z3,2,0,()),rfl,trivial,z7i _ _ _ ?_⟩
  refine wp_lt ?_
  refine wp_lt ?_
  refine wp_lt ?_
  refine ⟨rfl,?_,hs.tail.tail.tail.tail.tail⟩
  rw [hz1,hz2,hz3]
  rfl
end
section
variable {w:World} {l r:List HP} {p d a:Nat} {A:PartA} {D:DiskA} {R:RefM}
theorem zrd {r1:List HP} [hf:Fo l paP p A r1] [hf2:Fo r1 dk A.L.d D r] (h:Cpl A.L.pre A.L.l D) (hs:Sat w l) :
  Ret P F.a69 #[.pointer (some ⟨p,0,none⟩)] w λvs w'=>∃ (z:Sl) (outs:List BatM),vs=[z.v]/\outs.map BatM.p=zv A.L.l/\Sat w' (slc T.a0 7 z (outs.flatMap zn)::z0v outs::paP p A::dk A.L.d D::r) :=
 ztb _ <| by
  delta z05x AC Ah Ai Aj Ba Bb
  obtain ⟨h1,h2,h3⟩:=h.len
  obtain ⟨lg,t,v,hs⟩:=z50 (hs.perm (hf.perm.trans (.cons _ hf2.perm)))
  refine z07 ?_ (by simp)
  refine zk ?_
  refine za hs ?_
  refine z8 (zuu (lg:=lg) (A:=A.L) (D:=D) h.segs h.has (by omega) (by omega) hs) λ_ w' hs=>?_
  obtain ⟨z,outs,rfl,hm,hs⟩:=hs
  refine zb ?_
  have hs:Sat w' (paP p A::slc T.a0 7 z (outs.flatMap zn)::z0v outs::dk A.L.d D::r):=z2k (lg:=lg) (t:=t) (v:=v) A hs
  exact ⟨rfl,z,outs,rfl,hm,hs.pick [1,1]⟩
end
structure OpW where
 kind:Int
 b:BatM
 yes:Bool
 at_:Int
 n:Int
def zd8 (o:OpW):List Value:=[.int .i64 o.kind,.int .i64 o.b.base,.int .i64 o.b.pid,.int .i64 o.b.epoch,.int .i64 o.b.seq,.int .i64 o.b.kind,.int .i64 o.b.time,.slice o.b.x.a o.b.x.len o.b.x.cap,.bool o.yes,.int .i64 o.at_,.int .i64 o.n]
instance:EncA zd8 [.int .i64,.int .i64,.int .i64,.int .i64,.int .i64,.int .i64,.int .i64,.slc,.bool,.int .i64,.int .i64] (λo=>(o.kind,o.b.base,o.b.pid,o.b.epoch,o.b.seq,o.b.kind,o.b.time,o.b.x,o.yes,o.at_,o.n,())):=⟨λ_=>rfl⟩
instance:EncN zd8 11:=⟨λ_=>rfl,by decide,by simp [zd8,Value.oneCell']⟩
theorem zkx {A:PartA} {D:DiskA} {d:Nat} (h:InvW A D d) {n:Nat} (hn:(zv A.L.l).length<=n):(z12 A.V (zv A.L.l)).length<=n*64:=by
 have hok:=z8u (Int.le_refl 0) h.cpl.segs
 have hr:∀ c ∈ zv A.L.l,c.rs.length<=64:=λc hc=>(z2h (hok.valid c hc).1).1
 have h1:∀ l:List BatM,(∀ c ∈ l,c.rs.length<=64)->(z12 A.V l).length<=l.length*64:=λl hl=>by
  induction l with
  | nil=>exact Nat.zero_le _
  | cons c r ih =>
   have i1:=ih λx hx=>hl x (List.mem_cons_of_mem _ hx)
   have i2:=hl c (List.mem_cons_self ..)
   have i3:=zcf c
   show ((c::r).flatMap _).length<=_
   rw [List.flatMap_cons,List.length_append,List.length_cons]
   have i4:(if z1x A.V c=1 then z20 c else []).length<=64:=by
    split
    ·omega
    ·exact Nat.zero_le _
   have i5:(r.flatMap λb=>if z1x A.V b=1 then z20 b else []).length<=r.length*64:=i1
   omega
 have:=h1 _ hr
 omega
theorem zug (a:BatM):∀ (s:List BatM) (e:Int),z4o a.p e (s.map BatM.p)=z4o a e s
 | [],e=>rfl
 | x::s,e=>zug a s (if e=0/\z00 x=true/\x.pid=a.pid/\x.epoch=a.epoch then x.kind else e)
section
variable {w:World} {l r:List HP} {p d:Nat} {A:PartA} {D:DiskA}
theorem zm6 (b:BatM) (hm:z00 b=true) (hs:Sat w l):Ret P F.a68 #[.pointer (some ⟨p,0,none⟩),.agg (zn b).toArray] w λvs w'=>vs=[.int .i64 0,.bool false,.int .i64 2]/\Sat w' l :=
 zgl _ b.base b.pid b.epoch b.seq b.kind b.time b.x <| by
  delta zys AJ AL AM AZ Aa Af Ah Aj Ao Av Aw
  refine zt hs λa0 w' hs=>?_
  refine wp_lt ?_
  refine z07 ?_ (by simp)
  refine zj hs ?_
  refine z8 (zpi b hs) λ_ w' hs=>?_
  obtain ⟨rfl,hs⟩:=hs
  refine zb ?_
  refine wp_lt ?_
  refine z10 ?_ (by rw [hm])
  exact ⟨rfl,rfl,hs.tail⟩
def OnW (A:PartA) (D:DiskA) (d:Nat) (A':PartA) (D':DiskA):Prop:=InvW A' D' d/\(zv A'.L.l).length<=(zv A.L.l).length+1/\∃ more,z12 A'.V (zv A'.L.l)=z12 A.V (zv A.L.l)++more
theorem zvd (b:BatM) (h:InvW A D d):OnW A D d (z0u A D b).2.1 (z0u A D b).2.2:=⟨(zgu b h).1,zxu b h,zvp b h⟩
theorem z01t (h:InvW A D d):OnW A D d A D:=⟨h,Nat.le_succ _,[],by rw [List.append_nil]⟩
theorem z03u (b:BatM) (hb:FocR l b.x 4 (b.rs.flatMap zy)) (h:InvW A D d) (hr:b.rs.length<=1000000) (hs:Sat w (paP p A::dk d D::l)) :
  Ret P F.a68 #[.pointer (some ⟨p,0,none⟩),.agg (zn b).toArray] w λvs w'=>(∃ (n:Int) (f:Bool) (e:Int),vs=[.int .i64 n,.bool f,.int .i64 e])/\∃ A' D',OnW A D d A' D'/\Sat w' (paP p A'::dk d D'::l):=by
 by_cases hm:z00 b=true
 ·exact (zm6 b hm hs).mono λvs w' ⟨h1,h2⟩=>⟨⟨_,_,_,h1⟩,A,D,z01t h,h2⟩
 ·have hcp:Cpl A.L.pre A.L.l D:=by rw [h.pre];exact h.cpl
  have hs:=zd7 h.dd hs
  refine (zkv (p:=p) (A:=A) (D:=D) b hb hcp hr (by simpa using hm) hs).mono λvs w' ⟨h1,h2⟩=>⟨⟨_,_,_,h1⟩,_,_,zvd b h,?_⟩
  rw [h.dd] at h2
  exact h2
theorem z01z (pid epoch:Int) (commit:Bool) (time:Int) (h:InvW A D d) (hs:Sat w (paP p A::dk d D::l)) :
  Ret P F.a71 #[.pointer (some ⟨p,0,none⟩),.int .i64 pid,.int .i64 epoch,.bool commit,.int .i64 time] w λvs w'=>(∃ (n:Int) (f:Bool) (e:Int),vs=[.int .i64 n,.bool f,.int .i64 e])/\∃ A' D',OnW A D d A' D'/\Sat w' (paP p A'::dk d D'::l):=by
 have hcp:Cpl A.L.pre A.L.l D:=by rw [h.pre];exact h.cpl
 have hs:=zd7 h.dd hs
 refine (zpj (p:=p) (A:=A) (D:=D) pid epoch commit time hcp hs).mono λvs w' ⟨h1,h2⟩=>⟨⟨_,_,_,h1⟩,_,_,zvd (z4m pid epoch commit time ⟨none,0,0⟩) h,?_⟩
 rw [h.dd] at h2
 exact h2
theorem z022 (h:InvW A D d) (hn:(zv A.L.l).length<=1000) (hs:Sat w (paP p A::dk d D::l)) :
  Ret P F.a73 #[.pointer (some ⟨p,0,none⟩),.int .i64 0,.int .i64 1000,.bool true] w λvs w'=>∃ (z:Sl) (n:Int),vs=[z.v,.int .i64 n,.int .i64 0]/\Sat w' (slc T.a31 5 z ((z12 A.V (zv A.L.l)).flatMap z0g)::paP p A::dk d D::l):=by
 have hcp:Cpl A.L.pre A.L.l D:=by rw [h.pre];exact h.cpl
 have hs:=zd7 h.dd hs
 obtain ⟨e1,e2⟩:=z040 h hn
 refine (zdb (p:=p) (A:=A) (D:=D) 0 1000 true (by omega) (by omega) hcp hs).mono λvs w' ⟨z,h1,h2⟩=>⟨z,(z2m A 0 1000 true).1.2,?_,?_⟩
 ·rw [h1,e1]
 ·rw [e2,h.dd] at h2
  exact h2
set_option maxHeartbeats 1000000 in
theorem z06n (seg:Int) (x:Sl) (ops:List OpW) (hx:FocR l x 11 (ops.flatMap zd8)) (hops:∀ o ∈ ops,FocR l o.b.x 4 (o.b.rs.flatMap zy)) (hlen:ops.length<=9223372036854775807) (hs:Sat w l) :
  Ret P F.a161 #[.int .i64 seg,x.v] w λvs w'=>vs=[.bool true]/\Sat w' l :=
 znu seg x <| by
  delta z009 AA AB AC AD AE AF AG AH AI AJ AK AL Aa Ab Ac Ad Ae Af Ag Ah Ai Aj Ak Al Am An Ao Ap Aq Ar As Au Av Aw Ax Ay Az
  have hxl:=hs.slen x (xs:=ops) (enc:=zd8)
  refine z8 (zqi seg 7 (by omega) hs) λ_ w' hs=>?_
  obtain ⟨s,hsg,rfl,hs⟩:=hs
  refine ⟨(s,20,8,()),rfl,trivial,z7i _ _ _ ?_⟩
  refine zq hs λa3 w' hs=>?_
  refine zr hs λw' hs=>?_
  refine z8 (zv6 1048576 (by omega) hs) λ_ w' hs=>?_
  obtain ⟨d,rfl,hs⟩:=hs
  refine ⟨(some ⟨d,0,none⟩,0,()),rfl,trivial,z40 _ _ ?_⟩
  refine wp_lt ?_
  refine zj hs ?_
  have hp0:z3n aP=true:=by kernel_rfl
  refine z8 (zpl (d:=d) (D:=⟨1048576,-1,false,[]⟩) aP s 20 8 hp0 ⟨by omega,by omega⟩ (by omega) rfl (z84 aP 1048576 (by omega)) (λf hf=>by cases hf) hs) λ_ w' hs=>?_
  obtain ⟨p,rfl,hs⟩:=hs
  refine ⟨(some ⟨p,0,none⟩,0,()),rfl,trivial,z40 _ _ ?_⟩
  refine wp_lt ?_
  refine z07 ?_ (by simp)
  have hi0:=z01g d 1048576 (by omega) s 20 8
  have hal0:zv (zbg ⟨d,aP,s,20,[]⟩ 8).L.l=[]:=rfl
  generalize zbg ⟨d,aP,s,20,[]⟩ 8=A0 at *
  have hs:Sat w' (paP p A0::dk d ⟨1048576,-1,false,[]⟩::pt a3 (.cells #[.int .i64 s,.int .i64 20,.int .i64 8] T.a29)::l):=hs
  refine zf (λq w'=>∃ (z:Sl) (A:PartA) (D:DiskA),q=(z,())/\InvW A D d/\(zv A.L.l).length<=30/\Sat w' (slc T.a31 5 z ((z12 A.V (zv A.L.l)).flatMap z0g)::paP p A::dk d D::pt a3 (.cells #[.int .i64 s,.int .i64 20,.int .i64 8] T.a29)::l)) ?_ ?_
  ·have hs:Sat w' (slc T.a31 5 ⟨none,0,0⟩ ((z12 A0.V (zv A0.L.l)).flatMap z0g)::paP p A0::dk d ⟨1048576,-1,false,[]⟩::pt a3 (.cells #[.int .i64 s,.int .i64 20,.int .i64 8] T.a29)::l):=by
    rw [hal0]
    exact hs.slc_nil
   refine z03 (λm q w=>∃ (i:Nat) (z:Sl) (A:PartA) (D:DiskA),q=(z,(i:Int),())/\i<=ops.length/\i<=30/\ops.length-i=m/\InvW A D d/\(zv A.L.l).length<=i/\Sat w (slc T.a31 5 z ((z12 A.V (zv A.L.l)).flatMap z0g)::paP p A::dk d D::pt a3 (.cells #[.int .i64 s,.int .i64 20,.int .i64 8] T.a29)::l)) ops.length
    ⟨0,⟨none,0,0⟩,A0,_,rfl,by omega,by omega,rfl,hi0,by rw [hal0];exact Nat.le_refl _,hs⟩ ?_
   clear hs hi0 hal0
   rintro m _ w ⟨i,z,A,D,rfl,hi,hi30,hm,hI,hn,hs⟩
   refine z40 _ _ ?_
   refine ze (λhc=>?_) λhc=>?_
   rotate_left
   ·exact zh (zg ⟨z,A,D,rfl,hI,by omega,hs⟩)
   have hil:i<ops.length:=by omega
   have hbr:=hops _ (List.getElem_mem hil)
   refine zf (λq w'=>∃ (z':Sl) (A':PartA) (D':DiskA),q=(z',())/\i<30/\OnW A D d A' D'/\Sat w' (slc T.a31 5 z' ((z12 A'.V (zv A'.L.l)).flatMap z0g)::paP p A'::dk d D'::pt a3 (.cells #[.int .i64 s,.int .i64 20,.int .i64 8] T.a29)::l)) ?_ ?_
   rotate_left
   ·rintro _ w2 ⟨z',A',D',rfl,h30,⟨hI',hn',-⟩,hs⟩
    refine zl ?_
    refine z2p (us':=[z'.v,.int .i64 ((i+1:Nat):Int)]) (by (try simp (disch:=omega) only [w64]);first|rfl|(congr;omega)) ?_
    exact z11 (ops.length-(i+1)) ⟨i+1,z',A',D',rfl,by omega,by omega,rfl,hI',by omega,hs⟩
   refine z3b hs i hil ?_
   generalize ops[i]=o at hbr hs ⊢
   refine zq hs λa28 w' hs=>?_
   refine wp_lt ?_
   refine zr hs λw' hs=>?_
   refine ze (λh30=>?_) λh30=>?_
   ·refine zh (zh (zg ⟨z,A,D,rfl,hI,by omega,?_⟩))
    exact hs.sub
   have h30:i<30:=by omega
   refine zgg hs (o.b.base,o.b.pid,o.b.epoch,o.b.seq,o.b.kind,o.b.time,o.b.x,()) ?_
   refine z8 (zvu o.b hs) λ_ w' hs=>?_
   obtain ⟨y,rfl,hs⟩:=hs
   refine ⟨(o.b.base,o.b.pid,o.b.epoch,o.b.seq,o.b.kind,o.b.time,y,()),rfl,trivial,zgh _ _ _ _ _ _ _ ?_⟩
   refine zq hs λa44 w' hs=>?_
   refine zr hs λw' hs=>?_
   refine za hs ?_
   refine za hs ?_
   refine zf (λq w'=>∃ (A':PartA) (D':DiskA),OnW A D d A' D'/\Sat w' (slc T.a31 5 z ((z12 A.V (zv A.L.l)).flatMap z0g)::paP p A'::dk d D'::pt a3 (.cells #[.int .i64 s,.int .i64 20,.int .i64 8] T.a29)::l)) ?_ ?_
   ·refine ze (λhk=>?_) λhk=>?_
    ·refine za hs ?_
     refine za hs ?_
     refine za hs ?_
     refine za hs ?_
     have hs:Sat w' (paP p A::dk d D::slc T.a31 5 z ((z12 A.V (zv A.L.l)).flatMap z0g)::pt a3 (.cells #[.int .i64 s,.int .i64 20,.int .i64 8] T.a29)::l):=hs.sub
     refine z8 (z01z (p:=p) o.b.pid o.b.epoch o.yes o.b.time hI hs) λ_ w' hs=>?_
     obtain ⟨⟨n1,f1,e1,rfl⟩,A',D',hon,hs⟩:=hs
     refine ⟨(n1,f1,e1,()),rfl,trivial,z7i _ _ _ ?_⟩
     exact zg ⟨A',D',hon,hs.pick [2]⟩
    ·refine zj hs ?_
     have hb2:FocR (slc T.a2 4 y ((z4q o.b).rs.flatMap zy)::slc T.a31 5 z ((z12 A.V (zv A.L.l)).flatMap z0g)::pt a3 (.cells #[.int .i64 s,.int .i64 20,.int .i64 8] T.a29)::l) ((z4q o.b).at y).x 4 (((z4q o.b).at y).rs.flatMap zy):=(FocR.head:FocR (slc T.a2 4 y ((z4q o.b).rs.flatMap zy)::_) y 4 ((z4q o.b).rs.flatMap zy))
     have hs:Sat w' (paP p A::dk d D::slc T.a2 4 y ((z4q o.b).rs.flatMap zy)::slc T.a31 5 z ((z12 A.V (zv A.L.l)).flatMap z0g)::pt a3 (.cells #[.int .i64 s,.int .i64 20,.int .i64 8] T.a29)::l):=hs.sub
     refine z8 (z03u (p:=p) ((z4q o.b).at y) hb2 hI (by show ((o.b.rs.take 4).map z34).length<=_;rw [List.length_map,List.length_take];omega) hs) λ_ w' hs=>?_
     obtain ⟨⟨n1,f1,e1,rfl⟩,A',D',hon,hs⟩:=hs
     refine ⟨(n1,f1,e1,()),rfl,trivial,z7i _ _ _ ?_⟩
     exact zg ⟨A',D',hon,(hs.pick [3]).sub⟩
   clear hs
   rintro _ w ⟨A',D',hon,hs⟩
   refine zl ?_
   obtain ⟨hI',hn',more,hmore⟩:=hon
   have hon:OnW A D d A' D':=⟨hI',hn',more,hmore⟩
   have hs:Sat w (paP p A'::dk d D'::slc T.a31 5 z ((z12 A.V (zv A.L.l)).flatMap z0g)::pt a3 (.cells #[.int .i64 s,.int .i64 20,.int .i64 8] T.a29)::l):=hs.pick [1,1]
   refine z8 (z022 (p:=p) hI' (by omega) hs) λ_ w' hs=>?_
   obtain ⟨z',n2,rfl,hs⟩:=hs
   refine ⟨(z',n2,0,()),rfl,trivial,z7i _ _ _ ?_⟩
   have hz:=hs.slen z (xs:=z12 A.V (zv A.L.l)) (enc:=z0g)
   have hz':=hs.slen z' (xs:=z12 A'.V (zv A'.L.l)) (enc:=z0g)
   have hml:=congrArg List.length hmore
   rw [List.length_append] at hml
   have hp64:=zkx hI hn
   refine wp_lt ?_
   refine wp_lt ?_
   refine z07 ?_ (by rw [hz,hz'];simp;omega)
   refine zf (λq w'=>Sat w' (slc T.a31 5 z' ((z12 A'.V (zv A'.L.l)).flatMap z0g)::paP p A'::dk d D'::slc T.a31 5 z ((z12 A.V (zv A.L.l)).flatMap z0g)::pt a3 (.cells #[.int .i64 s,.int .i64 20,.int .i64 8] T.a29)::l)) ?_ ?_
   rotate_left
   ·rintro _ w2 hs
    refine zl ?_
    exact zg ⟨z',A',D',rfl,h30,hon,hs.sub⟩
   have z32:∀ k (h1:k<(z12 A.V (zv A.L.l)).length) (h2:k<(z12 A'.V (zv A'.L.l)).length),(z12 A'.V (zv A'.L.l))[k]=(z12 A.V (zv A.L.l))[k]:=λk h1 h2=>by
    simp only [hmore]
    rw [List.getElem_append_left h1]
   generalize z12 A.V (zv A.L.l)=P1 at *
   generalize z12 A'.V (zv A'.L.l)=P2 at *
   refine z03 (λm q w=>∃ k:Nat,q=((k:Int),())/\k<=P1.length/\P1.length-k=m/\Sat w (slc T.a31 5 z' (P2.flatMap z0g)::paP p A'::dk d D'::slc T.a31 5 z (P1.flatMap z0g)::pt a3 (.cells #[.int .i64 s,.int .i64 20,.int .i64 8] T.a29)::l)) P1.length ⟨0,rfl,by omega,rfl,hs⟩ ?_
   clear hs
   rintro m2 _ w ⟨k,rfl,hk,hm2,hs⟩
   refine zl ?_
   refine ze (λhc2=>?_) λhc2=>?_
   rotate_left
   ·exact zh (zg hs)
   have hkl:k<P1.length:=by omega
   have hkl2:k<P2.length:=by omega
   have heq:=z32 k hkl hkl2
   refine wp_lt ?_
   refine z02 hs λw' hs=>?_
   refine z3b hs (x:=z) (xs:=P1) (enc:=z0g) k hkl ?_
   refine z3b hs (x:=z') (xs:=P2) (enc:=z0g) k hkl2 ?_
   rw [heq]
   refine zd ?_
   refine z5j ?_ ?_
   ·simp [zc3]
   refine z2p (us':=[.int .i64 ((k+1:Nat):Int)]) (by (try simp (disch:=omega) only [w64]);first|rfl|(congr;omega)) ?_
   exact z11 (P1.length-(k+1)) ⟨k+1,rfl,by omega,rfl,hs⟩
  clear hs hi0 hal0
  rintro _ w ⟨z,A,D,rfl,hI,hn,hs⟩
  refine zl ?_
  have hcp:Cpl A.L.pre A.L.l D:=by rw [hI.pre];exact hI.cpl
  have hs:=zd7 hI.dd (hs.pick [1,1])
  refine z8 (zrd (p:=p) (A:=A) (D:=D) hcp hs) λ_ w' hs=>?_
  obtain ⟨y,outs,rfl,hmap,hs⟩:=hs
  rw [hI.dd] at hs
  refine zb ?_
  have hyl:=hs.slen y (xs:=outs) (enc:=zn)
  have hyc:=(hs.focS y).slc_cap
  have hol:outs.length<=30:=by
   have:=congrArg List.length hmap
   rw [List.length_map] at this
   omega
  have hp64:=zkx hI hn
  have hwh:∀ i (h:i<outs.length),outs[i].kind=1->outs[i].base<z2v A->(z12 A.V (zv A.L.l)).countP (inB outs[i])=if z4o outs[i] 0 (outs.drop (i+1))=2 then outs[i].rs.length else 0:=λi h hk hst=>by
   have e:outs=outs.take i++outs[i]::outs.drop (i+1):=by rw [<- List.drop_eq_getElem_cons h,List.take_append_drop]
   have e2:zv A.L.l=(outs.take i).map BatM.p++outs[i].p::(outs.drop (i+1)).map BatM.p:=by
    rw [<- hmap]
    conv=>lhs;rw [e]
    rw [List.map_append,List.map_cons]
   have:=z02o hI e2 hk hst
   rw [zug] at this
   exact this
  have hbase:∀ i (h:i<outs.length),0<=outs[i].base/\outs[i].base<=1099511627776/\outs[i].rs.length<=64:=λi h=>by
   have hm1:outs[i].p ∈ zv A.L.l:=by rw [<- hmap];exact List.mem_map.2 ⟨_,List.getElem_mem h,rfl⟩
   have hv:z04 outs[i]=0:=((z8u (Int.le_refl 0) hI.cpl.segs).valid _ hm1).1
   have h1:=(z0z _ hv).2.2.1.2.1
   have h2:=(z2h hv).1
   exact ⟨h1.1,h1.2,h2⟩
  have hlen9:A.L.l.length<=1000000000:=by have:=hcp.len.1;omega
  clear hmap hcp
  generalize z12 A.V (zv A.L.l)=P1 at *
  have hzl:=hs.slen z (xs:=P1) (enc:=z0g)
  refine zf (λq w'=>Sat w' (slc T.a0 7 y (outs.flatMap zn)::z0v outs::paP p A::dk d D::slc T.a31 5 z (P1.flatMap z0g)::pt a3 (.cells #[.int .i64 s,.int .i64 20,.int .i64 8] T.a29)::l)) ?_ ?_
  rotate_left
  ·rintro _ w2 hs
   refine zl ?_
   have hs:Sat w2 l:=hs.sub
   refine z8 (zu4 hs) λ_ w' hs=>?_
   obtain ⟨rfl,hs⟩:=hs
   refine zb ?_
   refine wp_lt ?_
   exact ⟨rfl,rfl,hs⟩
  have hs:Sat w' (slc T.a0 7 y (outs.flatMap zn)::z0v outs::paP p A::dk d D::slc T.a31 5 z (P1.flatMap z0g)::pt a3 (.cells #[.int .i64 s,.int .i64 20,.int .i64 8] T.a29)::l):=hs
  refine z03 (λm q w=>∃ i:Nat,q=((i:Int),())/\i<=outs.length/\outs.length-i=m/\Sat w (slc T.a0 7 y (outs.flatMap zn)::z0v outs::paP p A::dk d D::slc T.a31 5 z (P1.flatMap z0g)::pt a3 (.cells #[.int .i64 s,.int .i64 20,.int .i64 8] T.a29)::l)) outs.length ⟨0,rfl,by omega,rfl,hs⟩ ?_
  clear hs
  rintro m _ w ⟨i,rfl,hi,hm,hs⟩
  refine zl ?_
  refine ze (λhc=>?_) λhc=>?_
  rotate_left
  ·exact zh (zg hs)
  have hil:i<outs.length:=by omega
  refine zf (λq w'=>Sat w' (slc T.a0 7 y (outs.flatMap zn)::z0v outs::paP p A::dk d D::slc T.a31 5 z (P1.flatMap z0g)::pt a3 (.cells #[.int .i64 s,.int .i64 20,.int .i64 8] T.a29)::l)) ?_ ?_
  rotate_left
  ·rintro _ w2 hs
   refine zl ?_
   refine z2p (us':=[.int .i64 ((i+1:Nat):Int)]) (by (try simp (disch:=omega) only [w64]);first|rfl|(congr;omega)) ?_
   exact z11 (outs.length-(i+1)) ⟨i+1,rfl,by omega,rfl,hs⟩
  have hw:=hwh i hil
  obtain ⟨hb0,hb1,hb64⟩:=hbase i hil
  have hbm:outs[i] ∈ outs:=List.getElem_mem hil
  refine z3b hs i hil ?_
  generalize outs[i]=b at hw hb0 hb1 hb64 hbm ⊢
  have hbr:FocR (z0v outs::paP p A::dk d D::slc T.a31 5 z (P1.flatMap z0g)::pt a3 (.cells #[.int .i64 s,.int .i64 20,.int .i64 8] T.a29)::l) b.x 4 (b.rs.flatMap zy):=zaf hbm
  refine zq hs λa98 w' hs=>?_
  refine wp_lt ?_
  refine zr hs λw' hs=>?_
  have hs:Sat w' (pt a98 (.cells #[.int .i64 b.base,.int .i64 b.pid,.int .i64 b.epoch,.int .i64 b.seq,.int .i64 b.kind,.int .i64 b.time,.slice b.x.a b.x.len b.x.cap] T.a0)::slc T.a0 7 y (outs.flatMap zn)::z0v outs::paP p A::dk d D::slc T.a31 5 z (P1.flatMap z0g)::pt a3 (.cells #[.int .i64 s,.int .i64 20,.int .i64 8] T.a29)::l):=hs
  have hbl:=hs.slen b.x (xs:=b.rs) (enc:=zy)
  refine zf (λq w'=>q=(decide (b.kind≠1\/b.base>=z2v A),())/\Sat w' (pt a98 (.cells #[.int .i64 b.base,.int .i64 b.pid,.int .i64 b.epoch,.int .i64 b.seq,.int .i64 b.kind,.int .i64 b.time,.slice b.x.a b.x.len b.x.cap] T.a0)::slc T.a0 7 y (outs.flatMap zn)::z0v outs::paP p A::dk d D::slc T.a31 5 z (P1.flatMap z0g)::pt a3 (.cells #[.int .i64 s,.int .i64 20,.int .i64 8] T.a29)::l)) ?_ ?_
  ·refine z02 hs λw' hs=>?_
   refine za hs ?_
   refine z1d hs ?_
   refine ze (λhk=>?_) λhk=>?_
   ·refine zd ?_
    exact zg ⟨by simp [hk],hs⟩
   ·refine z8 (zik (p:=p) (A:=A) hlen9 hs) λ_ w' hs=>?_
    obtain ⟨rfl,hs⟩:=hs
    refine zb ?_ (by first|trivial|(repeat (first|exact trivial|exact λ_=>z0a hs|exact λ_=>z0p hs|refine And.intro ?_ ?_)))
    refine zd ?_
    refine zg ⟨?_,hs.pick [1,1,1]⟩
    simp [hk]
  clear hs
  rintro _ w ⟨rfl,hs⟩
  refine zl ?_
  by_cases hsk:b.kind≠1\/b.base>=z2v A
  ·refine z10 ?_ (by simpa using hsk)
   exact zg hs.tail
  refine z07 ?_ (by simpa using hsk)
  have hw:=hw (by omega) (by omega)
  have ei:IntKind.wrap .i64 ((i:Int)+1)=((i+1:Nat):Int):=by rw [w64 (by omega) (by omega)];omega
  simp only [ei,Int.toNat_natCast]
  refine wp_must ⟨by omega,by omega⟩ ?_
  refine zf (λq w'=>q=(z4o b 0 (outs.drop (i+1)),())/\Sat w' (pt a98 (.cells #[.int .i64 b.base,.int .i64 b.pid,.int .i64 b.epoch,.int .i64 b.seq,.int .i64 b.kind,.int .i64 b.time,.slice b.x.a b.x.len b.x.cap] T.a0)::slc T.a0 7 y (outs.flatMap zn)::z0v outs::paP p A::dk d D::slc T.a31 5 z (P1.flatMap z0g)::pt a3 (.cells #[.int .i64 s,.int .i64 20,.int .i64 8] T.a29)::l)) ?_ ?_
  ·have hF:FocR (slc T.a0 7 y (outs.flatMap zn)::z0v outs::paP p A::dk d D::slc T.a31 5 z (P1.flatMap z0g)::pt a3 (.cells #[.int .i64 s,.int .i64 20,.int .i64 8] T.a29)::l) ⟨z1t y.a 7 (i+1) y.cap,y.len-(i+1),y.cap-(i+1)⟩ 7 ((outs.drop (i+1)).flatMap zn):=FocR.post hyc
   have hdl:(outs.drop (i+1)).length=outs.length-(i+1):=List.length_drop
   generalize outs.drop (i+1)=cs at *
   refine z03 (λm q w=>∃ j:Nat,q=(z4o b 0 (cs.take j),((j:Int),()))/\j<=cs.length/\cs.length-j=m/\Sat w (pt a98 (.cells #[.int .i64 b.base,.int .i64 b.pid,.int .i64 b.epoch,.int .i64 b.seq,.int .i64 b.kind,.int .i64 b.time,.slice b.x.a b.x.len b.x.cap] T.a0)::slc T.a0 7 y (outs.flatMap zn)::z0v outs::paP p A::dk d D::slc T.a31 5 z (P1.flatMap z0g)::pt a3 (.cells #[.int .i64 s,.int .i64 20,.int .i64 8] T.a29)::l)) cs.length ⟨0,rfl,by omega,rfl,hs⟩ ?_
   clear hs
   rintro m2 _ w ⟨j,rfl,hj,hm2,hs⟩
   refine z40 _ _ ?_
   refine ze (λhc2=>?_) λhc2=>?_
   rotate_left
   ·refine zh (zg ⟨?_,hs⟩)
    rw [List.take_of_length_le (by omega)]
   have hjl:j<cs.length:=by omega
   have htk:cs.take (j+1)=cs.take j++[cs[j]]:=by rw [List.take_add_one,List.getElem?_eq_getElem hjl,Option.toList_some]
   refine z3b hs (x:=⟨z1t y.a 7 (i+1) y.cap,y.len-(i+1),y.cap-(i+1)⟩) (xs:=cs) (enc:=zn) j hjl ?_
   have hek:z4o b 0 (cs.take (j+1))=if z4o b 0 (cs.take j)=0/\z00 cs[j]=true/\cs[j].pid=b.pid/\cs[j].epoch=b.epoch then cs[j].kind else z4o b 0 (cs.take j):=by
    rw [htk]
    unfold z4o
    rw [List.foldl_append]
    rfl
   generalize cs[j]=c at *
   generalize z4o b 0 (cs.take j)=e0 at *
   refine zq hs λa115 w' hs=>?_
   refine zr hs λw' hs=>?_
   have hs:Sat w' (pt a115 (.cells #[.int .i64 c.base,.int .i64 c.pid,.int .i64 c.epoch,.int .i64 c.seq,.int .i64 c.kind,.int .i64 c.time,.slice c.x.a c.x.len c.x.cap] T.a0)::pt a98 (.cells #[.int .i64 b.base,.int .i64 b.pid,.int .i64 b.epoch,.int .i64 b.seq,.int .i64 b.kind,.int .i64 b.time,.slice b.x.a b.x.len b.x.cap] T.a0)::slc T.a0 7 y (outs.flatMap zn)::z0v outs::paP p A::dk d D::slc T.a31 5 z (P1.flatMap z0g)::pt a3 (.cells #[.int .i64 s,.int .i64 20,.int .i64 8] T.a29)::l):=hs
   refine zf (λq w'=>q=(decide (e0=0/\z00 c=true/\c.pid=b.pid/\c.epoch=b.epoch),())/\Sat w' (pt a115 (.cells #[.int .i64 c.base,.int .i64 c.pid,.int .i64 c.epoch,.int .i64 c.seq,.int .i64 c.kind,.int .i64 c.time,.slice c.x.a c.x.len c.x.cap] T.a0)::pt a98 (.cells #[.int .i64 b.base,.int .i64 b.pid,.int .i64 b.epoch,.int .i64 b.seq,.int .i64 b.kind,.int .i64 b.time,.slice b.x.a b.x.len b.x.cap] T.a0)::slc T.a0 7 y (outs.flatMap zn)::z0v outs::paP p A::dk d D::slc T.a31 5 z (P1.flatMap z0g)::pt a3 (.cells #[.int .i64 s,.int .i64 20,.int .i64 8] T.a29)::l)) ?_ ?_
   ·refine zj hs ?_
    refine ze (λh0=>?_) λh0=>?_
    ·refine z8 (z011 c hs) λ_ w' hs=>?_
     obtain ⟨rfl,hs⟩:=hs
     refine zb ?_
     refine za hs ?_
     refine za hs ?_
     refine za hs ?_
     refine za hs ?_
     refine zg ⟨?_,hs⟩
     have:(z00 c && c.pid == b.pid && c.epoch == b.epoch)=decide (e0=0/\z00 c=true/\c.pid=b.pid/\c.epoch=b.epoch):=by
      rw [Bool.eq_iff_iff]
      simp [h0,and_assoc]
     rw [this]
    ·refine zg ⟨?_,hs⟩
     rw [decide_eq_false (λg=>h0 g.1)]
   clear hs
   rintro _ w ⟨rfl,hs⟩
   refine zl ?_
   refine zf (λq w'=>q=(z4o b 0 (cs.take (j+1)),())/\Sat w' (pt a98 (.cells #[.int .i64 b.base,.int .i64 b.pid,.int .i64 b.epoch,.int .i64 b.seq,.int .i64 b.kind,.int .i64 b.time,.slice b.x.a b.x.len b.x.cap] T.a0)::slc T.a0 7 y (outs.flatMap zn)::z0v outs::paP p A::dk d D::slc T.a31 5 z (P1.flatMap z0g)::pt a3 (.cells #[.int .i64 s,.int .i64 20,.int .i64 8] T.a29)::l)) ?_ ?_
   ·rw [hek]
    by_cases hy2:e0=0/\z00 c=true/\c.pid=b.pid/\c.epoch=b.epoch
    ·refine z10 ?_ (by simpa using hy2)
     rw [if_pos hy2]
     refine za hs ?_
     refine wp_lt ?_
     exact zg ⟨rfl,hs.tail⟩
    ·refine z5j (decide_eq_false hy2) ?_
     rw [if_neg hy2]
     exact zg ⟨rfl,hs.tail⟩
   clear hs
   rintro _ w ⟨rfl,hs⟩
   refine zl ?_
   refine z2p (us':=[.int .i64 (z4o b 0 (cs.take (j+1))),.int .i64 ((j+1:Nat):Int)]) (by (try simp (disch:=omega) only [w64]);first|rfl|(congr;omega)) ?_
   exact z11 (cs.length-(j+1)) ⟨j+1,rfl,by omega,rfl,hs⟩
  clear hs
  rintro _ w ⟨rfl,hs⟩
  refine zl ?_
  generalize z4o b 0 (outs.drop (i+1))=ek at *
  refine zf (λq w'=>q=(((P1.countP (inB b):Nat):Int),())/\Sat w' (pt a98 (.cells #[.int .i64 b.base,.int .i64 b.pid,.int .i64 b.epoch,.int .i64 b.seq,.int .i64 b.kind,.int .i64 b.time,.slice b.x.a b.x.len b.x.cap] T.a0)::slc T.a0 7 y (outs.flatMap zn)::z0v outs::paP p A::dk d D::slc T.a31 5 z (P1.flatMap z0g)::pt a3 (.cells #[.int .i64 s,.int .i64 20,.int .i64 8] T.a29)::l)) ?_ ?_
  ·refine z03 (λm q w=>∃ j:Nat,q=((((P1.take j).countP (inB b):Nat):Int),((j:Int),()))/\j<=P1.length/\P1.length-j=m/\Sat w (pt a98 (.cells #[.int .i64 b.base,.int .i64 b.pid,.int .i64 b.epoch,.int .i64 b.seq,.int .i64 b.kind,.int .i64 b.time,.slice b.x.a b.x.len b.x.cap] T.a0)::slc T.a0 7 y (outs.flatMap zn)::z0v outs::paP p A::dk d D::slc T.a31 5 z (P1.flatMap z0g)::pt a3 (.cells #[.int .i64 s,.int .i64 20,.int .i64 8] T.a29)::l)) P1.length ⟨0,rfl,by omega,rfl,hs⟩ ?_
   clear hs
   rintro m2 _ w ⟨j,rfl,hj,hm2,hs⟩
   refine z40 _ _ ?_
   refine ze (λhc2=>?_) λhc2=>?_
   rotate_left
   ·refine zh (zg ⟨?_,hs⟩)
    rw [List.take_of_length_le (by omega)]
   have hjl:j<P1.length:=by omega
   have htk:P1.take (j+1)=P1.take j++[P1[j]]:=by rw [List.take_add_one,List.getElem?_eq_getElem hjl,Option.toList_some]
   have hcl:(P1.take j).countP (inB b)<=j:=Nat.le_trans List.countP_le_length (by rw [List.length_take];omega)
   have hct:(P1.take (j+1)).countP (inB b)=(P1.take j).countP (inB b)+if inB b P1[j]=true then 1 else 0:=by
    rw [htk,List.countP_append]
    simp [List.countP_cons]
   refine z3b hs (x:=z) (xs:=P1) (enc:=z0g) j hjl ?_
   generalize P1[j]=r1 at *
   generalize (P1.take j).countP (inB b)=c0 at *
   refine zq hs λa142 w' hs=>?_
   refine zr hs λw' hs=>?_
   have hs:Sat w' (pt a142 (.cells #[.int .i64 r1.off,.string r1.r.key,.string r1.r.value,.bool r1.r.gone,.int .i64 r1.r.time] T.a31)::pt a98 (.cells #[.int .i64 b.base,.int .i64 b.pid,.int .i64 b.epoch,.int .i64 b.seq,.int .i64 b.kind,.int .i64 b.time,.slice b.x.a b.x.len b.x.cap] T.a0)::slc T.a0 7 y (outs.flatMap zn)::z0v outs::paP p A::dk d D::slc T.a31 5 z (P1.flatMap z0g)::pt a3 (.cells #[.int .i64 s,.int .i64 20,.int .i64 8] T.a29)::l):=hs
   refine za hs ?_
   refine za hs ?_
   refine za hs ?_
   refine za hs ?_
   refine za hs ?_
   refine zf (λq w'=>q=((((P1.take (j+1)).countP (inB b):Nat):Int),())/\Sat w' (pt a98 (.cells #[.int .i64 b.base,.int .i64 b.pid,.int .i64 b.epoch,.int .i64 b.seq,.int .i64 b.kind,.int .i64 b.time,.slice b.x.a b.x.len b.x.cap] T.a0)::slc T.a0 7 y (outs.flatMap zn)::z0v outs::paP p A::dk d D::slc T.a31 5 z (P1.flatMap z0g)::pt a3 (.cells #[.int .i64 s,.int .i64 20,.int .i64 8] T.a29)::l)) ?_ ?_
   ·rw [hct]
    have hib:(decide (r1.off>=b.base) && decide (r1.off<IntKind.wrap .i64 (b.base+((b.x.len:Nat):Int))))=inB b r1:=by
     rw [hbl,w64 (by omega) (by omega)]
     unfold inB
     rw [Bool.eq_iff_iff]
     simp
    rw [hib]
    by_cases hq:inB b r1=true
    ·refine z10 ?_ hq
     rw [if_pos hq]
     refine z21 (y:=((c0+1:Nat):Int)) ?_ (by rw [w64 (by omega) (by omega)];omega)
     exact zg ⟨rfl,hs.tail⟩
    ·refine z5j (by simpa using hq) ?_
     rw [if_neg hq]
     exact zg ⟨rfl,hs.tail⟩
   clear hs
   rintro _ w ⟨rfl,hs⟩
   refine zl ?_
   refine z2p (us':=[.int .i64 (((P1.take (j+1)).countP (inB b):Nat):Int),.int .i64 ((j+1:Nat):Int)]) (by (try simp (disch:=omega) only [w64]);first|rfl|(congr;omega)) ?_
   exact z11 (P1.length-(j+1)) ⟨j+1,rfl,by omega,rfl,hs⟩
  clear hs
  rintro _ w ⟨rfl,hs⟩
  refine zl ?_
  refine za hs ?_
  rw [hw,hbl]
  refine z5j ?_ ?_
  ·by_cases h2:ek=2
   ·rw [if_pos h2];simp [h2]
   ·rw [if_neg h2];simp [h2]
  exact zg hs.tail
end
open Go.ChangeShapes Go.WideShapes Go.RowKit Go.Deep
section
variable {H:Type} {enc:TypeId × Value->H} {P:Program} {w:World} {base:Nat} {spare:Nat->Bool} {held:Bool}
theorem zad {t:TypeId} {fs:Array Field} {n C:Nat} {cs:List Value} {y:DataW H × List MemPlace} (ht:P.underlying t=some (.struct fs)) (hd:DataW.trod enc P w base spare held n t cs=some y) (hC:P.cellsOf t=C) :
  cs.length=C/\∃ n',∀ (j:Nat) (f:Field),fs[j]? = some f->∃ y,DataW.trod enc P w base spare held n' f.type ((cs.drop f.offset).take (P.cellsOf f.type))=some y:=by
 obtain ⟨ys,n',hn',hy,hlen,hyl,hf⟩:=DataW.trod_struct ht hd
 refine ⟨by rw [hlen,hC],n',λj f hj=>?_⟩
 have hjl:j<fs.size:=(Array.getElem?_eq_some_iff.1 hj).1
 have h1:=hf j f hj
 rw [List.getElem?_eq_getElem (by omega)] at h1
 exact ⟨_,h1⟩
theorem z07w {t:TypeId} {f0 f1 f2 f3:Field} {n:Nat} {cs:List Value} {y:DataW H × List MemPlace} (ht:P.underlying t=some (.struct #[f0,f1,f2,f3])) (hC:P.cellsOf t=4) (k0:P.underlying f0.type=some .string) (k1:P.underlying f1.type=some .string) (k2:P.underlying f2.type=some .bool) (k3:P.underlying f3.type=some (.int .i64))
  (o0:f0.offset=0) (o1:f1.offset=1) (o2:f2.offset=2) (o3:f3.offset=3) (c0:P.cellsOf f0.type=1) (c1:P.cellsOf f1.type=1) (c2:P.cellsOf f2.type=1) (c3:P.cellsOf f3.type=1)
  (hd:DataW.trod enc P w base spare held n t cs=some y):∃ r:RecM,cs=zy r/\True:=by
 obtain ⟨hl,n',hf⟩:=zad ht hd hC
 match cs,hl with
 | [v0,v1,v2,v3],_ =>
  obtain ⟨y0,h0⟩:=hf 0 f0 rfl
  obtain ⟨y1,h1⟩:=hf 1 f1 rfl
  obtain ⟨y2,h2⟩:=hf 2 f2 rfl
  obtain ⟨y3,h3⟩:=hf 3 f3 rfl
  rw [o0,c0] at h0
  rw [o1,c1] at h1
  rw [o2,c2] at h2
  rw [o3,c3] at h3
  obtain ⟨s0,q0,-,-⟩:=DataW.trod_string k0 h0
  obtain ⟨s1,q1,-,-⟩:=DataW.trod_string k1 h1
  obtain ⟨b2,q2,-⟩:=DataW.trod_bool k2 h2
  obtain ⟨n3,q3,-,-⟩:=DataW.trod_int k3 h3
  simp at q0 q1 q2 q3
  subst q0 q1 q2 q3
  exact ⟨⟨s0,s1,b2,n3⟩,rfl,trivial⟩
theorem z080 {t tr:TypeId} {b0 b1 b2 b3 b4 b5 b6:Field} {n:Nat} {cs:List Value} {y:DataW H × List MemPlace} (ht:P.underlying t=some (.struct #[b0,b1,b2,b3,b4,b5,b6])) (hC:P.cellsOf t=7)
  (hone:oneCellFields P #[b0,b1,b2,b3,b4,b5,b6]=true) (l0:P.underlying b0.type=some (.int .i64)) (l1:P.underlying b1.type=some (.int .i64)) (l2:P.underlying b2.type=some (.int .i64)) (l3:P.underlying b3.type=some (.int .i64)) (l4:P.underlying b4.type=some (.int .i64)) (l5:P.underlying b5.type=some (.int .i64))
  (l6:P.underlying b6.type=some (.slice tr)) (hR:P.cellsOf tr=4) (hrec:∀ (n:Nat) (cs:List Value) (y:DataW H × List MemPlace),cs.length=4->DataW.trod enc P w base spare held n tr cs=some y->∃ r:RecM,cs=zy r/\True)
  (hd:DataW.trod enc P w base spare held n t cs=some y):∃ b:BatM,cs=zn b/\Rd w 4 b.x (b.rs.flatMap zy)/\(-9223372036854775808<=b.base/\b.base<9223372036854775808):=by
 obtain ⟨hl,m,hg⟩:=zad ht hd hC
 match cs,hl with
 | [v1,v2,v3,v4,v5,v6,v7],_ =>
  have one:∀ (j:Nat) (f:Field) (u:Value),#[b0,b1,b2,b3,b4,b5,b6][j]? = some f->[v1,v2,v3,v4,v5,v6,v7][j]? = some u->∃ y,DataW.trod enc P w base spare held m f.type [u]=some y:=λj f u hj hu=>by
   obtain ⟨ho,hk⟩:=hone_of hone j f hj
   obtain ⟨y,h1⟩:=hg j f hj
   rw [ho,hk] at h1
   obtain ⟨hjl,rfl⟩:=List.getElem?_eq_some_iff.1 hu
   have hone':([v1,v2,v3,v4,v5,v6,v7].drop j).take 1=[[v1,v2,v3,v4,v5,v6,v7][j]]:=by
    rw [List.drop_eq_getElem_cons hjl];rfl
   rw [hone'] at h1
   exact ⟨y,h1⟩
  obtain ⟨z0,e0⟩:=one 0 b0 v1 rfl rfl
  obtain ⟨z1,e1⟩:=one 1 b1 v2 rfl rfl
  obtain ⟨z2,e2⟩:=one 2 b2 v3 rfl rfl
  obtain ⟨z3,e3⟩:=one 3 b3 v4 rfl rfl
  obtain ⟨z4,e4⟩:=one 4 b4 v5 rfl rfl
  obtain ⟨z5,e5⟩:=one 5 b5 v6 rfl rfl
  obtain ⟨z6,e6⟩:=one 6 b6 v7 rfl rfl
  obtain ⟨m0,p0,-,w0⟩:=DataW.trod_int l0 e0
  obtain ⟨m1,p1,-,-⟩:=DataW.trod_int l1 e1
  obtain ⟨m2,p2,-,-⟩:=DataW.trod_int l2 e2
  obtain ⟨m3,p3,-,-⟩:=DataW.trod_int l3 e3
  obtain ⟨m4,p4,-,-⟩:=DataW.trod_int l4 e4
  obtain ⟨m5,p5,-,-⟩:=DataW.trod_int l5 e5
  obtain ⟨x,rs,p6,-,-,-,-,hrd⟩:=zw2 l6 hR (by decide) hrec e6
  simp at p0 p1 p2 p3 p4 p5
  subst p0 p1 p2 p3 p4 p5 p6
  exact ⟨⟨m0,m1,m2,m3,m4,m5,x,rs⟩,rfl,hrd,z07z w0⟩
theorem z07r {x:Sl} {n:Nat} (h1:x.len<=x.cap) (h2:x.len=n) (h3:x.cap<=maxLen):n<=9223372036854775807:=by
 have:maxLen=9223372036854775807:=by decide
 omega
theorem z081 {t e:TypeId} {r:Reach} {b0:Nat} {v:Value} {d:DataW H} {ps:List MemPlace} (ht:P.underlying t=some (.slice e)) (hval:Value.okWide P w r b0 t v) (hd:DataW.Trod enc P w base spare held t v d ps):∃ (fuel:Nat) (y:DataW H × List MemPlace),DataW.trod enc P w base spare held fuel t [v]=some y:=by
 obtain ⟨a0,len0,cap0,rfl⟩:=okWide_slice ht hval
 obtain ⟨fuel,hf⟩:=hd
 exact ⟨fuel,_,hf⟩
theorem z07k {W:World} {sz:Nat} {x:Sl} {cs:List Value} (h:Rd W sz x cs):FocR [whole W] x sz cs:=⟨λw hs=>z025 hs.of_whole.1 h⟩
end
open Go.ChangeShapes Go.WideShapes Go.RowKit Go.Deep
section
variable {H:Type} {enc:TypeId × Value->H} {P:Program} {w:World} {base:Nat} {spare:Nat->Bool} {held:Bool}
theorem z07v {t:TypeId} {f0 f1 f2 f3 f4:Field} {n:Nat} {cs:List Value} {y:DataW H × List MemPlace} (ht:P.underlying t=some (.struct #[f0,f1,f2,f3,f4])) (hC:P.cellsOf t=11)
  (k0:P.underlying f0.type=some (.int .i64)) (k2:P.underlying f2.type=some .bool) (k3:P.underlying f3.type=some (.int .i64)) (k4:P.underlying f4.type=some (.int .i64))
  (o0:f0.offset=0) (o1:f1.offset=1) (o2:f2.offset=8) (o3:f3.offset=9) (o4:f4.offset=10) (c0:P.cellsOf f0.type=1) (c1:P.cellsOf f1.type=7) (c2:P.cellsOf f2.type=1) (c3:P.cellsOf f3.type=1) (c4:P.cellsOf f4.type=1)
  (hbat:∀ (n:Nat) (cs:List Value) (y:DataW H × List MemPlace),cs.length=7->DataW.trod enc P w base spare held n f1.type cs=some y->∃ b:BatM,cs=zn b/\Rd w 4 b.x (b.rs.flatMap zy)/\(-9223372036854775808<=b.base/\b.base<9223372036854775808))
  (hd:DataW.trod enc P w base spare held n t cs=some y):∃ o:OpW,cs=zd8 o/\Rd w 4 o.b.x (o.b.rs.flatMap zy):=by
 obtain ⟨hl,n',hf⟩:=zad ht hd hC
 match cs,hl with
 | [v0,v1,v2,v3,v4,v5,v6,v7,v8,v9,v10],_ =>
  obtain ⟨y0,h0⟩:=hf 0 f0 rfl
  obtain ⟨y1,h1⟩:=hf 1 f1 rfl
  obtain ⟨y2,h2⟩:=hf 2 f2 rfl
  obtain ⟨y3,h3⟩:=hf 3 f3 rfl
  obtain ⟨y4,h4⟩:=hf 4 f4 rfl
  rw [o0,c0] at h0
  rw [o1,c1] at h1
  rw [o2,c2] at h2
  rw [o3,c3] at h3
  rw [o4,c4] at h4
  obtain ⟨n0,q0,-,-⟩:=DataW.trod_int k0 h0
  obtain ⟨b8,q8,-⟩:=DataW.trod_bool k2 h2
  obtain ⟨n9,q9,-,-⟩:=DataW.trod_int k3 h3
  obtain ⟨n10,q10,-,-⟩:=DataW.trod_int k4 h4
  have h1:DataW.trod enc P w base spare held n' f1.type [v1,v2,v3,v4,v5,v6,v7]=some y1:=h1
  obtain ⟨b,p1,hrd,-⟩:=hbat n' _ _ rfl h1
  simp at q0 q8 q9 q10
  subst q0 q8 q9 q10
  refine ⟨⟨n0,b,b8,n9,n10⟩,?_,hrd⟩
  show _::(([v1,v2,v3,v4,v5,v6,v7]:List Value)++_)=_
  rw [p1]
  rfl
end
end Go.Dec
