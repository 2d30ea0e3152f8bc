/- What the claim of this folder leans on: our own texts, joined, without what it does not use. -/
import Derived.Test.YtlmaipahgknahaaGreatRows
import Derived.WalkKit
import Derived.ProofKit
import Derived.OpenShut
import Derived.RowKit3
import Derived.OrdersHeld
import Derived.Scope
import Derived.KernelRfl
import Derived.Laws.Sem
import Derived.Laws.StructEq
import Derived.Deep.AppendSrc
import Derived.Laws.BytesArg
import Derived.Laws.RangeString
import Derived.Maps.RangeRun
import Derived.Lib.ConvBytes
import Derived.Lib.SlBytesConst
import Derived.ChangeSlices
import Derived.ChangeMaps5
import Derived.ChangeSame
import Derived.Deep.Slices
import Derived.Deep.Fields
import Derived.Test.YtlmaipahgknahaaGreatProg
import Derived.WideKeyRuns
import Derived.DeepKeys3
import Derived.Laws.MakeOwn
import Derived.Sort.MapsRangeIn
import Derived.Sort.KeysCollected
import Derived.RangeFuncNested
import Derived.RangeFuncBound
import Derived.RangeFuncCalls
import Derived.RangeFuncLeaves
import Derived.RangeFuncBox
import Derived.OwnWalkIn
import Derived.TacticsInMore
import Derived.RegionIn
import Derived.LoopNIn
import Derived.LoopIn
import Derived.Maps.AppendAt
import Derived.Shelf.Abstract
import Derived.Shelf.Sort.Plain
import Derived.Shelf.Slices.In.SortNone
import Derived.Test.YtlmaipahgknahaaGreatQNews1
import Derived.Test.YtlmaipahgknahaaGreatQNews2
import Derived.Test.YtlmaipahgknahaaGreatQNews3
import Derived.Test.YtlmaipahgknahaaGreatQNews4
import Derived.Test.YtlmaipahgknahaaGreatQNews5
import Derived.Test.YtlmaipahgknahaaGreatQNews6
import Derived.Test.YtlmaipahgknahaaGreatQNews7
set_option linter.unusedVariables false
set_option linter.unusedSimpArgs false
namespace Go.Dec
structure Calm (D:DiskA):Prop where
 gone:D.gone=false
 left:D.left = -1
theorem z9h {D:DiskA} (h:D.left = -1):z27 D=D:=by unfold z27;rw [if_neg (by omega)]
theorem zjb {D:DiskA} (h:Calm D) (n:ByteArray) (bs:List UInt8):Calm (z09 D n bs).2:=by
 unfold z09
 split
 ·exact h
 split
 ·exact h
 split
 ·exact h
 ·show Calm (z27 _)
  rw [z9h (by exact h.left)]
  exact ⟨h.gone,h.left⟩
theorem zvr {D:DiskA} (h:Calm D) (ns:List ByteArray):Calm (z1n D ns).2:=by
 unfold z1n
 split
 ·exact h
 split
 ·exact h
 ·show Calm (z27 _)
  rw [z9h (by exact h.left)]
  exact ⟨h.gone,h.left⟩
theorem zxo {D:DiskA} (h:Calm D) (n:ByteArray):Calm (z0y D n).2:=by
 unfold z0y
 split
 ·exact h
 split
 ·exact h
 ·show Calm (z27 _)
  rw [z9h (by exact h.left)]
  exact ⟨h.gone,h.left⟩
theorem zqw {D:DiskA} (h:Calm D) (pre:ByteArray) (l:List SegA):Calm (z0j pre l D).2:=by
 unfold z0j
 split
 ·exact h
 ·exact zvr h _
theorem z6y {A:DiskA} {n:ByteArray} {bs:List UInt8}:(z09 A n bs).2.fs.length<=A.fs.length+1/\((z04 A.fs n).isSome=true->(z09 A n bs).2.fs.length=A.fs.length):=by
 unfold z09
 split
 ·exact ⟨by show A.fs.length<=_;omega,λ_=>rfl⟩
 split
 ·exact ⟨by show A.fs.length<=_;omega,λ_=>rfl⟩
 split
 ·exact ⟨by show A.fs.length<=_;omega,λ_=>rfl⟩
 ·show (z27 _).fs.length<=_/\(_->(z27 _).fs.length=_)
  rw [z36]
  show (if z1v A.fs n=true then _ else _:List FileA).length<=_/\(_->(if z1v A.fs n=true then _ else _:List FileA).length=_)
  rw [<- z42]
  split
  ·rw [List.length_map];exact ⟨by omega,λ_=>rfl⟩
  ·rename_i h
   rw [(z5r _ _).length_eq]
   exact ⟨by simp,λh2=>absurd h2 h⟩
structure Cpl (pre:ByteArray) (l:List SegA) (D:DiskA):Prop where
 ok:okA D
 segs:z0b 0 l
 has:zj7 pre l D
 only:∀ n,(z04 D.fs n).isSome=true->(bl (z15 pre)).isPrefixOf (bl n)=true->∃ s ∈ l,n=zl pre s.base zv
def z5b (l:List SegA):Nat:=(l.map λs=>s.file.length).sum
theorem z6t (l:List SegA) (s:SegA):z5b (l++[s])=z5b l+s.file.length:=by simp [z5b]
theorem z6q {pre:ByteArray} {s t:SegA} (hs:SegOk s) (ht:SegOk t) (h:s.base≠t.base):zl pre s.base zv≠zl pre t.base zv:=λe=>by
 have h1:=hs.base
 have h2:=ht.base
 exact h (zuy (by omega) (by omega) e).1
structure Fr (pre:ByteArray) (D D':DiskA):Prop where
 room:D'.room=D.room
 other:∀ m,(bl (z15 pre)).isPrefixOf (bl m)=false->z04 D'.fs m=z04 D.fs m
theorem Fr.refl (pre:ByteArray) (D:DiskA):Fr pre D D:=⟨rfl,λ_ _=>rfl⟩
theorem Fr.trans {pre:ByteArray} {D D' D'':DiskA} (h1:Fr pre D D') (h2:Fr pre D' D''):Fr pre D D'':=⟨h2.room.trans h1.room,λm hm=>(h2.other m hm).trans (h1.other m hm)⟩
theorem zl5 {D:DiskA} (hok:okA D) (n:ByteArray):okA (z1n D [n]).2/\(z1n D [n]).2.room=D.room/\used (z1n D [n]).2.fs=used D.fs/\(z1n D [n]).2.fs.length=D.fs.length /\
  ∀ m,z04 (z1n D [n]).2.fs m=z04 D.fs m\/(m=n/\(z1n D [n]).1=0/\z04 (z1n D [n]).2.fs m=(z04 D.fs m).map λp=>(p.1,p.1.length)):=by
 by_cases h:(z1n D [n]).1=0
 ·obtain ⟨-,h1,h2,h3,h4,h5⟩:=zpn hok h
  refine ⟨h1,h2,h3,h4,λm=>?_⟩
  by_cases hm:n=m
  ·subst hm
   refine .inr ⟨rfl,h,?_⟩
   rw [h5]
   simp
  ·refine .inl ?_
   rw [h5]
   simp [hm]
 ·rcases zei (A:=D) (n:=n) with ⟨h1,-,-,-⟩|⟨-,-,h4⟩|⟨-,-,-,h4⟩
  ·exact absurd h1 h
  ·rw [h4];exact ⟨hok,rfl,rfl,rfl,λm=>.inl rfl⟩
  ·rw [h4];exact ⟨hok,rfl,rfl,rfl,λm=>.inl rfl⟩
theorem Cpl.same {pre:ByteArray} {l:List SegA} {D D':DiskA} (h:Cpl pre l D) (hok:okA D') (hf:∀ m,(bl (z15 pre)).isPrefixOf (bl m)=true->(z04 D'.fs m).map Prod.fst=(z04 D.fs m).map Prod.fst):Cpl pre l D':=by
 refine ⟨hok,h.segs,λs hs=>?_,λn hn hp=>?_⟩
 ·obtain ⟨k,hk⟩:=h.has s hs
  have:=hf _ (z48 pre s.base zv)
  rw [hk] at this
  cases hq:z04 D'.fs (zl pre s.base zv) with
  | none=>rw [hq] at this;cases this
  | some q =>
   rw [hq] at this
   simp only [Option.map_some,Option.some.injEq] at this
   exact ⟨q.2,by rw [<- this]⟩
 ·refine h.only n ?_ hp
  have:=hf n hp
  cases hq:z04 D.fs n with
  | none =>
   rw [hq] at this
   cases hq2:z04 D'.fs n with
   | none=>rw [hq2] at hn;cases hn
   | some q=>rw [hq2] at this;cases this
  | some q=>rfl
theorem z7z {pre:ByteArray} {l:List SegA} {D:DiskA} (h:Cpl pre l D):Cpl pre l (z0j pre l D).2/\Fr pre D (z0j pre l D).2/\used (z0j pre l D).2.fs=used D.fs/\(z0j pre l D).2.fs.length=D.fs.length/\(Calm D->(z0j pre l D).1=0):=by
 unfold z0j
 cases hl:l.getLast? with
 | none=>exact ⟨h,.refl _ _,rfl,rfl,λ_=>rfl⟩
 | some s =>
  simp only
  obtain ⟨h1,h2,h3,h4,h5⟩:=zl5 h.ok (zl pre s.base zv)
  refine ⟨h.same h1 λm hm=>?_,⟨h2,λm hm=>?_⟩,h3,h4,λhc=>?_⟩
  ·rcases h5 m with h6|⟨-,-,h6⟩
   ·rw [h6]
   ·rw [h6,Option.map_map];rfl
  ·rcases h5 m with h6|⟨h6,-,-⟩
   ·exact h6
   ·rw [h6,z48] at hm;cases hm
  ·rcases zei (A:=D) (n:=zl pre s.base zv) with ⟨h6,-,-,-⟩|⟨-,h6,-⟩|⟨-,-,h6,-⟩
   ·exact h6
   ·rw [hc.gone] at h6;cases h6
   ·obtain ⟨k,hk⟩:=h.has s (List.mem_of_getLast? hl)
    rw [hk] at h6;cases h6
theorem Cpl.grow {pre:ByteArray} {l0:List SegA} {s s':SegA} {D:DiskA} {x:List UInt8} (hp:z30 pre=true) (h:Cpl pre (l0++[s]) D) (hsegs:z0b 0 (l0++[s'])) (hb:s'.base=s.base) (hx:s'.file=s.file++x) (ha:(z09 D (zl pre s.base zv) x).1=0) :
  Cpl pre (l0++[s']) (z09 D (zl pre s.base zv) x).2/\Fr pre D (z09 D (zl pre s.base zv) x).2/\used (z09 D (zl pre s.base zv) x).2.fs+z5b (l0++[s])=used D.fs+z5b (l0++[s'])/\(z09 D (zl pre s.base zv) x).2.fs.length=D.fs.length:=by
 obtain ⟨h1,h2,h3,h4,h5,h6,h7⟩:=z9f h.ok ha
 obtain ⟨k,hk⟩:=h.has s (by simp)
 obtain ⟨f1,f2,f3,f4⟩:=h.segs.front
 refine ⟨⟨h4,hsegs,λt ht=>?_,λn hn hpn=>?_⟩,⟨h5,λm hm=>?_⟩,?_,(z6y.2 (by rw [hk];rfl))⟩
 ·rcases List.mem_append.1 ht with ht|ht
  ·have hto:=(f1.mem t ht).1
   have hne:zl pre t.base zv≠zl pre s.base zv:=z6q hto f2 (by have:=(f4 t ht).2;omega)
   rw [h7,if_neg hne]
   exact h.has t (by simp [ht])
  ·simp only [List.mem_cons,List.not_mem_nil,or_false] at ht
   subst ht
   rw [hb,h7,if_pos rfl,hk,hx]
   exact ⟨k,rfl⟩
 ·rw [h7] at hn
  by_cases hm:n=zl pre s.base zv
  ·exact ⟨s',by simp,by rw [hb];exact hm⟩
  ·rw [if_neg hm] at hn
   obtain ⟨t,ht,rfl⟩:=h.only n hn hpn
   rcases List.mem_append.1 ht with ht|ht
   ·exact ⟨t,by simp [ht],rfl⟩
   ·simp only [List.mem_cons,List.not_mem_nil,or_false] at ht
    subst ht
    exact absurd rfl hm
 ·rw [h7,if_neg]
  rintro rfl
  rw [z48] at hm;cases hm
 ·rw [h6,z6t,z6t,hx,List.length_append];omega
theorem Cpl.begin {pre:ByteArray} {l:List SegA} {s:SegA} {D:DiskA} (h:Cpl pre l D) (hsegs:z0b 0 (l++[s])) (ha:(z09 D (zl pre s.base zv) s.file).1=0) :
  Cpl pre (l++[s]) (z09 D (zl pre s.base zv) s.file).2/\Fr pre D (z09 D (zl pre s.base zv) s.file).2/\used (z09 D (zl pre s.base zv) s.file).2.fs+z5b l=used D.fs+z5b (l++[s])/\(z09 D (zl pre s.base zv) s.file).2.fs.length<=D.fs.length+1:=by
 obtain ⟨h1,h2,h3,h4,h5,h6,h7⟩:=z9f h.ok ha
 obtain ⟨f1,f2,f3,f4⟩:=hsegs.front
 have hnone:z04 D.fs (zl pre s.base zv)=none:=by
  cases hq:z04 D.fs (zl pre s.base zv) with
  | none=>rfl
  | some q =>
   obtain ⟨t,ht,e⟩:=h.only _ (by rw [hq];rfl) (z48 pre s.base zv)
   exact absurd e (z6q f2 (f1.mem t ht).1 (by have:=(f4 t ht).2;omega))
 refine ⟨⟨h4,hsegs,λt ht=>?_,λn hn hpn=>?_⟩,⟨h5,λm hm=>?_⟩,?_,z6y.1⟩
 ·rcases List.mem_append.1 ht with ht|ht
  ·have hto:=(f1.mem t ht).1
   have hne:zl pre t.base zv≠zl pre s.base zv:=z6q hto f2 (by have:=(f4 t ht).2;omega)
   rw [h7,if_neg hne]
   exact h.has t ht
  ·simp only [List.mem_cons,List.not_mem_nil,or_false] at ht
   subst ht
   rw [h7,if_pos rfl,hnone]
   exact ⟨0,rfl⟩
 ·rw [h7] at hn
  by_cases hm:n=zl pre s.base zv
  ·exact ⟨s,by simp,hm⟩
  ·rw [if_neg hm] at hn
   obtain ⟨t,ht,rfl⟩:=h.only n hn hpn
   exact ⟨t,by simp [ht],rfl⟩
 ·rw [h7,if_neg]
  rintro rfl
  rw [z48] at hm;cases hm
 ·rw [h6,z6t];omega
def Stp (pre:ByteArray) (l:List SegA) (D:DiskA) (l':List SegA) (D':DiskA):Prop :=
 Cpl pre l' D'/\Fr pre D D'/\used D'.fs+z5b l=used D.fs+z5b l'/\D'.fs.length+l.length<=D.fs.length+l'.length/\(Calm D->Calm D')
theorem Stp.same {pre:ByteArray} {l:List SegA} {D:DiskA} (h:Cpl pre l D):Stp pre l D l D:=⟨h,.refl _ _,rfl,Nat.le_refl _,id⟩
theorem Stp.trans {pre:ByteArray} {l l' l'':List SegA} {D D' D'':DiskA} (h1:Stp pre l D l' D') (h2:Stp pre l' D' l'' D''):Stp pre l D l'' D'' :=
 ⟨h2.1,h1.2.1.trans h2.2.1,by have:=h1.2.2.1;have:=h2.2.2.1;omega,by have:=h1.2.2.2.1;have:=h2.2.2.2.1;omega,λh=>h2.2.2.2.2 (h1.2.2.2.2 h)⟩
theorem zus {pre:ByteArray} {l:List SegA} {D:DiskA} (h:Cpl pre l D):Stp pre l D l (z0j pre l D).2:=by
 obtain ⟨h1,h2,h3,h4,-⟩:=z7z h
 exact ⟨h1,h2,by omega,by omega,λhc=>zqw hc _ _⟩
theorem zeh (n:Int) (bs:List BatM):(SegA.add ⟨n,0,[]⟩ bs).file=shL n 0++bs.flatMap frL:=by
 rw [z6j];simp [SegA.file]
theorem ze5 {pre:ByteArray} (seg:Int) {l:List SegA} {D:DiskA} (bs:List BatM) (hp:z30 pre=true) (h:Cpl pre l D):Stp pre l D (z0u pre seg l D bs).2.1 (z0u pre seg l D bs).2.2:=by
 have hsegs:=z9o (seg:=seg) (bs:=bs) h.segs
 unfold z0u
 unfold z1b at hsegs
 split
 ·exact .same h
 rename_i hb
 rw [if_neg hb] at hsegs
 split
 ·exact .same h
 rename_i hpl
 rw [if_neg hpl] at hsegs
 simp only at hsegs
 split
 ·rename_i hr
  rw [if_pos hr] at hsegs
  have hne:l≠[]:=by rintro rfl;cases hr
  obtain ⟨l0,s,rfl⟩:=z35 hne
  rw [zep]
  rw [z3i] at hsegs
  split
  ·rename_i he
   simp only
   rw [z89 he]
   exact .same h
  ·rename_i he
   have he:=Decidable.not_not.1 he
   simp only
   rw [z3i]
   obtain ⟨c1,c2,c3,c4⟩:=h.grow hp hsegs rfl (z6j _ _) he
   exact ⟨c1,c2,c3,by rw [List.length_append,List.length_append];simp;omega,λhc=>zjb hc _ _⟩
 ·rename_i hr
  rw [if_neg hr] at hsegs
  have hst:=zus h
  split
  ·exact hst
  split
  ·rename_i he
   simp only
   rw [z89 he]
   exact hst
  ·rename_i he
   have he:=Decidable.not_not.1 he
   simp only
   rw [<- zeh] at he ⊢
   obtain ⟨c1,c2,c3,c4⟩:=hst.1.begin (s:=SegA.add ⟨zq l,0,[]⟩ (zx (zq l) bs).2) hsegs he
   refine hst.trans ⟨c1,c2,c3,?_,λhc=>zjb hc _ _⟩
   rw [List.length_append,List.length_singleton]
   have c4:(z09 (z0j pre l D).2 (zl pre (zq l) zv) _).2.fs.length<=_:=c4
   omega
theorem zcn:∀ {xs ys:List ByteArray},xs.Pairwise (λa b=>ltS a b=true)->ys.Pairwise (λa b=>ltS a b=true)->(∀ n,n ∈ xs↔n ∈ ys)->xs=ys
 | [],[],_,_,_=>rfl
 | [],y::ys,_,_,h=>absurd ((h y).2 (List.mem_cons_self ..)) (by simp)
 | x::xs,[],_,_,h=>absurd ((h x).1 (List.mem_cons_self ..)) (by simp)
 | x::xs,y::ys,hx,hy,h=>by
  rw [List.pairwise_cons] at hx hy
  have hxy:x=y:=by
   rcases List.mem_cons.1 ((h x).1 (List.mem_cons_self ..)) with h1|h1
   ·exact h1
   ·rcases List.mem_cons.1 ((h y).2 (List.mem_cons_self ..)) with h2|h2
    ·exact h2.symm
    ·have h3:=hy.1 x h1
     have h4:=hx.1 y h2
     rw [zut h3] at h4
     cases h4
  subst hxy
  congr 1
  refine zcn hx.2 hy.2 λn=>?_
  constructor
  ·intro hn
   rcases List.mem_cons.1 ((h n).1 (List.mem_cons_of_mem _ hn)) with h1|h1
   ·subst h1
    have:=hx.1 n hn
    rw [z8d] at this;cases this
   ·exact h1
  ·intro hn
   rcases List.mem_cons.1 ((h n).2 (List.mem_cons_of_mem _ hn)) with h1|h1
   ·subst h1
    have:=hy.1 n hn
    rw [z8d] at this;cases this
   ·exact h1
theorem zpb (p s:ByteArray):Go.Proofs.YtlmaipahgknahaaGreat.preF p s=(bl p).isPrefixOf (bl s):=by
 unfold Go.Proofs.YtlmaipahgknahaaGreat.preF
 rw [ByteArray.toList_eq,ByteArray.toList_eq]
theorem zhz {D:DiskA} {pre n:ByteArray}:n ∈ z0w (z15 pre) D.fs↔(z04 D.fs n).isSome=true/\(bl (z15 pre)).isPrefixOf (bl n)=true:=by
 unfold z0w
 rw [List.mem_filter,<- z42,z5n,zpb]
 constructor
 ·rintro ⟨h1,h2⟩
  obtain ⟨f,hf,rfl⟩:=List.mem_map.1 h1
  exact ⟨⟨f,hf,rfl⟩,h2⟩
 ·rintro ⟨⟨f,hf,rfl⟩,h2⟩
  exact ⟨List.mem_map.2 ⟨f,hf,rfl⟩,h2⟩
theorem zcc {D:DiskA} (hok:okA D) (p:ByteArray):(z0w p D.fs).Pairwise λa b=>ltS a b=true:=by
 unfold z0w
 exact ((List.pairwise_map.2 hok.sorted).filter _)
theorem z9z (pre:ByteArray):∀ {n:Int} {l:List SegA},z0b n l->(l.map λs=>zl pre s.base zv).Pairwise λa b=>ltS a b=true
 | _,[],_=>List.Pairwise.nil
 | n,s::l,⟨h1,h2,h3⟩=>by
  rw [List.map_cons,List.pairwise_cons]
  refine ⟨λm hm=>?_,z9z pre h3⟩
  obtain ⟨t,ht,rfl⟩:=List.mem_map.1 hm
  have h4:=h3.mem t ht
  have:=h2.base
  have:=h4.1.base
  exact (zuu pre (by omega) (by omega) zv).2 (by omega)
theorem Cpl.names {pre:ByteArray} {l:List SegA} {D:DiskA} (h:Cpl pre l D):z0w (z15 pre) D.fs=l.map λs=>zl pre s.base zv:=by
 refine zcn (zcc h.ok _) (z9z pre h.segs) λn=>?_
 rw [zhz]
 constructor
 ·rintro ⟨h1,h2⟩
  obtain ⟨s,hs,rfl⟩:=h.only n h1 h2
  exact List.mem_map.2 ⟨s,hs,rfl⟩
 ·intro hn
  obtain ⟨s,hs,rfl⟩:=List.mem_map.1 hn
  obtain ⟨k,hk⟩:=h.has s hs
  exact ⟨by rw [hk];rfl,z48 pre s.base zv⟩
theorem zas (pre:ByteArray) (D:DiskA):∀ {l:List SegA},(∀ s ∈ l,SegOk s)->z0s pre (l.map λs=>zl pre s.base zv) D=(0,l.map SegA.base,D)
 | [],_=>rfl
 | s::l,h=>by
  have hb:=(h s (List.mem_cons_self ..)).base
  have h1:z19 pre (zl pre s.base zv) zv=some s.base.toNat:=zd7 pre (by omega) zv
  have h2:z19 pre (zl pre s.base zv) z7e=none:=zh9 h1 (by decide)
  rw [List.map_cons]
  unfold z0s
  rw [h2]
  rw [if_neg (by rintro ⟨h3,-⟩;cases h3)]
  simp only [Option.isSome_none,Bool.false_eq_true,if_false]
  rw [zas pre D λt ht=>h t (List.mem_cons_of_mem _ ht),h1]
  simp only [List.map_cons]
  have e:((s.base.toNat:Nat):Int)=s.base:=by omega
  rw [e]
  rfl
theorem zfl {pre:ByteArray} {D:DiskA}:∀ {l l1:List SegA},z0b 0 (l1++l)->(∀ s ∈ l,∃ k,z04 D.fs (zl pre s.base zv)=some (s.file,k))->z1x pre (l.map SegA.base) l1 D=(0,l1++l,D)
 | [],l1,_,_=>by unfold z1x;simp
 | s::l,l1,hok,hh=>by
  rw [List.map_cons]
  unfold z1x
  have hok2:z0b 0 ((l1++[s])++l):=by rwa [List.append_assoc]
  have hs:SegOk s:=(hok.mem s (by simp)).1
  obtain ⟨k,hk⟩:=hh s (List.mem_cons_self ..)
  have hb:¬ s.base<zq l1:=by
   have:=hs.base
   by_cases h0:l1=[]
   ·subst h0;show ¬ s.base<0;omega
   ·obtain ⟨l0,t,rfl⟩:=z35 h0
    rw [z2x]
    have h1:=hok.skip l0.length (l0.length+1) (by simp) (by omega)
    have e1:(l0++[t]++s::l)[l0.length]'(by simp)=t:=by simp
    have e2:(l0++[t]++s::l)[l0.length+1]'(by simp)=s:=by
     rw [List.getElem_append_right (by simp)];simp
    rw [e1,e2] at h1
    omega
  have hsc:z1i pre l1 D s.base=((true,0),l1++[s],D):=by
   unfold z1i
   rw [hk]
   simp only
   rw [zic hs]
   simp only
   rw [if_pos trivial]
  rw [if_neg hb,hsc,if_neg (by simp),if_pos rfl]
  simp only
  rw [zfl hok2 λt ht=>hh t (List.mem_cons_of_mem _ ht),List.append_assoc]
  rfl
theorem Cpl.opened {pre:ByteArray} {l:List SegA} {D:DiskA} (h:Cpl pre l D):z45 pre D=(0,l,D):=by
 unfold z45
 rw [h.names,zas pre D λs hs=>(h.segs.mem s hs).1]
 rw [if_neg (by simp)]
 simp only
 have:=zfl (pre:=pre) (D:=D) (l:=l) (l1:=[]) h.segs h.has
 rw [this]
 rfl
theorem Cpl.frame {pre q:ByteArray} {l:List SegA} {D D':DiskA} (h:Cpl q l D) (hok:okA D') (hp:z30 pre=true) (hq:z30 q=true) (hne:pre≠q) (hf:Fr pre D D'):Cpl q l D' :=
 h.same hok λm hm=>by
  rw [hf.other m ?_]
  cases hx:(bl (z15 pre)).isPrefixOf (bl m) with
  | false=>rfl
  | true=>exact absurd (zwe hp hq hx hm) hne
theorem z9g (pre:ByteArray) (n:Nat) (hn:n<=4194304):Cpl pre [] ⟨n,-1,false,[]⟩ :=
 ⟨⟨hn,by show (0:Nat)<=_;omega,by show (0:Nat)<=_;omega,by show -1<=(-1:Int)/\(-1:Int)<=_;omega,List.Pairwise.nil,(λf h=>by cases h),λf h=>by cases h⟩,trivial,(λs h=>by cases h),λn h=>by cases h⟩
structure SegR where
 base:Int
 fin:Int
 x:Sl
 bs:List BatM
structure RefM where
 seg:Int
 gap:Int
 SR:List SegR
def SegR.p (s:SegR):SegA:=⟨s.base,s.fin,s.bs.map BatM.p⟩
def RefM.l (R:RefM):List SegA:=R.SR.map SegR.p
def RefM.bs (R:RefM):List BatM:=R.SR.flatMap SegR.bs
def z40 (s:SegR):List Value:=[.int .i64 s.base,.int .i64 s.fin,.slice s.x.a s.x.len s.x.cap]
instance:EncA z40 [.int .i64,.int .i64,.slc] (λs=>(s.base,s.fin,s.x,())):=⟨λ_=>rfl⟩
instance:EncN z40 3:=⟨λ_=>rfl,by decide,by simp [z40,Value.oneCell']⟩
instance:EncF z40 0 (.int .i64) (λs=>s.base):=⟨λ_=>rfl⟩
def zcl (s:SegR):HP:=slc T.a0 7 s.x (s.bs.flatMap zo)
def rfQ (a:Nat) (z:Sl) (R:RefM):HP:=HP.star (pt a (.cells #[.int .i64 R.seg,.int .i64 R.gap,.slice z.a z.len z.cap] T.a53)) (HP.star (slc T.a54 3 z (R.SR.flatMap z40)) (HP.all (R.SR.map zcl)))
def rfP (a:Nat) (R:RefM):HP:=HP.ex λz:Sl=>rfQ a z R
section
variable {w:World} {l r:List HP} {a:Nat} {R:RefM}
theorem zgt (hs:Sat w (rfP a R::l)):∃ z:Sl,Sat w (pt a (.cells #[.int .i64 R.seg,.int .i64 R.gap,.slice z.a z.len z.cap] T.a53)::slc T.a54 3 z (R.SR.flatMap z40)::HP.all (R.SR.map zcl)::l):=by
 obtain ⟨z,hs⟩:=hs.ex
 have hs:=hs.star
 exact ⟨z,((hs.pick [1]).star).pick [2]⟩
theorem z7i (R:RefM) {z:Sl} (hs:Sat w (pt a (.cells #[.int .i64 R.seg,.int .i64 R.gap,.slice z.a z.len z.cap] T.a53)::slc T.a54 3 z (R.SR.flatMap z40)::HP.all (R.SR.map zcl)::l)):Sat w (rfP a R::l) :=
 .ex_mk z (.star_mk (((hs.pick [1,1]).star_mk).pick [1]))
theorem zvk {SR:List SegR} {s:SegR} (hm:s ∈ SR) [hf:Foc l (HP.all (SR.map zcl)) r]:FocR l s.x 7 (s.bs.flatMap zo):=⟨λw hs=>by
 obtain ⟨L,hs⟩:=(hs.perm hf.perm).all_mem hm
 exact Sat.rd hs⟩
theorem zem:z06 R.l=R.bs.map BatM.p:=by
 unfold z06 RefM.l RefM.bs
 rw [List.flatMap_map,List.map_flatMap]
 rfl
theorem zef [hf:Fo l rfP a R r] (hs:Sat w l):Ret P F.a176 #[.pointer (some ⟨a,0,none⟩)] w λvs w'=>vs=[.int .i64 (z1t R.l)]/\Sat w' (rfP a R::r) :=
 znl _ <| by
  delta z006 AB AI Aa Ac Ai Am Aq Bp
  obtain ⟨z,hs⟩:=zgt (hs.perm hf.perm)
  have hl:=hs.slen z (xs:=R.SR) (enc:=z40)
  refine zj ?_
  refine za hs ?_
  refine ze (λh=>?_) λh=>?_
  ·have h0:R.SR=[]:=List.length_eq_zero_iff.1 (by omega)
   refine ⟨rfl,?_,z7i R hs⟩
   unfold RefM.l;rw [h0];rfl
  have h0:0<R.SR.length:=by omega
  refine zj ?_
  refine za hs ?_
  refine zpu hs (xs:=R.SR) (enc:=z40) 0 h0 ?_
  refine wp_lt ?_
  refine ⟨rfl,?_,z7i R hs⟩
  obtain ⟨x,xs,hx⟩:=List.exists_cons_of_length_pos h0
  simp only [RefM.l,hx,List.map_cons,z1t,List.getElem_cons_zero]
  rfl
theorem z01p (bs:List BatM):z0a (bs.map BatM.p)=z0a bs:=by
 unfold z0a
 rw [z69]
 cases bs.getLast? <;> rfl
theorem z024 (s:SegR):s.p.reach=max (max s.base s.fin) (z0a s.bs):=by
 unfold SegA.reach SegR.p
 simp only [z01p]
theorem zxp (s:SegR) [hx:FocR l s.x 7 (s.bs.flatMap zo)] (hv:∀ b ∈ s.bs,z05 b=0) (hbs:∀ b ∈ s.bs,FocR l b.x 4 (b.rs.flatMap z00)) (hb:s.bs.length<=1000000000) (hbf : -9223372036854775808<=s.base/\s.base<9223372036854775808) (hn0:s.bs=[]->0<=s.base) (hs:Sat w l) :
  Ret P F.a179 #[.agg (z40 s).toArray] w λvs w'=>vs=[.int .i64 s.p.reach]/\Sat w' l :=
 zno s.base s.fin s.x <| by
  delta z009 AB AC AD AE AF AL AN Aa Ac Ad Ae Ai Am Ap Aq Ax BK Bg Bj Bp
  have hl:=hs.slen s.x (xs:=s.bs) (enc:=zo)
  rw [z024]
  refine zn hs λa0 w' hs=>?_
  refine za hs ?_
  refine wp_lt ?_
  refine za hs ?_
  refine zf (λq w'=>q=(max s.base s.fin,())/\Sat w' (pt a0 (.cells [.int .i64 s.base,.int .i64 s.fin,.slice s.x.a s.x.len s.x.cap].toArray T.a54)::l)) ?_ ?_
  ·refine ze (λh=>?_) λh=>?_
   ·refine za hs ?_
    refine wp_lt ?_
    exact zg ⟨by rw [Int.max_def,if_pos (by omega)],hs⟩
   ·have e:max s.base s.fin=s.base:=by omega
    exact zg ⟨by rw [e],hs⟩
  clear hs
  rintro _ w2 ⟨rfl,hs⟩
  refine za hs ?_
  refine zf (λq w'=>q=(max (max s.base s.fin) (z0a s.bs),())/\Sat w' l) ?_ ?_
  rotate_left
  ·rintro _ w3 ⟨rfl,hs⟩
   refine wp_lt ?_
   exact ⟨rfl,rfl,hs⟩
  refine ze (λh=>?_) λh=>?_
  rotate_left
  ·have h0:s.bs=[]:=List.length_eq_zero_iff.1 (by omega)
   refine zg ⟨?_,hs.tail⟩
   have:=hn0 h0
   rw [h0]
   show (max s.base s.fin,())=(max (max s.base s.fin) 0,())
   congr 1;omega
  have hp:0<s.bs.length:=by omega
  have hil:s.bs.length-1<s.bs.length:=by omega
  have hnx:z0a s.bs=s.bs[s.bs.length-1].base+zp s.bs[s.bs.length-1]:=by
   unfold z0a
   rw [List.getLast?_eq_getElem?,List.getElem?_eq_getElem hil]
  obtain ⟨s1,s2,⟨-,hba,-⟩,-,s3⟩:=z11 _ (hv _ (List.getElem_mem hil))
  have hR:=hbs _ (List.getElem_mem hil)
  refine za hs ?_
  refine za hs ?_
  rw [w64 (by omega) (by omega)]
  refine z32 hs (xs:=s.bs) (enc:=zo) (s.bs.length-1) hil ?_
  generalize s.bs[s.bs.length-1]=b at *
  refine zt hs λc w' hs=>?_
  refine zu hs λw' hs=>?_
  refine zy hs λw' hs=>?_
  refine z0x hs ?_
  refine zk hs ?_
  refine z8 (zol b hs) λ_ w' hs=>?_
  obtain ⟨rfl,hs⟩:=hs
  refine zb ?_ (by first|trivial|(repeat (first|exact trivial|exact λ_=>z08 hs|exact λ_=>z0i hs|refine And.intro ?_ ?_)))
  refine zd ?_
  rw [w64 (by omega) (by omega)]
  refine z4q ?_
  refine ze (λh2=>?_) λh2=>?_
  ·refine zy hs λw' hs=>?_
   refine z0x hs ?_
   refine zk hs ?_
   refine z8 (zol b hs) λ_ w' hs=>?_
   obtain ⟨rfl,hs⟩:=hs
   refine zb ?_ (by first|trivial|(repeat (first|exact trivial|exact λ_=>z08 hs|exact λ_=>z0i hs|refine And.intro ?_ ?_)))
   rw [w64 (by omega) (by omega)]
   refine wp_lt ?_
   refine zd ?_
   refine z3q ?_
   refine zg ⟨?_,hs.tail.tail⟩
   rw [hnx,Int.max_def (max s.base s.fin),if_pos (by omega)]
  ·refine z3q ?_
   have e:max (max s.base s.fin) (z0a s.bs)=max s.base s.fin:=by omega
   exact zg ⟨by rw [e],hs.tail.tail⟩
class okR (R:RefM) (l:List HP):Prop where
 segs:z0b 0 R.l
 rd:∀ b ∈ R.bs,FocR l b.x 4 (b.rs.flatMap z00)
 len:R.SR.length<=1000000
 all:R.bs.length<=1000000
theorem okR.valid {L:List HP} (h:okR R L):∀ s ∈ R.SR,SegOk s.p/\(∀ b ∈ s.bs,z05 b=0/\FocR L b.x 4 (b.rs.flatMap z00))/\s.bs.length<=1000000:=λs hs=>by
 have h1:=(h.segs.mem s.p (List.mem_map.2 ⟨s,hs,rfl⟩)).1
 refine ⟨h1,λb hb=>⟨(h1.bs.valid b.p (List.mem_map.2 ⟨b,hb,rfl⟩)).1,h.rd b (List.mem_flatMap.2 ⟨s,hs,hb⟩)⟩,?_⟩
 refine Nat.le_trans ?_ h.all
 obtain ⟨u,v,huv⟩:=List.append_of_mem hs
 unfold RefM.bs
 rw [huv]
 simp only [List.flatMap_append,List.flatMap_cons,List.length_append]
 omega
instance okR.cons {H:HP} {L:List HP} [h:okR R L]:okR R (H::L):=⟨h.segs,λb hb=>by have:=h.rd b hb;infer_instance,h.len,h.all⟩
theorem zgu [hf:Fo l rfP a R r] [hok:okR R r] (hs:Sat w l):Ret P F.a177 #[.pointer (some ⟨a,0,none⟩)] w λvs w'=>vs=[.int .i64 (zq R.l)]/\Sat w' (rfP a R::r) :=
 znm _ <| by
  delta z007 AB AF AI AL AN Aa Ac Ai Am Ax BK Bp
  obtain ⟨z,hs⟩:=zgt (hs.perm hf.perm)
  have hl:=hs.slen z (xs:=R.SR) (enc:=z40)
  have hln:=hok.len
  refine zj ?_
  refine za hs ?_
  refine ze (λh=>?_) λh=>?_
  ·have h0:R.SR=[]:=List.length_eq_zero_iff.1 (by omega)
   refine ⟨rfl,?_,z7i R hs⟩
   unfold RefM.l;rw [h0];rfl
  have hil:R.SR.length-1<R.SR.length:=by omega
  refine zy hs λw' hs=>?_
  refine zj ?_
  refine za hs ?_
  refine zj ?_
  refine za hs ?_
  rw [w64 (by omega) (by omega)]
  refine z32 hs (xs:=R.SR) (enc:=z40) (R.SR.length-1) hil ?_
  obtain ⟨v1,v2,v3⟩:=hok.valid _ (List.getElem_mem hil)
  have hn:zq R.l=R.SR[R.SR.length-1].p.reach:=by
   unfold zq RefM.l
   rw [z69,List.getLast?_eq_getElem?,List.getElem?_eq_getElem hil]
   rfl
  rw [hn]
  have hR:FocR (HP.all (R.SR.map zcl)::r) R.SR[R.SR.length-1].x 7 (R.SR[R.SR.length-1].bs.flatMap zo):=zvk (List.getElem_mem hil)
  have hb:=v1.base
  have hb:0<=R.SR[R.SR.length-1].base/\R.SR[R.SR.length-1].base<=1099511627776:=hb
  refine z8 (zxp R.SR[R.SR.length-1] (λb hb=>(v2 b hb).1) (λb hb=>by have:=(v2 b hb).2;infer_instance) (by omega) (by omega) (λ_=>hb.1) hs) λ_ w' hs=>?_
  obtain ⟨rfl,hs⟩:=hs
  refine zb ?_
  refine wp_lt ?_
  refine zd ?_
  exact ⟨rfl,rfl,z7i R hs⟩
theorem zve [hf:Fo l rfP a R r] [hok:okR R r] (hs:Sat w l):Ret P F.a175 #[.pointer (some ⟨a,0,none⟩)] w λvs w'=>∃ y:Sl,vs=[y.v]/\Sat w' (slc T.a0 7 y (R.bs.flatMap zo)::rfP a R::r) :=
 znk _ <| by
  delta z005 AB AF AI AQ AR Aa Ad Ae Ai Am BG BK Bp
  obtain ⟨z,hs⟩:=zgt (hs.perm hf.perm)
  have hl:=hs.slen z (xs:=R.SR) (enc:=z40)
  have hln:=hok.len
  refine zj ?_
  refine za hs ?_
  refine zf (λq w'=>∃ y:Sl,q=(y,())/\Sat w' (slc T.a0 7 y (R.bs.flatMap zo)::rfP a R::r)) ?_ ?_
  rotate_left
  ·rintro _ w2 ⟨y,rfl,hs⟩
   exact ⟨rfl,y,rfl,hs⟩
  refine z02 (λm v w=>∃ (i:Nat) (y:Sl),v=(y,((i:Int),()))/\i<=R.SR.length/\R.SR.length-i=m/\Sat w (slc T.a0 7 y (((R.SR.take i).flatMap SegR.bs).flatMap zo)::pt a (.cells #[.int .i64 R.seg,.int .i64 R.gap,.slice z.a z.len z.cap] T.a53)::slc T.a54 3 z (R.SR.flatMap z40)::HP.all (R.SR.map zcl)::r)) R.SR.length ⟨0,⟨none,0,0⟩,rfl,by omega,rfl,hs.slc_nil⟩ ?_
  clear hs
  rintro m _ w ⟨i,y,rfl,hi,hm,hs⟩
  refine zm ?_
  refine ze (λhc=>?_) λhc=>?_
  rotate_left
  ·refine zh (zg ⟨y,rfl,?_⟩)
   rw [List.take_of_length_le (by omega)] at hs
   exact (z7i R (hs.pick [1,1,1])).pick [1]
  have hil:i<R.SR.length:=by omega
  refine z32 hs (xs:=R.SR) (enc:=z40) i hil ?_
  refine zt hs λc w' hs=>?_
  refine zu hs λw' hs=>?_
  refine za hs ?_
  have hR:FocR (HP.all (R.SR.map zcl)::r) R.SR[i].x 7 (R.SR[i].bs.flatMap zo):=zvk (List.getElem_mem hil)
  have hbl:((R.SR.take i).flatMap SegR.bs).length+R.SR[i].bs.length<=1000000:=by
   refine Nat.le_trans ?_ hok.all
   unfold RefM.bs
   have e:R.SR=R.SR.take i++R.SR[i]::R.SR.drop (i+1):=by rw [<- List.drop_eq_getElem_cons hil,List.take_append_drop]
   have:=congrArg (λx:List SegR=>(x.flatMap SegR.bs).length) e
   simp only [List.flatMap_append,List.flatMap_cons,List.length_append] at this
   omega
  refine wp_app' (xs:=(R.SR.take i).flatMap SegR.bs) (ys:=R.SR[i].bs) (enc:=zo) hs λy' w' hs=>?_
  rw [wS (i:=i) (by omega)]
  refine z0z (R.SR.length-(i+1)) ⟨i+1,y',rfl,by omega,rfl,?_⟩
  have e:(R.SR.take (i+1)).flatMap SegR.bs=(R.SR.take i).flatMap SegR.bs++R.SR[i].bs:=by
   rw [List.take_succ_eq_append_getElem hil,List.flatMap_append];simp
  rw [e]
  exact hs.sub
theorem zx9 {b c:BatM} (h:b.p=c.p):b.base=c.base/\b.pid=c.pid/\b.epoch=c.epoch/\b.seq=c.seq/\b.kind=c.kind/\b.time=c.time/\b.rs=c.rs:=by
 unfold BatM.p at h
 simp only [BatM.mk.injEq] at h
 exact ⟨h.1,h.2.1,h.2.2.1,h.2.2.2.1,h.2.2.2.2.1,h.2.2.2.2.2.1,h.2.2.2.2.2.2.2⟩
theorem z012 (b c:BatM) (h:b.p=c.p) [hb:FocR l b.x 4 (b.rs.flatMap z00)] [hc:FocR l c.x 4 (c.rs.flatMap z00)] (hlen:b.rs.length<=1000000000) (hs:Sat w l):Ret P F.a170 #[.agg (zo b).toArray,.agg (zo c).toArray] w λvs w'=>vs=[.bool true]/\Sat w' l :=
 znh b.base b.pid b.epoch b.seq b.kind b.time b.x c.base c.pid c.epoch c.seq c.kind c.time c.x <| by
  delta z002 AA AB AD AF AL AN Aa Ac Ai Al Am Ap Aq Ar Ay BH Bp
  obtain ⟨e1,e2,e3,e4,e5,e6,e7⟩:=zx9 h
  have hl1:=hs.slen b.x (xs:=b.rs) (enc:=z00)
  have hl2:=hs.slen c.x (xs:=c.rs) (enc:=z00)
  rw [<- e7] at hl2
  rw [<- e1,<- e2,<- e3,<- e4,<- e5,<- e6]
  have hc:FocR l c.x 4 (b.rs.flatMap z00):=by rw [e7];exact hc
  refine zn hs λa0 w' hs=>?_
  refine zn hs λa1 w' hs=>?_
  refine za hs ?_
  refine za hs ?_
  refine zw ?_ (by omega)
  refine za hs ?_
  refine zf (λ_ w'=>Sat w' (pt a1 (.cells [.int .i64 b.base,.int .i64 b.pid,.int .i64 b.epoch,.int .i64 b.seq,.int .i64 b.kind,.int .i64 b.time,.slice c.x.a c.x.len c.x.cap].toArray T.a0)::pt a0 (.cells [.int .i64 b.base,.int .i64 b.pid,.int .i64 b.epoch,.int .i64 b.seq,.int .i64 b.kind,.int .i64 b.time,.slice b.x.a b.x.len b.x.cap].toArray T.a0)::l)) ?_ ?_
  ·refine z02 (λm v w=>∃ i:Nat,v=((i:Int),())/\i<=b.rs.length/\b.rs.length-i=m/\Sat w (pt a1 (.cells [.int .i64 b.base,.int .i64 b.pid,.int .i64 b.epoch,.int .i64 b.seq,.int .i64 b.kind,.int .i64 b.time,.slice c.x.a c.x.len c.x.cap].toArray T.a0)::pt a0 (.cells [.int .i64 b.base,.int .i64 b.pid,.int .i64 b.epoch,.int .i64 b.seq,.int .i64 b.kind,.int .i64 b.time,.slice b.x.a b.x.len b.x.cap].toArray T.a0)::l)) b.rs.length ⟨0,rfl,by omega,rfl,hs⟩ ?_
   clear hs
   rintro m _ w ⟨i,rfl,hi,hm,hs⟩
   refine zm ?_
   refine ze (λhcc=>?_) λhcc=>?_
   rotate_left
   ·exact zh (zg hs)
   have hil:i<b.rs.length:=by omega
   refine wp_lt ?_
   refine zy hs λw' hs=>?_
   refine za hs ?_
   refine z32 hs (xs:=b.rs) (enc:=z00) i hil ?_
   refine za hs ?_
   refine z32 hs (xs:=b.rs) (enc:=z00) i hil ?_
   refine zd ?_
   refine zw ?_ (by simp [zbq])
   rw [wS (i:=i) (by omega)]
   exact z0z (b.rs.length-(i+1)) ⟨i+1,rfl,by omega,rfl,hs⟩
  clear hs
  rintro _ w hs
  refine zm ?_
  refine za hs ?_
  refine za hs ?_
  refine za hs ?_
  refine za hs ?_
  refine za hs ?_
  refine za hs ?_
  refine za hs ?_
  refine za hs ?_
  refine za hs ?_
  refine za hs ?_
  refine za hs ?_
  refine za hs ?_
  refine wp_lt ?_
  refine ⟨rfl,?_,hs.tail.tail⟩
  simp
theorem zqf (x y:Sl) (bs cs:List BatM) (h:bs.map BatM.p=cs.map BatM.p) (hx:FocR l x 7 (bs.flatMap zo)) (hy:FocR l y 7 (cs.flatMap zo)) (hb:∀ b ∈ bs,FocR l b.x 4 (b.rs.flatMap z00)) (hc:∀ b ∈ cs,FocR l b.x 4 (b.rs.flatMap z00)) (hlen:bs.length<=1000000000) (hrl:∀ b ∈ bs,b.rs.length<=1000000000) (hs:Sat w l) :
  Ret P F.a171 #[x.v,y.v] w λvs w'=>vs=[.bool true]/\Sat w' l :=
 zni x y <| by
  delta z003 AA AB AC AD AF AL AN Aa Ac Ai Ak Am Ay
  have hl1:=hs.slen x (xs:=bs) (enc:=zo)
  have hl2:=hs.slen y (xs:=cs) (enc:=zo)
  have hll:bs.length=cs.length:=by have:=congrArg List.length h;simpa using this
  refine zw ?_ (by omega)
  refine zf (λ_ w'=>Sat w' l) ?_ ?_
  rotate_left
  ·rintro _ w2 hs
   exact ⟨rfl,rfl,hs⟩
  refine z02 (λm v w=>∃ i:Nat,v=((i:Int),())/\i<=bs.length/\bs.length-i=m/\Sat w l) bs.length ⟨0,rfl,by omega,rfl,hs⟩ ?_
  clear hs
  rintro m _ w ⟨i,rfl,hi,hm,hs⟩
  refine zm ?_
  refine ze (λhcc=>?_) λhcc=>?_
  rotate_left
  ·exact zh (zg hs)
  have hil:i<bs.length:=by omega
  have hil2:i<cs.length:=by omega
  have hp:bs[i].p=cs[i].p:=by
   have:=List.getElem_of_eq h (i:=i) (by rw [List.length_map];exact hil)
   simpa using this
  have hr1:=hb _ (List.getElem_mem hil)
  have hr2:=hc _ (List.getElem_mem hil2)
  refine wp_lt ?_
  refine zy hs λw' hs=>?_
  refine z32 hs (xs:=bs) (enc:=zo) i hil ?_
  refine z32 hs (xs:=cs) (enc:=zo) i hil2 ?_
  refine z8 (z012 bs[i] cs[i] hp (hrl _ (List.getElem_mem hil)) hs) λ_ w' hs=>?_
  obtain ⟨rfl,hs⟩:=hs
  refine zb ?_
  refine zd ?_
  refine zw ?_ (by simp)
  rw [wS (i:=i) (by omega)]
  exact z0z (bs.length-(i+1)) ⟨i+1,rfl,by omega,rfl,hs⟩
end
instance:EncF z00 0 .str (λr=>r.key):=⟨λ_=>rfl⟩
section
variable {w:World} {l r:List HP} {a:Nat} {R:RefM} {z:Sl} {g1 g2:Int}
theorem okR.base {L:List HP} (h:okR R L):∀ s ∈ R.SR,0<=s.base/\s.base<=1099511627776:=λs hs=>(h.valid s hs).1.base
end
instance:EncF z40 2 .slc (λs=>s.x):=⟨λ_=>rfl⟩
def SegR.add (s:SegR) (z:Sl) (q:List BatM):SegR:=⟨s.base,s.fin,z,s.bs++q⟩
def zaf (t:ByteArray):ByteArray:=if t.size>30 then t.extract 0 30 else t
def zl1 (r:RecM):RecM:=⟨zaf r.key,zaf r.value,r.gone,r.time⟩
def z0e (b:BatM):BatM:=⟨b.base,b.pid,b.epoch,b.seq,b.kind,b.time,z7f,(b.rs.take 6).map zl1⟩
theorem zdl (t:ByteArray):(zaf t).size<=30:=by
 unfold zaf
 split
 ·rw [ByteArray.size_extract];omega
 ·omega
theorem zvo (b:BatM) (n:Int) (z:Sl):2<=(z2c (((z0e b).at z).to n)).length/\(z2c (((z0e b).at z).to n)).length<=668:=by
 have h:=zog (b:=((z0e b).at z).to n) (n:=60) λr hr=>by
  obtain ⟨q,-,rfl⟩:=List.mem_map.1 (show r ∈ (b.rs.take 6).map zl1 from hr)
  have h1:=zdl q.key
  have h2:=zdl q.value
  show (zaf q.key).size+(zaf q.value).size<=60
  omega
 have h3:(((z0e b).at z).to n).rs.length<=6:=by
  show ((b.rs.take 6).map zl1).length<=6
  rw [List.length_map,List.length_take];omega
 omega
abbrev cZ (b:BatM) (z:Sl):Array Value:=#[.int .i64 b.base,.int .i64 b.pid,.int .i64 b.epoch,.int .i64 b.seq,.int .i64 b.kind,.int .i64 b.time,.slice z.a z.len z.cap]
theorem zii {nm:SegA->ByteArray}:∀ {fs:List FileA} {l:List SegA},fs.map (·.name)=l.map nm->(∀ f ∈ fs,∀ s ∈ l,f.name=nm s->f.b=s.file)->used fs=z5b l
 | [],[],_,_=>rfl
 | [],s::l,h,_=>by simp at h
 | f::fs,[],h,_=>by simp at h
 | f::fs,s::l,h,hh=>by
  rw [List.map_cons,List.map_cons,List.cons.injEq] at h
  have h1:=hh f (List.mem_cons_self ..) s (List.mem_cons_self ..) h.1
  have h2:=zii h.2 λf hf s hs=>hh f (List.mem_cons_of_mem _ hf) s (List.mem_cons_of_mem _ hs)
  rw [z1d,h2,h1]
  simp [z5b]
theorem Cpl.sizes {pre:ByteArray} {l:List SegA} {D:DiskA} (h:Cpl pre l D):l.length<=D.fs.length/\z5b l<=used D.fs:=by
 have hn:=h.names
 have e:(D.fs.filter λf=>(bl (z15 pre)).isPrefixOf (bl f.name)).map (·.name)=l.map λs=>zl pre s.base zv:=by
  rw [<- hn]
  unfold z0w
  rw [List.filter_map]
  congr 1
  apply List.filter_congr
  intro f _
  show _=Go.Proofs.YtlmaipahgknahaaGreat.preF (z15 pre) f.name
  rw [zpb]
 have hs:=zii e λf hf s hs hfs=>by
  have h1:=zbw (z2i h.ok.sorted) (List.mem_filter.1 hf).1
  obtain ⟨k,hk⟩:=h.has s hs
  rw [hfs,hk] at h1
  simp only [Option.some.injEq,Prod.mk.injEq] at h1
  exact h1.1.symm
 have hl:=congrArg List.length e
 rw [List.length_map,List.length_map] at hl
 exact ⟨by rw [<- hl];exact List.length_filter_le _ _,by rw [<- hs];exact zel List.filter_sublist⟩
theorem zpl:∀ {n:Int} {l:List SegA},z0b n l->(z06 l).length*10<=z5b l
 | _,[],_=>Nat.le_refl _
 | n,s::l,⟨h1,h2,h3⟩=>by
  have h4:=zpl h3
  have h5:=zgc h2
  have e1:z06 (s::l)=s.bs++z06 l:=by simp [z06]
  have e2:z5b (s::l)=s.file.length+z5b l:=by simp [z5b]
  rw [e1,e2,List.length_append]
  omega
theorem Cpl.len {pre:ByteArray} {l:List SegA} {D:DiskA} (h:Cpl pre l D):l.length<=128/\(z06 l).length<=500000/\∀ s ∈ l,s.file.length<=4194304:=by
 obtain ⟨h1,h2⟩:=h.sizes
 have h3:=zpl h.segs
 have h4:=h.ok.many
 have h5:=h.ok.used
 refine ⟨by omega,by omega,λs hs=>?_⟩
 obtain ⟨k,hk⟩:=h.has s hs
 exact Nat.le_trans (zcp hk) h5
theorem zlq (b:BatM) (z:Sl) (n:Int):((zx n [(z0e b).at z]).2.flatMap frL).length<=676:=by
 unfold zx
 split
 ·exact Nat.zero_le _
 ·rename_i hv
  have hv:=Decidable.not_not.1 hv
  split
  ·exact Nat.zero_le _
  ·show ((((z0e b).at z).to n)::(zx _ []).2 |>.flatMap frL).length<=676
   have h1:=zvo b n z
   have h2:=z4l hv
   simp only [zx,List.flatMap_cons,List.flatMap_nil,List.append_nil]
   omega
theorem zxz {seg:Int} {l:List SegA} {bs:List BatM}:z5b (z1b seg l bs).2<=z5b l+((zx (zq l) bs).2.flatMap frL).length+29:=by
 unfold z1b
 split
 ·simp only;omega
 split
 ·simp only;omega
 simp only
 split
 ·rename_i hr
  have hne:l≠[]:=by rintro rfl;cases hr
  obtain ⟨l0,s,rfl⟩:=z35 hne
  rw [z3i,z6t,z6t,z6j,List.length_append]
  omega
 ·have:=zgy (zq l) 0
  rw [z6t,zeh,List.length_append]
  omega
theorem zrb (seg:Int) (l:List SegA) (b:BatM) (z1 z2:Sl):z1b seg l [(z0e b).at z1]=z1b seg l [(z0e b).at z2]:=by
 rw [<- zkl,<- zkl seg l [(z0e b).at z2]]
 rfl
theorem z2m (l:List SegA) (s:SegA):z06 (l++[s])=z06 l++s.bs:=by simp [z06]
theorem zv1 {a b:List BatM} (h:b≠[]):z0a (a++b)=z0a b:=by
 obtain ⟨b0,x,rfl⟩:=z35 h
 rw [<- List.append_assoc,z3c,z3c]
theorem zec {seg:Int} {l:List SegA} {bs:List BatM} (hok:z0b 0 l) (hb:bs≠[]) (hp:(zx (zq l) bs).1=0) :
  z06 (z1b seg l bs).2=z06 l++(zx (zq l) bs).2.map BatM.p/\zq (z1b seg l bs).2=z0a ((zx (zq l) bs).2.map BatM.p):=by
 have hq1:=(zcf hp).1
 have hq:(zx (zq l) bs).2.map BatM.p≠[]:=by
  intro h
  have:=List.map_eq_nil_iff.1 h
  rw [this] at hq1
  exact hb (List.length_eq_zero_iff.1 hq1.symm)
 have hnx:=hok.next (Int.le_refl 0)
 have hlt:=((z9n hnx.1 hp).1.next hnx.1).1 hq
 unfold z1b
 rw [if_neg hb,if_neg (by rw [hp];simp)]
 simp only
 split
 ·rename_i hr
  have hne:l≠[]:=by rintro rfl;cases hr
  obtain ⟨l0,s,rfl⟩:=z35 hne
  rw [z3i,z2m,z2m,z2x]
  refine ⟨by simp [SegA.add],?_⟩
  have hsr:=z50 hok.front.2.1
  rw [z2x] at hlt hq ⊢
  show max (max s.base s.fin) (z0a (s.bs++_))=_
  rw [zv1 hq]
  omega
 ·rw [z2m,z2x]
  refine ⟨by simp [SegA.add],?_⟩
  show max (max (zq l) 0) (z0a ([]++_))=_
  rw [List.nil_append]
  omega
theorem zed {seg:Int} {l:List SegA} {bs:List BatM} (h:bs=[]\/(zx (zq l) bs).1≠0):(z1b seg l bs).2=l/\(z1b seg l bs).1.2≠0:=by
 unfold z1b
 by_cases hb:bs=[]
 ·rw [if_pos hb];exact ⟨rfl,by simp⟩
 ·rw [if_neg hb]
  rcases h with h|h
  ·exact absurd h hb
  ·rw [if_pos h];exact ⟨rfl,h⟩
def z90 (seg:Int) (bs:List BatM):List SegA:=bs.foldl (λl b=>(z1b seg l [b]).2) []
theorem zls (seg:Int) (bs:List BatM) (b:BatM):z90 seg (bs++[b])=(z1b seg (z90 seg bs) [b]).2:=by
 unfold z90
 rw [List.foldl_append]
 rfl
theorem zi6 (b:BatM) (n:Int) (h:(zx n [b]).1=0):(zx n [b]).2=[b.to n]:=by
 unfold zx at h ⊢
 split at h
 ·rename_i h1;exact absurd h h1
 ·rename_i h1
  rw [if_neg h1]
  split at h
  ·rename_i h2;exact absurd rfl h2
  ·rename_i h2;rw [if_neg h2];rfl
theorem z022 (seg:Int) (l:List SegA) (b:BatM):z1b seg l [(b.to (zq l)).p]=z1b seg l [b]:=by
 rw [<- zkl seg l [b]]
 have e:zx (zq l) [(b.to (zq l)).p]=zx (zq l) ([b].map BatM.p):=rfl
 unfold z1b
 rw [e]
 rfl
def z84 (pre:ByteArray) (l:List SegA) (D:DiskA) (n:Nat):Prop:=n<=(z06 l).length/\∀ l0 t,l=l0++[t]->(∀ s ∈ l0,z04 D.fs (zl pre s.base zv)=some (s.file,s.file.length)) /\
 ∃ k,z04 D.fs (zl pre t.base zv)=some (t.file,k)/\∀ j,1<=j->j<=t.bs.length->(z06 l0).length+j<=n->(t.cut j).file.length<=k
theorem zb6 {α:Type} {a b:List α} {x y:α} (h:a++[x]=b++[y]):a=b/\x=y:=by
 have:=List.append_inj' h rfl
 exact ⟨this.1,by simpa using this.2⟩
theorem zdb (t:SegA) (j:Nat):(t.cut j).file.length<=t.file.length:=by
 rw [z2d,z2d]
 show (shL t.base t.fin).length+((t.bs.take j).flatMap frL).length<=_
 have:t.bs.flatMap frL=(t.bs.take j).flatMap frL++(t.bs.drop j).flatMap frL:=by rw [<- List.flatMap_append,List.take_append_drop]
 rw [this,List.length_append];omega
theorem z84.sync {pre:ByteArray} {l:List SegA} {D:DiskA} {n:Nat} (h:z84 pre l D n) (hc:Cpl pre l D):z84 pre l (z0j pre l D).2 n/\((z0j pre l D).1=0->z84 pre l (z0j pre l D).2 (z06 l).length /\
  ∀ s ∈ l,z04 (z0j pre l D).2.fs (zl pre s.base zv)=some (s.file,s.file.length)):=by
 by_cases h0:l=[]
 ·subst h0
  exact ⟨h,λ_=>⟨⟨Nat.le_refl _,λl0 t e=>by simp at e⟩,λs hs=>by cases hs⟩⟩
 obtain ⟨l0,t,rfl⟩:=z35 h0
 have e:z0j pre (l0++[t]) D=z1n D [zl pre t.base zv]:=by unfold z0j;rw [z1o]
 rw [e]
 obtain ⟨h1,k,h2,h3⟩:=h.2 l0 t rfl
 obtain ⟨-,-,-,-,h5⟩:=zl5 hc.ok (zl pre t.base zv)
 obtain ⟨f1,f2,f3,f4⟩:=hc.segs.front
 have hold:∀ s ∈ l0,z04 (z1n D [zl pre t.base zv]).2.fs (zl pre s.base zv)=some (s.file,s.file.length):=λs hs=>by
  rcases h5 (zl pre s.base zv) with h6|⟨h6,-,-⟩
  ·rw [h6];exact h1 s hs
  ·exact absurd h6 (z6q (f1.mem s hs).1 f2 (by have:=(f4 s hs).2;omega))
 constructor
 ·refine ⟨h.1,λl0' t' e'=>?_⟩
  obtain ⟨rfl,rfl⟩:=zb6 e'
  refine ⟨hold,?_⟩
  rcases h5 (zl pre t.base zv) with h6|⟨-,-,h6⟩
  ·rw [h6];exact ⟨k,h2,h3⟩
  ·rw [h6,h2]
   exact ⟨t.file.length,rfl,λj h7 h8 h9=>zdb _ _⟩
 ·intro h0
  have hnew:z04 (z1n D [zl pre t.base zv]).2.fs (zl pre t.base zv)=some (t.file,t.file.length):=by
   obtain ⟨-,-,-,-,-,h7⟩:=zpn hc.ok h0
   rw [h7,h2];simp
  refine ⟨⟨Nat.le_refl _,λl0' t' e'=>?_⟩,λs hs=>?_⟩
  ·obtain ⟨rfl,rfl⟩:=zb6 e'
   exact ⟨hold,t.file.length,hnew,λj _ _ _=>zdb _ _⟩
  ·rcases List.mem_append.1 hs with hs|hs
   ·exact hold s hs
   ·simp only [List.mem_cons,List.not_mem_nil,or_false] at hs
    subst hs;exact hnew
theorem z84.begin {pre:ByteArray} {l:List SegA} {s:SegA} {D:DiskA} {n:Nat} (h:z84 pre l D n) (hc:Cpl pre l D) (hsegs:z0b 0 (l++[s])) (hall:∀ t ∈ l,z04 D.fs (zl pre t.base zv)=some (t.file,t.file.length)) (ha:(z09 D (zl pre s.base zv) s.file).1=0):z84 pre (l++[s]) (z09 D (zl pre s.base zv) s.file).2 n:=by
 obtain ⟨-,-,-,-,-,-,h7⟩:=z9f hc.ok ha
 obtain ⟨f1,f2,f3,f4⟩:=hsegs.front
 have hn:=h.1
 have hnone:z04 D.fs (zl pre s.base zv)=none:=by
  cases hq:z04 D.fs (zl pre s.base zv) with
  | none=>rfl
  | some q =>
   obtain ⟨t,ht,e⟩:=hc.only _ (by rw [hq];rfl) (z48 pre s.base zv)
   exact absurd e (z6q f2 (f1.mem t ht).1 (by have:=(f4 t ht).2;omega))
 refine ⟨by rw [z2m,List.length_append];omega,λl0' t' e'=>?_⟩
 obtain ⟨rfl,rfl⟩:=zb6 e'
 refine ⟨λt ht=>?_,0,?_,λj j1 j2 j3=>?_⟩
 ·rw [h7,if_neg (z6q (f1.mem t ht).1 f2 (by have:=(f4 t ht).2;omega))]
  exact hall t ht
 ·rw [h7,if_pos rfl,hnone]
  rfl
 ·omega
theorem z84.app {pre:ByteArray} {seg:Int} {l:List SegA} {D:DiskA} {bs:List BatM} {n:Nat} (hp:z30 pre=true) (h:z84 pre l D n) (hc:Cpl pre l D):z84 pre (z0u pre seg l D bs).2.1 (z0u pre seg l D bs).2.2 n:=by
 have hsegs:=z9o (seg:=seg) (bs:=bs) hc.segs
 unfold z0u
 unfold z1b at hsegs
 split
 ·exact h
 rename_i hb
 rw [if_neg hb] at hsegs
 split
 ·exact h
 rename_i hpl
 rw [if_neg hpl] at hsegs
 simp only at hsegs
 split
 ·rename_i hr
  have hne:l≠[]:=by rintro rfl;cases hr
  obtain ⟨l0,t,rfl⟩:=z35 hne
  rw [zep]
  split
  ·rename_i he
   simp only
   rw [z89 he];exact h
  ·rename_i he
   have he:=Decidable.not_not.1 he
   simp only
   rw [z3i]
   obtain ⟨h1,k,h2,h3⟩:=h.2 l0 t rfl
   obtain ⟨-,-,-,-,-,-,h7⟩:=z9f hc.ok he
   obtain ⟨f1,f2,f3,f4⟩:=hc.segs.front
   have hn:=h.1
   rw [z2m,List.length_append] at hn
   refine ⟨by rw [z2m,List.length_append];simp only [SegA.add,List.length_append];omega,λl0' t' e'=>?_⟩
   obtain ⟨rfl,rfl⟩:=zb6 e'
   refine ⟨λs hs=>?_,k,?_,λj j1 j2 j3=>?_⟩
   ·rw [h7,if_neg (z6q (f1.mem s hs).1 f2 (by have:=(f4 s hs).2;omega))]
    exact h1 s hs
   ·show z04 _ (zl pre t.base zv)=_
    rw [h7,if_pos rfl,h2,z6j]
    rfl
   ·have hj:j<=t.bs.length:=by omega
    have e:(t.add (zx (zq (l0++[t])) bs).2).cut j=t.cut j:=by
     unfold SegA.cut SegA.add
     simp only
     rw [List.take_append_of_le_length hj]
    rw [e]
    exact h3 j j1 hj j3
 ·rename_i hr
  obtain ⟨hs1,hs2⟩:=h.sync hc
  split
  ·exact hs1
  rename_i hse
  have hse:=Decidable.not_not.1 hse
  split
  ·rename_i he
   simp only
   rw [z89 he];exact hs1
  ·rename_i he
   have he:=Decidable.not_not.1 he
   rw [if_neg hr] at hsegs
   simp only
   obtain ⟨hs3,hs4⟩:=hs2 hse
   rw [<- zeh] at he ⊢
   exact hs1.begin (s:=SegA.add ⟨zq l,0,[]⟩ (zx (zq l) bs).2) (z7z hc).1 hsegs hs4 he
structure CutP (pre:ByteArray) (l0:List SegA) (t:SegA) (k:Nat) (D:DiskA):Prop where
 ok:okA D
 segs:z0b 0 (l0++[t])
 old:∀ s ∈ l0,z04 D.fs (zl pre s.base zv)=some (s.file,s.file.length)
 last:z04 D.fs (zl pre t.base zv)=some (t.file.take k,k)
 le:k<=t.file.length
 only:∀ n,(z04 D.fs n).isSome=true->(bl (z15 pre)).isPrefixOf (bl n)=true->∃ s ∈ l0++[t],n=zl pre s.base zv
theorem CutP.fs {pre:ByteArray} {l0:List SegA} {t:SegA} {k:Nat} {D D':DiskA} (h:CutP pre l0 t k D) (hok:okA D') (e:D'.fs=D.fs):CutP pre l0 t k D' :=
 ⟨hok,h.segs,by rw [e];exact h.old,by rw [e];exact h.last,h.le,by rw [e];exact h.only⟩
theorem zwy {pre:ByteArray} {l:List SegA} {D:DiskA} (hok:okA D) (hsegs:z0b 0 l) (hex:∀ s ∈ l,(z04 D.fs (zl pre s.base zv)).isSome=true) (only:∀ n,(z04 D.fs n).isSome=true->(bl (z15 pre)).isPrefixOf (bl n)=true->∃ s ∈ l,n=zl pre s.base zv):z0w (z15 pre) D.fs=l.map λs=>zl pre s.base zv:=by
 refine zcn (zcc hok _) (z9z pre hsegs) λn=>?_
 rw [zhz]
 constructor
 ·rintro ⟨h1,h2⟩
  obtain ⟨s,hs,rfl⟩:=only n h1 h2
  exact List.mem_map.2 ⟨s,hs,rfl⟩
 ·intro hn
  obtain ⟨s,hs,rfl⟩:=List.mem_map.1 hn
  exact ⟨hex s hs,z48 pre s.base zv⟩
theorem zha {l1 l:List SegA} {s:SegA} (hok:z0b 0 (l1++s::l)):¬ s.base<zq l1:=by
 have hs:SegOk s:=(hok.mem s (by simp)).1
 have:=hs.base
 by_cases h0:l1=[]
 ·subst h0;show ¬ s.base<0;omega
 ·obtain ⟨l0,t,rfl⟩:=z35 h0
  rw [z2x]
  have h1:=hok.skip l0.length (l0.length+1) (by simp) (by omega)
  have e1:(l0++[t]++s::l)[l0.length]'(by simp)=t:=by simp
  have e2:(l0++[t]++s::l)[l0.length+1]'(by simp)=s:=by
   rw [List.getElem_append_right (by simp)];simp
  rw [e1,e2] at h1
  omega
theorem zi3 {pre:ByteArray} {D:DiskA} {rest:List Int}:∀ {l l1:List SegA},z0b 0 (l1++l)->(∀ s ∈ l,∃ k,z04 D.fs (zl pre s.base zv)=some (s.file,k))->z1x pre (l.map SegA.base++rest) l1 D=z1x pre rest (l1++l) D
 | [],l1,_,_=>by simp
 | s::l,l1,hok,hh=>by
  rw [List.map_cons,List.cons_append]
  have hok2:z0b 0 ((l1++[s])++l):=by rwa [List.append_assoc]
  have hs:SegOk s:=(hok.mem s (by simp)).1
  obtain ⟨k,hk⟩:=hh s (List.mem_cons_self ..)
  have hsc:z1i pre l1 D s.base=((true,0),l1++[s],D):=by
   unfold z1i
   rw [hk]
   simp only
   rw [zic hs]
   simp only
   rw [if_pos trivial]
  have e:z1x pre (s.base::(l.map SegA.base++rest)) l1 D=z1x pre (l.map SegA.base++rest) (l1++[s]) D:=by
   rw [z1x]
   rw [if_neg (zha hok),hsc,if_neg (by simp),if_pos rfl]
  rw [e,zi3 hok2 λt ht=>hh t (List.mem_cons_of_mem _ ht),List.append_assoc]
  rfl
theorem zdp {g:FileA->FileA} (hg:∀ f,(g f).b.length<=f.b.length):∀ fs:List FileA,used (fs.map g)<=used fs
 | []=>Nat.le_refl _
 | f::fs=>by
  have:=zdp hg fs
  have:=hg f
  rw [List.map_cons,z1d,z1d]
  omega
theorem zwd (A:DiskA) (n:ByteArray) (k:Int):used (cutA' A n k).2.fs<=used A.fs:=by
 unfold cutA'
 split
 ·exact Nat.le_refl _
 split
 ·exact Nat.le_refl _
 split
 ·exact Nat.le_refl _
 ·show used (z27 _).fs<=_
  rw [z36]
  refine zdp (λf=>?_) _
  unfold z1k
  split
  ·show (f.b.take _).length<=_;rw [List.length_take];omega
  ·exact Nat.le_refl _
theorem zwc {D:DiskA} (h:Calm D) (n:ByteArray) (k:Int):Calm (cutA' D n k).2:=by
 unfold cutA'
 split
 ·exact h
 split
 ·exact h
 split
 ·exact h
 ·show Calm (z27 _)
  rw [z9h (by exact h.left)]
  exact ⟨h.gone,h.left⟩
theorem zvf {t:SegA} (ht:SegOk t) (j:Nat):(t.cut j).reach<=t.reach:=by
 unfold SegA.reach SegA.cut
 simp only
 have h:z0a (t.bs.take j)<=max (max t.base t.fin) (z0a t.bs):=by
  by_cases h0:t.bs.take j=[]
  ·rw [h0];have:=ht.base;show (0:Int)<=_;omega
  ·obtain ⟨l,b,hb⟩:=z35 h0
   rw [hb,z3c]
   have hm:b ∈ t.bs:=List.mem_of_mem_take (by rw [hb];simp)
   have:=ht.bs.le_next hm
   omega
 omega
structure OpnP (pre:ByteArray) (l:List SegA) (n:Nat) (D:DiskA) (l1:List SegA) (D3:DiskA):Prop where
 cpl:Cpl pre l1 D3
 room:D3.room=D.room
 used:used D3.fs<=used D.fs
 len:D3.fs.length<=D.fs.length
 calm:Calm D->Calm D3
 sure:n<=(z06 l1).length
 le:(z06 l1).length<=(z06 l).length
 part:z06 l1=(z06 l).take (z06 l1).length
 next:zq l1<=zq l
theorem z0b.cutLast {n:Int} {l0:List SegA} {t:SegA} (h:z0b n (l0++[t])) (j:Nat):z0b n (l0++[t.cut j]):=by
 obtain ⟨h1,h2,h3,h4⟩:=h.front
 exact h1.snoc (h2.cut j) h3 h4
theorem CutP.opened {pre:ByteArray} {l0:List SegA} {t:SegA} {k n:Nat} {D:DiskA} (h:CutP pre l0 t k D) (hg:D.gone=false) (hn0:n<=(z06 (l0++[t])).length) (hn:∀ j,1<=j->j<=t.bs.length->(z06 l0).length+j<=n->(t.cut j).file.length<=k) :
  ∃ l1 D3,z45 pre D=(0,l1,D3)/\OpnP pre (l0++[t]) n D l1 D3:=by
 have hex:∀ s ∈ l0++[t],(z04 D.fs (zl pre s.base zv)).isSome=true:=λs hs=>by
  rcases List.mem_append.1 hs with hs|hs
  ·rw [h.old s hs];rfl
  ·simp only [List.mem_cons,List.not_mem_nil,or_false] at hs
   subst hs;rw [h.last];rfl
 have hnm:=zwy h.ok h.segs hex h.only
 obtain ⟨f1,f2,f3,f4⟩:=h.segs.front
 have hstart:z45 pre D=z1x pre [t.base] l0 D:=by
  unfold z45
  rw [hnm,zas pre D λs hs=>(h.segs.mem s hs).1,if_neg (by simp)]
  simp only
  rw [List.map_append]
  have:=zi3 (pre:=pre) (D:=D) (rest:=[t].map SegA.base) (l:=l0) (l1:=[]) f1 λs hs=>⟨_,h.old s hs⟩
  rw [this]
  rfl
 rw [hstart]
 rw [z2m,List.length_append] at hn0
 have hne:∀ s ∈ l0,zl pre s.base zv≠zl pre t.base zv:=λs hs=>z6q (f1.mem s hs).1 f2 (by have:=(f4 s hs).2;omega)
 have hb:=zha (l:=[]) h.segs
 have hisS:(z04 D.fs (zl pre t.base zv)).isSome=true:=by rw [h.last];rfl
 rcases zxu f2 k with ⟨c1,c2⟩|⟨j,c1,c2,c3,c4⟩
 ·have hsc:z1i pre l0 D t.base=((false,(z0y D (zl pre t.base zv)).1),l0,(z0y D (zl pre t.base zv)).2):=by
   unfold z1i
   rw [h.last]
   simp only
   rw [c2]
  have hr:(z0y D (zl pre t.base zv)).1=0:=by
   rcases zvi hisS with ⟨r1,-⟩|⟨-,r2,-⟩
   ·exact r1
   ·rw [hg] at r2;cases r2
  refine ⟨l0,(z0y D (zl pre t.base zv)).2,?_,?_⟩
  ·rw [z1x,if_neg hb,hsc,hr]
   rfl
  ·obtain ⟨-,r1,r2,r3,r4,-,r6⟩:=z03u h.ok hr
   have hnl:n<=(z06 l0).length:=by
    apply Nat.le_of_not_lt
    intro hlt
    have h1:=hn 1 (Nat.le_refl _) (by omega) (by omega)
    rw [z2d] at h1
    have:(shL (t.cut 1).base (t.cut 1).fin).length=(shL t.base t.fin).length:=rfl
    omega
   refine ⟨⟨r1,f1,λs hs=>⟨s.file.length,?_⟩,λm hm hp=>?_⟩,r2,r3,r4,λhc=>zxo hc _,hnl,?_,?_,?_⟩
   ·rw [r6,if_neg (hne s hs)];exact h.old s hs
   ·rw [r6] at hm
    by_cases hmt:m=zl pre t.base zv
    ·rw [if_pos hmt] at hm;cases hm
    ·rw [if_neg hmt] at hm
     obtain ⟨s,hs,rfl⟩:=h.only m hm hp
     rcases List.mem_append.1 hs with hs|hs
     ·exact ⟨s,hs,rfl⟩
     ·simp only [List.mem_cons,List.not_mem_nil,or_false] at hs
      subst hs;exact absurd rfl hmt
   ·rw [z2m,List.length_append];omega
   ·rw [z2m,List.take_left]
   ·rw [z2x]
    have:=(z50 f2).1
    omega
 ·have hprefix:z06 (l0++[t.cut j])=(z06 (l0++[t])).take (z06 (l0++[t.cut j])).length/\(z06 (l0++[t.cut j])).length=(z06 l0).length+j:=by
   have e:(t.cut j).bs=t.bs.take j:=rfl
   rw [z2m,z2m,e,List.length_append,List.length_take,Nat.min_eq_left c1,List.take_append,List.take_of_length_le (Nat.le_add_right _ _),Nat.add_sub_cancel_left]
   exact ⟨rfl,rfl⟩
  have hnl:n<=(z06 (l0++[t.cut j])).length:=by
   rw [hprefix.2]
   apply Nat.le_of_not_lt
   intro hlt
   have h1:=hn (n-(z06 l0).length) (by omega) (by omega) (by omega)
   have h2:=c4 (n-(z06 l0).length) (by omega) h1
   omega
  have hle:(z06 (l0++[t.cut j])).length<=(z06 (l0++[t])).length:=by rw [hprefix.2,z2m,List.length_append];omega
  have hnx:zq (l0++[t.cut j])<=zq (l0++[t]):=by rw [z2x,z2x];exact zvf f2 j
  have hkl:(t.file.take k).length=k:=by rw [List.length_take,Nat.min_eq_left h.le]
  have hraw:=(zkw c3).2.2.1
  by_cases hk:(t.cut j).file.length=k
  ·have hsc:z1i pre l0 D t.base=((true,0),l0++[t.cut j],D):=by
    unfold z1i
    rw [h.last]
    simp only
    rw [c3]
    simp only
    rw [if_pos (by rw [hkl];exact hk)]
   refine ⟨l0++[t.cut j],D,?_,?_⟩
   ·rw [z1x,if_neg hb,hsc,if_neg (by simp),if_pos rfl]
    rfl
   ·refine ⟨⟨h.ok,h.segs.cutLast j,λs hs=>?_,λm hm hp=>?_⟩,rfl,Nat.le_refl _,Nat.le_refl _,id,hnl,hle,hprefix.1,hnx⟩
    ·rcases List.mem_append.1 hs with hs|hs
     ·exact ⟨_,h.old s hs⟩
     ·simp only [List.mem_cons,List.not_mem_nil,or_false] at hs
      subst hs
      refine ⟨k,?_⟩
      show z04 D.fs (zl pre t.base zv)=_
      rw [h.last,<- hraw,hk,List.take_take,Nat.min_self]
    ·obtain ⟨s,hs,rfl⟩:=h.only m hm hp
     rcases List.mem_append.1 hs with hs|hs
     ·exact ⟨s,by simp [hs],rfl⟩
     ·simp only [List.mem_cons,List.not_mem_nil,or_false] at hs
      subst hs;exact ⟨s.cut j,by simp,rfl⟩
  ·have hsc:z1i pre l0 D t.base=((false,(cutA' D (zl pre t.base zv) ((t.cut j).file.length:Nat)).1),l0++[t.cut j],(cutA' D (zl pre t.base zv) ((t.cut j).file.length:Nat)).2):=by
    unfold z1i
    rw [h.last]
    simp only
    rw [c3]
    simp only
    rw [if_neg (by rw [hkl];exact hk)]
   have hr:(cutA' D (zl pre t.base zv) ((t.cut j).file.length:Nat)).1=0:=by
    rcases zu5 (A:=D) (k:=((t.cut j).file.length:Nat)) h.last (by rw [hkl];omega) with ⟨r1,-⟩|⟨-,r2,-⟩
    ·exact r1
    ·rw [hg] at r2;cases r2
   refine ⟨l0++[t.cut j],(cutA' D (zl pre t.base zv) ((t.cut j).file.length:Nat)).2,?_,?_⟩
   ·rw [z1x,if_neg hb,hsc,hr]
    rfl
   ·obtain ⟨-,r1,r2,r3,r4⟩:=z02x h.ok hr
    refine ⟨⟨r1,h.segs.cutLast j,λs hs=>?_,λm hm hp=>?_⟩,r2,zwd _ _ _,by omega,λhc=>zwc hc _ _,hnl,hle,hprefix.1,hnx⟩
    ·rcases List.mem_append.1 hs with hs|hs
     ·rw [r4,if_neg (hne s hs)];exact ⟨_,h.old s hs⟩
     ·simp only [List.mem_cons,List.not_mem_nil,or_false] at hs
      subst hs
      refine ⟨min k (t.cut j).file.length,?_⟩
      show z04 _ (zl pre t.base zv)=_
      rw [r4,if_pos rfl,h.last]
      show some ((t.file.take k).take _,_)=_
      rw [Int.toNat_natCast,hraw]
    ·rw [r4] at hm
     have hm2:(z04 D.fs m).isSome=true:=by
      by_cases hmt:m=zl pre t.base zv
      ·rw [hmt];exact hisS
      ·rw [if_neg hmt] at hm;exact hm
     obtain ⟨s,hs,rfl⟩:=h.only m hm2 hp
     rcases List.mem_append.1 hs with hs|hs
     ·exact ⟨s,by simp [hs],rfl⟩
     ·simp only [List.mem_cons,List.not_mem_nil,or_false] at hs
      subst hs;exact ⟨s.cut j,by simp,rfl⟩
def CrP (pre:ByteArray) (l:List SegA) (n:Nat) (D:DiskA):Prop:=(l=[]/\n=0/\Cpl pre [] D)\/∃ l0 t k,l=l0++[t]/\n<=(z06 l).length/\CutP pre l0 t k D/\∀ j,1<=j->j<=t.bs.length->(z06 l0).length+j<=n->(t.cut j).file.length<=k
theorem CrP.ok {pre:ByteArray} {l:List SegA} {D:DiskA} {n:Nat} (h:CrP pre l n D):okA D:=by
 rcases h with ⟨h1,h2,h3⟩|⟨l0,t,k,h1,h2,h3,h4⟩
 ·exact h3.ok
 ·exact h3.ok
theorem CrP.opened {pre:ByteArray} {l:List SegA} {D:DiskA} {n:Nat} (h:CrP pre l n D) (hg:D.gone=false):∃ l1 D3,z45 pre D=(0,l1,D3)/\OpnP pre l n D l1 D3:=by
 rcases h with ⟨rfl,rfl,h3⟩|⟨l0,t,k,rfl,h2,h3,h4⟩
 ·exact ⟨[],D,h3.opened,h3,rfl,Nat.le_refl _,Nat.le_refl _,id,Nat.zero_le _,Nat.le_refl _,rfl,Int.le_refl _⟩
 ·exact h3.opened hg h2 h4
theorem zg8:∀ {n:Int} {l:List SegA},0<=n->z0b n l->z1g n (z06 l)
 | _,[],_,_=>trivial
 | n,s::l,hn,⟨h1,h2,h3⟩=>by
  have e1:z06 (s::l)=s.bs++z06 l:=by simp [z06]
  have hr:=z50 h2
  have hb:=h2.base
  rw [e1]
  refine z1g.append hn (h2.bs.mono h1) ((zg8 (by omega) h3).mono ?_)
  omega
section
variable {w:World} {l r:List HP} {lg d:Nat} {D:DiskA} {A:LogA}
theorem z02u (b:BatM) (x:Sl) {r1:List HP} [hf:Fo l lgP lg A r1] [hf2:Fo r1 dk A.d D r] (hlen:A.l.length<=1000000) (hok:z0b 0 A.l) (hfl:∀ s ∈ A.l,s.file.length<=500000000)
  (hx:FocR r x 7 ([b].flatMap zo)) (hb:FocR r b.x 4 (b.rs.flatMap z00)) (hs:Sat w l) :
  Ret P F.a103 #[.pointer (some ⟨lg,0,none⟩),x.v] w λvs w'=>vs=[.int .i64 (z0u A.pre A.seg A.l D [b]).1.1,.int .i64 (z0u A.pre A.seg A.l D [b]).1.2] /\
   Sat w' (lgP lg (A.set (z0u A.pre A.seg A.l D [b]).2.1)::dk A.d (z0u A.pre A.seg A.l D [b]).2.2::r) :=
 zuo x [b] hlen hok hfl (by show 1<=900;omega) hx (λc hc=>by
  simp only [List.mem_cons,List.not_mem_nil,or_false] at hc
  subst hc
  exact hb) hs
theorem nil_append (x:Sl) (hs:Sat w l):Ret P F.a103 #[.pointer none,x.v] w λvs w'=>vs=[.int .i64 0,.int .i64 1]/\Sat w' l :=
 zdr _ x <| by
  delta zrv AA AB AC AD AE AF AI AL AN AR AW Aa Ac Ad Ae Ah Ai Ak Am An Ao Aq Aw Ax Ay Az Bg Bj Bp Br
  refine z0q ?_ (by rfl)
  exact ⟨rfl,rfl,hs⟩
end
section
variable {w:World} {l r:List HP}
theorem zcv {seg gap:Int} {l:List HP}:okR ⟨seg,gap,[]⟩ l:=⟨trivial,(λb hb=>by cases hb),by show 0<=1000000;omega,by show 0<=1000000;omega⟩
theorem z03x {a:Nat} {seg gap:Int} (hs:Sat w (pt a (.cells #[.int .i64 seg,.int .i64 gap,.slice none 0 0] T.a53)::l)):Sat w (rfP a ⟨seg,gap,[]⟩::l):=by
 have h1:Sat w (slc T.a54 3 ⟨none,0,0⟩ (([]:List SegR).flatMap z40)::HP.all (([]:List SegR).map zcl)::pt a (.cells #[.int .i64 seg,.int .i64 gap,.slice none 0 0] T.a53)::l):=(Sat.all_nil hs).slc_nil
 exact z7i ⟨seg,gap,[]⟩ (z:=⟨none,0,0⟩) (h1.pick [2])
end
def InP (pool:List BatM) (R:RefM):Prop:=∀ b ∈ R.bs,∃ c ∈ pool,b.x=c.x/\b.rs=c.rs
structure Grw (pre:ByteArray) (D:DiskA) (l':List SegA) (D':DiskA):Prop where
 cpl:Cpl pre l' D'
 fr:Fr pre D D'
 calm:Calm D'
 used:used D'.fs<=used D.fs+705
 len:D'.fs.length<=D.fs.length+1
theorem InP.rd {pool:List BatM} {R:RefM} {l:List HP} (h:InP pool R):∀ b ∈ R.bs,FocR (z1l pool::l) b.x 4 (b.rs.flatMap z00):=λb hb=>by
 obtain ⟨c,hc,e1,e2⟩:=h b hb
 rw [e1,e2]
 exact zcs hc
theorem InP.more {pool:List BatM} {R:RefM} (h:InP pool R) (x:BatM):InP (pool++[x]) R:=λb hb=>by
 obtain ⟨c,hc,e⟩:=h b hb
 exact ⟨c,List.mem_append_left _ hc,e⟩
theorem InP.app {pool:List BatM} {R R':RefM} {b0:BatM} {z:Sl} (h:InP pool R) (hR:∀ b ∈ R'.bs,b ∈ R.bs\/(b.x=z/\b.rs=(z0e b0).rs)):InP (pool++[(z0e b0).at z]) R':=λb hb=>by
 rcases hR b hb with h1|⟨h1,h2⟩
 ·exact h.more _ b h1
 ·exact ⟨(z0e b0).at z,by simp,h1,h2⟩
abbrev qP:ByteArray:=ByteArray.mk #[113]
abbrev qqP:ByteArray:=ByteArray.mk #[113,113]
theorem zcx:z30 qP=true:=by kernel_rfl
theorem zvd:z30 qqP=true:=by kernel_rfl
theorem z03t:qP≠qqP:=λh=>by have:=congrArg ByteArray.size h;cases this
structure ApP (s:Int) (k:Nat) (D:DiskA) (R S:RefM) (pool:List BatM):Prop where
 rs:R.seg=s
 ss:S.seg=s
 c1:Cpl qP R.l D
 c2:Cpl qqP S.l D
 calm:Calm D
 room:D.room=1048576
 used:used D.fs<=705*k
 len:D.fs.length<=k
 in1:InP pool R
 in2:InP pool S
theorem ApP.left {s:Int} {k:Nat} {D D':DiskA} {R R' S:RefM} {pool:List BatM} {b0:BatM} {z:Sl} (h:ApP s k D R S pool) (hg:Grw qP D R'.l D') (h1:R'.seg=R.seg) (hR:∀ b ∈ R'.bs,b ∈ R.bs\/(b.x=z/\b.rs=(z0e b0).rs)):ApP s (k+1) D' R' S (pool++[(z0e b0).at z]) :=
 ⟨h1.trans h.rs,h.ss,hg.cpl,h.c2.frame hg.cpl.ok zcx zvd z03t hg.fr,hg.calm,hg.fr.room.trans h.room,by have:=hg.used;have:=h.used;omega,by have:=hg.len;have:=h.len;omega,h.in1.app hR,h.in2.more _⟩
theorem ApP.right {s:Int} {k:Nat} {D D':DiskA} {R S S':RefM} {pool:List BatM} {b0:BatM} {z:Sl} (h:ApP s k D R S pool) (hg:Grw qqP D S'.l D') (h1:S'.seg=S.seg) (hR:∀ b ∈ S'.bs,b ∈ S.bs\/(b.x=z/\b.rs=(z0e b0).rs)):ApP s (k+1) D' R S' (pool++[(z0e b0).at z]) :=
 ⟨h.rs,h1.trans h.ss,h.c1.frame hg.cpl.ok zvd zcx z03t.symm hg.fr,hg.cpl,hg.calm,hg.fr.room.trans h.room,by have:=hg.used;have:=h.used;omega,by have:=hg.len;have:=h.len;omega,h.in1.more _,h.in2.app hR⟩
theorem ApP.free {s:Int} {k:Nat} {D:DiskA} {R S:RefM} {pool:List BatM} (h:ApP s k D R S pool) (hk:k<=100):705<=D.free:=by
 have:=h.used
 have:=h.room
 unfold DiskA.free
 omega
def zqg (b:Bool):List Value:=[.bool b]
instance:Enc1 zqg .bool (λb=>b):=⟨λ_=>rfl⟩
instance:EncN zqg 1:=⟨λ_=>rfl,by decide,by simp [zqg,Value.oneCell']⟩
section
variable {w:World} {l r:List HP} {lg a:Nat} {A:LogA} {D:DiskA} {R:RefM}
theorem zwv {r1:List HP} [hf:Fo l lgP lg A r1] [hf2:Fo r1 dk A.d D r] (hlen:A.l.length<=1000000000) (hok:z0b 0 A.l) (hs:Sat w l) :
  Ret P F.a109 #[.pointer (some ⟨lg,0,none⟩)] w λvs w'=>vs=[.int .i64 (z0j A.pre A.l D).1]/\Sat w' (lgP lg A::dk A.d (z0j A.pre A.l D).2::r):=by
 have hs:=hs.perm (hf.perm.trans (.cons _ hf2.perm))
 clear hf hf2
 obtain ⟨M,rfl,hs⟩:=z7a hs
 have hll:M.l.length=M.SM.length:=List.length_map ..
 have hMl:M.A.l=M.l:=rfl
 rw [hMl] at hlen hok
 have hs:Sat w (lgQ lg M::dk M.d D::r):=hs
 refine (zp0 (lg:=lg) (M:=M) (D:=D) (by omega) hok hs).mono λvs w' h=>?_
 obtain ⟨h1,h2⟩:=h
 exact ⟨h1,z43 M h2⟩
structure FilI (s:Int) (k:Nat) (D:DiskA) (l:List SegA) (R:RefM) (pool:List BatM) (n:Nat) (C:Prop):Prop where
 cpl:Cpl qP l D
 syn:z84 qP l D n
 rseg:R.seg=4194304
 segs:z0b 0 R.l
 srl:R.SR.length<=k
 brl:R.bs.length<=k
 all:R.bs.map BatM.p=z06 l
 next:zq R.l=zq l
 rep:l=z90 s (z06 l)
 room:D.room=1048576
 used:used D.fs<=705*k
 len:D.fs.length<=k
 in1:InP pool R
 calm:C->Calm D
structure FilE (s:Int) (D:DiskA) (l:List SegA) (outs pool:List BatM) (n:Nat) (C:Prop):Prop where
 cpl:Cpl qP l D
 syn:z84 qP l D n
 told:outs.map BatM.p=z06 l\/(D.gone=true/\∃ b,outs.map BatM.p=z06 l++[b])
 rep:l=z90 s (z06 l)
 room:D.room=1048576
 used:used D.fs<=14805
 len:D.fs.length<=21
 num:outs.length<=21
 in1:∀ b ∈ outs,∃ c ∈ pool,b.x=c.x/\b.rs=c.rs
 calm:C->Calm D/\outs.map BatM.p=z06 l
theorem FilI.free {s:Int} {k n:Nat} {l:List SegA} {pool:List BatM} {C:Prop} (h:FilI s k D l R pool n C) (hk:k<=100):705<=D.free:=by
 have:=h.used
 have:=h.room
 unfold DiskA.free
 omega
theorem FilI.done {s:Int} {k n:Nat} {l:List SegA} {pool:List BatM} {C:Prop} (h:FilI s k D l R pool n C) (hk:k<=20):FilE s D l R.bs pool n C :=
 ⟨h.cpl,h.syn,.inl h.all,h.rep,h.room,by have:=h.used;omega,by have:=h.len;omega,by have:=h.brl;omega,h.in1,λc=>⟨h.calm c,h.all⟩⟩
theorem FilI.step {s:Int} {k n:Nat} {l:List SegA} {pool:List BatM} {C:Prop} {R':RefM} {b0:BatM} {z z':Sl} (h:FilI s k D l R pool n C) (hk:k<=100)
  (h1:(z0u qP s l D [(z0e b0).at z]).1=(z1b s l [(z0e b0).at z]).1) (h2:(z0u qP s l D [(z0e b0).at z]).2.1=(z1b s l [(z0e b0).at z]).2)
  (r1:R'.seg=R.seg) (r2:R'.l=(z1b R.seg R.l [(z0e b0).at z']).2) (r3:R'.SR.length<=R.SR.length+1) (r4:R'.bs.length<=R.bs.length+1) (r5:∀ b ∈ R'.bs,b ∈ R.bs\/(b.x=z'/\b.rs=(z0e b0).rs)) :
  FilI s (k+1) (z0u qP s l D [(z0e b0).at z]).2.2 (z0u qP s l D [(z0e b0).at z]).2.1 R' (pool++[(z0e b0).at z']) n C:=by
 have hst:=ze5 s [(z0e b0).at z] zcx h.cpl
 have hsy:=h.syn.app (seg:=s) (bs:=[(z0e b0).at z]) zcx h.cpl
 have hsum:=zxz (seg:=s) (l:=l) (bs:=[(z0e b0).at z])
 have hsm:=zlq b0 z (zq l)
 have hsl:=zgy (zq l) 0
 have hR:R'.bs.map BatM.p=z06 R'.l:=by rw [zem]
 have hRR:R.bs.map BatM.p=z06 R.l:=by rw [zem]
 have hrall:z06 R.l=z06 l:=hRR.symm.trans h.all
 have er:z1b R.seg R.l [(z0e b0).at z']=z1b R.seg R.l [(z0e b0).at z]:=zrb _ _ _ _ _
 rw [er] at r2
 have hsegR:z0b 0 R'.l:=by rw [r2];exact z9o h.segs
 have hallN:z06 R'.l=z06 (z1b s l [(z0e b0).at z]).2/\zq R'.l=zq (z1b s l [(z0e b0).at z]).2/\(z1b s l [(z0e b0).at z]).2=z90 s (z06 (z1b s l [(z0e b0).at z]).2):=by
  by_cases hp:(zx (zq l) [(z0e b0).at z]).1=0
  ·obtain ⟨g1,g2⟩:=zec (seg:=s) h.cpl.segs (by simp) hp
   obtain ⟨g3,g4⟩:=zec (seg:=R.seg) (bs:=[(z0e b0).at z]) h.segs (by simp) (by rw [h.next];exact hp)
   rw [h.next] at g3 g4
   rw [r2]
   refine ⟨by rw [g1,g3,hrall],by rw [g2,g4],?_⟩
   rw [g1,zi6 _ _ hp]
   show _=z90 s (z06 l++[(((z0e b0).at z).to (zq l)).p])
   rw [zls,<- h.rep,z022]
  ·obtain ⟨g1,-⟩:=zed (seg:=s) (l:=l) (bs:=[(z0e b0).at z]) (.inr hp)
   obtain ⟨g3,-⟩:=zed (seg:=R.seg) (l:=R.l) (bs:=[(z0e b0).at z]) (.inr (by rw [h.next];exact hp))
   rw [r2,g1,g3]
   exact ⟨hrall,h.next,h.rep⟩
 rw [h2] at hst hsy ⊢
 have hu:=hst.2.2.1
 have hl:=hst.2.2.2.1
 have hll:(z1b s l [(z0e b0).at z]).2.length<=l.length+1:=by
  unfold z1b
  split
  ·simp
  split
  ·simp
  ·simp only
   split
   ·rename_i hr
    have hne:l≠[]:=by rintro rfl;cases hr
    obtain ⟨l0,t,rfl⟩:=z35 hne
    rw [z3i];simp
   ·simp
 have hlen2:(z0u qP s l D [(z0e b0).at z]).2.2.fs.length<=D.fs.length+1:=by
  unfold z0u
  split
  ·simp only;omega
  split
  ·simp only;omega
  split
  ·split <;> exact z6y.1
  ·obtain ⟨-,-,-,s4,-⟩:=z7z h.cpl
   split
   ·simp only;omega
   split
   ·simp only
    have:=(z6y (A:=(z0j qP l D).2) (n:=zl qP (zq l) zv) (bs:=shL (zq l) 0++(zx (zq l) [(z0e b0).at z]).2.flatMap frL)).1
    omega
   ·simp only
    have:=(z6y (A:=(z0j qP l D).2) (n:=zl qP (zq l) zv) (bs:=shL (zq l) 0++(zx (zq l) [(z0e b0).at z]).2.flatMap frL)).1
    omega
 exact ⟨hst.1,hsy,r1.trans h.rseg,hsegR,by have:=h.srl;omega,by have:=h.brl;omega,by rw [hR];exact hallN.1,hallN.2.1,hallN.2.2,hst.2.1.room.trans h.room,by have:=h.used;omega,by have:=h.len;omega,h.in1.app r5,λc=>hst.2.2.2.2 (h.calm c)⟩
theorem FilI.fail {s:Int} {k n:Nat} {l:List SegA} {pool:List BatM} {C:Prop} {R':RefM} {b0:BatM} {z z':Sl} (h:FilI s k D l R pool n C) (hk:k<20)
  (h1:(z0u qP s l D [(z0e b0).at z]).2.1=l) (h2:(z0u qP s l D [(z0e b0).at z]).2.2.gone=true)
  (r2:R'.l=(z1b R.seg R.l [(z0e b0).at z']).2) (r4:R'.bs.length<=R.bs.length+1) (r5:∀ b ∈ R'.bs,b ∈ R.bs\/(b.x=z'/\b.rs=(z0e b0).rs)) :
  FilE s (z0u qP s l D [(z0e b0).at z]).2.2 l R'.bs (pool++[(z0e b0).at z']) n C:=by
 have hst:=ze5 s [(z0e b0).at z] zcx h.cpl
 have hsy:=h.syn.app (seg:=s) (bs:=[(z0e b0).at z]) zcx h.cpl
 rw [h1] at hst hsy
 have hR:R'.bs.map BatM.p=z06 R'.l:=by rw [zem]
 have hRR:R.bs.map BatM.p=z06 R.l:=by rw [zem]
 have hrall:z06 R.l=z06 l:=hRR.symm.trans h.all
 have hu:=hst.2.2.1
 have hl:=hst.2.2.2.1
 refine ⟨hst.1,hsy,?_,h.rep,hst.2.1.room.trans h.room,by have:=h.used;omega,by have:=h.len;omega,by have:=h.brl;omega,h.in1.app r5,λc=>?_⟩
 ·by_cases hp:(zx (zq R.l) [(z0e b0).at z']).1=0
  ·obtain ⟨g3,-⟩:=zec (seg:=R.seg) (bs:=[(z0e b0).at z']) h.segs (by simp) hp
   refine .inr ⟨h2,?_⟩
   rw [hR,r2,g3,zi6 _ _ hp,hrall]
   exact ⟨_,rfl⟩
  ·obtain ⟨g3,-⟩:=zed (seg:=R.seg) (l:=R.l) (bs:=[(z0e b0).at z']) (.inr hp)
   refine .inl ?_
   rw [hR,r2,g3,hrall]
 ·have:=(hst.2.2.2.2 (h.calm c)).gone
  rw [this] at h2;cases h2
set_option maxHeartbeats 1000000 in
end
abbrev cP (b:BatM) (k:Nat) (q:Int) (z:Sl):Array Value:=#[.int .i64 (b.base+(k:Int)),.int .i64 b.pid,.int .i64 b.epoch,.int .i64 q,.int .i64 b.kind,.int .i64 b.time,.slice z.a z.len z.cap]
def InB (pool bs:List BatM):Prop:=∀ b ∈ bs,∃ c ∈ pool,b.x=c.x/\b.rs=c.rs
theorem InB.rd {pool bs:List BatM} {l:List HP} (h:InB pool bs):∀ b ∈ bs,FocR (z1l pool::l) b.x 4 (b.rs.flatMap z00):=λb hb=>by
 obtain ⟨c,hc,e1,e2⟩:=h b hb
 rw [e1,e2]
 exact zcs hc
theorem InB.more {pool bs:List BatM} (h:InB pool bs) (q:List BatM):InB (pool++q) bs:=λb hb=>by
 obtain ⟨c,hc,e⟩:=h b hb
 exact ⟨c,List.mem_append_left _ hc,e⟩
theorem InB.app {pool a b:List BatM} (h1:InB pool a) (h2:InB pool b):InB pool (a++b):=λx hx=>by
 rcases List.mem_append.1 hx with hx|hx
 ·exact h1 x hx
 ·exact h2 x hx
section
variable {w:World} {l r:List HP} {lg:Nat} {A:LogA}
theorem zwt [hf:Fo l lgP lg A r] (hlen:A.l.length<=1000000000) (hs:Sat w l):Ret P F.a105 #[.pointer (some ⟨lg,0,none⟩)] w λvs w'=>vs=[.int .i64 (zq A.l)]/\Sat w' (lgP lg A::r):=by
 have hs:=hs.perm hf.perm
 clear hf
 obtain ⟨M,hM,hsn⟩:=z7a hs
 clear hs
 subst hM
 have hll:M.l.length=M.SM.length:=List.length_map ..
 have hMl:M.A.l=M.l:=rfl
 rw [hMl] at hlen
 refine (zab (lg:=lg) (M:=M) (by omega) hsn).mono λvs w' h=>?_
 obtain ⟨h1,h2⟩:=h
 exact ⟨h1,z43 M h2⟩
set_option maxHeartbeats 1000000 in
end
structure PartA where
 L:LogA
 most:Int
 T:TabA
 V:ViewA
def paP (p:Nat) (A:PartA):HP:=HP.ex λM:Nat × Nat × Nat=>HP.star (pt p (.cells #[.pointer (some ⟨M.1,0,none⟩),.pointer (some ⟨A.L.d,0,none⟩),.string A.L.pre,.int .i64 A.most,.pointer (some ⟨M.2.1,0,none⟩),.pointer (some ⟨M.2.2,0,none⟩)] T.a32))
 (HP.star (lgP M.1 A.L) (HP.star (tb M.2.1 A.T) (vw M.2.2 A.V)))
def z59 (A:PartA):Int:=if A.V.op.length=0 then zq A.L.l else max (z67 A.V) (z1t A.L.l)
section
variable {w:World} {l r r1 r2 r3 r4 l':List HP} {p lg t v:Nat} {A:PartA} {D:DiskA}
theorem z4n (hs:Sat w (paP p A::l)):∃ lg t v:Nat,Sat w (pt p (.cells #[.pointer (some ⟨lg,0,none⟩),.pointer (some ⟨A.L.d,0,none⟩),.string A.L.pre,.int .i64 A.most,.pointer (some ⟨t,0,none⟩),.pointer (some ⟨v,0,none⟩)] T.a32)::lgP lg A.L::tb t A.T::vw v A.V::l):=by
 obtain ⟨⟨lg,t,v⟩,hs⟩:=hs.ex
 have hs:=hs.star
 have hs:=(hs.pick [1]).star
 have hs:=(hs.pick [1]).star
 exact ⟨lg,t,v,hs.pick [3,2,0]⟩
theorem z06t (lg t v:Nat) (hs:Sat w (pt p (.cells #[.pointer (some ⟨lg,0,none⟩),.pointer (some ⟨A.L.d,0,none⟩),.string A.L.pre,.int .i64 A.most,.pointer (some ⟨t,0,none⟩),.pointer (some ⟨v,0,none⟩)] T.a32)::lgP lg A.L::tb t A.T::vw v A.V::l)):Sat w (paP p A::l):=by
 have h1:=(hs.pick [2,2]).star_mk
 have h2:=(h1.pick [2,0]).star_mk
 exact .ex_mk (lg,t,v) ((h2.pick [1]).star_mk)
theorem z2e (A:PartA) (hs:Sat w l) [h1:FocB l p (.cells [.pointer (some ⟨lg,0,none⟩),.pointer (some ⟨A.L.d,0,none⟩),.string A.L.pre,.int .i64 A.most,.pointer (some ⟨t,0,none⟩),.pointer (some ⟨v,0,none⟩)].toArray T.a32) r1] [h2:Fo r1 lgP lg A.L r2] [h3:Fo r2 tb t A.T r3] [h4:Fo r3 vw v A.V r4] [h5:Sub r4 l']:Sat w (paP p A::l'):=by
 have hs:=hs.perm (h1.perm.trans (.cons _ (h2.perm.trans (.cons _ (h3.perm.trans (.cons _ h4.perm))))))
 have hs:Sat w (paP p A::r4):=z06t lg t v hs
 exact hs.sub
theorem zgq [hf:Fo l paP p A r] (hlen:A.L.l.length<=1000000000) (hs:Sat w l):Ret P F.a73 #[.pointer (some ⟨p,0,none⟩)] w λvs w'=>vs=[.int .i64 (zq A.L.l)]/\Sat w' (paP p A::r) :=
 zt9 _ <| by
  delta z05v AI AJ Aa Ac Ah Ai Am Ax
  obtain ⟨lg,t,v,hs⟩:=z4n (hs.perm hf.perm)
  refine zw ?_ (by simp)
  refine zj ?_
  refine za hs ?_
  refine z8 (zwt (lg:=lg) (A:=A.L) hlen hs) λ_ w' hs=>?_
  obtain ⟨rfl,hs⟩:=hs
  refine zb ?_
  refine wp_lt ?_
  exact ⟨rfl,rfl,z2e A hs⟩
theorem zea [hf:Fo l paP p A r] (hs:Sat w l):Ret P F.a71 #[.pointer (some ⟨p,0,none⟩)] w λvs w'=>vs=[.int .i64 (z1t A.L.l)]/\Sat w' (paP p A::r) :=
 zt7 _ <| by
  delta z05t AI AJ Aa Ac Ah Ai Am Ax
  obtain ⟨lg,t,v,hs⟩:=z4n (hs.perm hf.perm)
  refine zw ?_ (by simp)
  refine zj ?_
  refine za hs ?_
  obtain ⟨M,hM,hsl⟩:=z7a (hs.pick [1])
  refine z8 (zgd (lg:=lg) hsl) λ_ w' hs=>?_
  obtain ⟨rfl,hs⟩:=hs
  refine zb ?_
  refine wp_lt ?_
  have hMl:M.l=A.L.l:=congrArg LogA.l hM
  have hs:=z43 M hs
  rw [hM] at hs
  rw [hMl]
  exact ⟨rfl,rfl,z2e A hs⟩
theorem zi8 [hf:Fo l paP p A r] (hlen:A.L.l.length<=1000000000) (hs:Sat w l):Ret P F.a75 #[.pointer (some ⟨p,0,none⟩)] w λvs w'=>vs=[.int .i64 (z59 A)]/\Sat w' (paP p A::r) :=
 ztb _ <| by
  delta z05x AB AI AJ Aa Ac Ah Ai Am Ax Az;unfold z59
  obtain ⟨lg,t,v,hs⟩:=z4n (hs.perm hf.perm)
  refine zw ?_ (by simp)
  refine zj ?_
  refine za hs ?_
  refine z8 (z01g (v:=v) (A:=A.V) hs) λ_ w' hs=>?_
  obtain ⟨z,rfl,hs⟩:=hs
  refine zb ?_
  have hz:=hs.slen z (xs:=A.V.op) (enc:=z2j)
  refine ze (λh=>?_) λh=>?_
  ·have h0:A.V.op.length=0:=by simpa [hz] using h
   rw [if_pos h0]
   have hs:Sat w' (paP p A::r):=z2e A hs
   refine z8 (zgq (p:=p) (A:=A) hlen hs) λ_ w' hs=>?_
   obtain ⟨rfl,hs⟩:=hs
   refine zb ?_
   refine wp_lt ?_
   exact ⟨rfl,rfl,hs⟩
  ·have h0:¬ A.V.op.length=0:=by simpa [hz] using h
   rw [if_neg h0]
   refine zj ?_
   refine za hs ?_
   refine z8 (zhu (v:=v) (A:=A.V) hs) λ_ w' hs=>?_
   obtain ⟨rfl,hs⟩:=hs
   refine zb ?_
   have hs:Sat w' (paP p A::r):=z2e A hs
   refine z8 (zea (p:=p) (A:=A) hs) λ_ w' hs=>?_
   obtain ⟨rfl,hs⟩:=hs
   refine zb ?_
   refine wp_lt ?_
   refine ⟨rfl,?_,hs⟩
   have e:(if z1t A.L.l>z67 A.V then z1t A.L.l else z67 A.V)=max (z67 A.V) (z1t A.L.l):=by split <;> omega
   rw [e]
end
def zbp (A:PartA) (b:BatM):VerA × Int:=if (z1q A.T b).2≠0\/(z1q A.T b).1.again=true then z1q A.T b else ((z1q A.T b).1,z7p A.V b)
def z56 (A:PartA) (b:BatM):PartA:=⟨A.L,A.most,(zj3 A.T b).2,(zj2 A.V b).2⟩
def PartA.log (A:PartA) (l:List SegA):PartA:=⟨A.L.set l,A.most,A.T,A.V⟩
def zq3 (A:PartA) (D:DiskA) (c:BatM):(Int × Bool × Int) × PartA × DiskA :=
 if (z0u A.L.pre A.L.seg A.L.l D [c]).1.2≠0 then ((0,false,(z0u A.L.pre A.L.seg A.L.l D [c]).1.2),A.log (z0u A.L.pre A.L.seg A.L.l D [c]).2.1,(z0u A.L.pre A.L.seg A.L.l D [c]).2.2) else
 if (z0j A.L.pre (z0u A.L.pre A.L.seg A.L.l D [c]).2.1 (z0u A.L.pre A.L.seg A.L.l D [c]).2.2).1≠0 then ((0,false,(z0j A.L.pre (z0u A.L.pre A.L.seg A.L.l D [c]).2.1 (z0u A.L.pre A.L.seg A.L.l D [c]).2.2).1),A.log (z0u A.L.pre A.L.seg A.L.l D [c]).2.1,(z0j A.L.pre (z0u A.L.pre A.L.seg A.L.l D [c]).2.1 (z0u A.L.pre A.L.seg A.L.l D [c]).2.2).2) else
 (((z0u A.L.pre A.L.seg A.L.l D [c]).1.1,false,0),z56 (A.log (z0u A.L.pre A.L.seg A.L.l D [c]).2.1) (c.to (z0u A.L.pre A.L.seg A.L.l D [c]).1.1),(z0j A.L.pre (z0u A.L.pre A.L.seg A.L.l D [c]).2.1 (z0u A.L.pre A.L.seg A.L.l D [c]).2.2).2)
def z12 (A:PartA) (D:DiskA) (b:BatM):(Int × Bool × Int) × PartA × DiskA :=
 if (zbp A (b.to (zq A.L.l))).2≠0\/(zbp A (b.to (zq A.L.l))).1.again=true then (((zbp A (b.to (zq A.L.l))).1.base,(zbp A (b.to (zq A.L.l))).1.again,(zbp A (b.to (zq A.L.l))).2),A,D)
 else zq3 A D (b.to (zq A.L.l))
instance {n k:Int} {b:Bool}:IsR (.tup [.one (.int .i64),.one .bool,.one (.int .i64)]) [.int .i64 n,.bool b,.int .i64 k] (n,b,k,()):=⟨rfl⟩
section
variable {w:World} {l r r1 r2 r3 r4 l':List HP} {p lg t v:Nat} {A:PartA} {D:DiskA}
theorem zpf (b:BatM) [hf:Fo l paP p A r] [hb:FocR r b.x 4 (b.rs.flatMap z00)] (hs:Sat w l):Ret P F.a80 #[.pointer (some ⟨p,0,none⟩),.agg (zo b).toArray] w λvs w'=>vs=[]/\Sat w' (paP p (z56 A b)::r) :=
 ztg _ b.base b.pid b.epoch b.seq b.kind b.time b.x <| by
  delta z062 AD AE AI AJ AL AN Ah Am Ap Ax
  obtain ⟨lg,t,v,hs⟩:=z4n (hs.perm hf.perm)
  refine zn hs λa0 w' hs=>?_
  refine zy hs λw' hs=>?_
  refine zj ?_
  refine za hs ?_
  refine zk hs ?_
  refine z8 (z02i (t:=t) (A:=A.T) b hs) λ_ _ hs=>?_
  obtain ⟨rfl,hs⟩:=hs
  refine zb ?_
  refine zd ?_
  refine zy hs λw' hs=>?_
  refine zj ?_
  refine za hs ?_
  refine zk hs ?_
  refine z8 (z01h (v:=v) (A:=A.V) b hs) λ_ _ hs=>?_
  obtain ⟨rfl,hs⟩:=hs
  refine zb ?_
  refine zd ?_
  exact ⟨rfl,rfl,z2e (lg:=lg) (t:=t) (v:=v) (z56 A b) hs⟩
theorem z01x (b:BatM) (hs:Sat w l):Ret P F.a83 #[.agg (zo b).toArray] w λvs w'=>vs=[.bool (z0g b)]/\Sat w' l :=
 ztj b.base b.pid b.epoch b.seq b.kind b.time b.x <| by
  delta z065 AD Al Am Ap Aq Ar
  refine zn hs λa0 w' hs=>?_
  refine za hs ?_
  refine za hs ?_
  refine wp_lt ?_
  refine ⟨rfl,?_,hs.tail⟩
  unfold z0g
  rfl
theorem z03q (b:BatM) [hf:Fo l paP p A r] [hb:FocR r b.x 4 (b.rs.flatMap z00)] (hs:Sat w l):Ret P F.a76 #[.pointer (some ⟨p,0,none⟩),.agg (zo b).toArray] w λvs w'=>vs=[.agg (zeu (zbp A b).1).toArray,.int .i64 (zbp A b).2]/\Sat w' (paP p A::r) :=
 ztc _ b.base b.pid b.epoch b.seq b.kind b.time b.x <| by
  delta z05y AD AE AI AJ AL AN AW Aa Ac Ad Ae Ah Ai Am Ap Av Ax Ba Bb Bc Bg Bq;unfold zbp
  obtain ⟨lg,t,v,hs⟩:=z4n (hs.perm hf.perm)
  refine zn hs λa0 w' hs=>?_
  refine zt hs λa1 w' hs=>?_
  refine zf (λq w'=>∃ a:Nat,q=(⟨a,0,none⟩,(z1q A.T b).2,())/\Sat w' (pt a (.cells #[.bool (z1q A.T b).1.again,.int .i64 (z1q A.T b).1.base] T.a6)::pt a1 (.cells #[.bool false,.int .i64 0] T.a6)::pt a0 (.cells #[.int .i64 b.base,.int .i64 b.pid,.int .i64 b.epoch,.int .i64 b.seq,.int .i64 b.kind,.int .i64 b.time,.slice b.x.a b.x.len b.x.cap] T.a0)::paP p A::r)) ?_ ?_
  ·refine zy hs λw' hs=>?_
   refine zj ?_
   refine z0x hs ?_
   refine zg0 hs ?_
   refine ⟨?_,?_⟩
   ·refine zd ?_
    refine z8 (zej (t:=t) (A:=A.T) b hs) λ_ _ hs=>?_
    obtain ⟨rfl,hs⟩:=hs
    refine zb ?_
    refine zt hs λa15 w' hs=>?_
    refine zu hs λw' hs=>?_
    refine wp_lt ?_
    refine zd ?_
    have hs:Sat w' (pt a15 (.cells #[.bool (z1q A.T b).1.again,.int .i64 (z1q A.T b).1.base] T.a6)::_):=hs
    refine zg ⟨a15,rfl,?_⟩
    have hs:Sat w' (paP p A::pt a15 (.cells #[.bool (z1q A.T b).1.again,.int .i64 (z1q A.T b).1.base] T.a6)::pt a1 (.cells #[.bool false,.int .i64 0] T.a6)::pt a0 (.cells #[.int .i64 b.base,.int .i64 b.pid,.int .i64 b.epoch,.int .i64 b.seq,.int .i64 b.kind,.int .i64 b.time,.slice b.x.a b.x.len b.x.cap] T.a0)::r):=z2e (lg:=lg) (t:=t) (v:=v) A hs
    exact hs.pick [1,1,1,0]
   ·refine zt hs λa17 w' hs=>?_
    refine zd ?_
    refine z8 (zej (t:=t) (A:=A.T) b hs) λ_ _ hs=>?_
    obtain ⟨rfl,hs⟩:=hs
    refine zb ?_
    refine zu hs λw' hs=>?_
    refine wp_lt ?_
    refine zd ?_
    refine zg ⟨a17,rfl,?_⟩
    have hs:Sat w' (paP p A::pt a17 (.cells #[.bool (z1q A.T b).1.again,.int .i64 (z1q A.T b).1.base] T.a6)::pt a1 (.cells #[.bool false,.int .i64 0] T.a6)::pt a0 (.cells #[.int .i64 b.base,.int .i64 b.pid,.int .i64 b.epoch,.int .i64 b.seq,.int .i64 b.kind,.int .i64 b.time,.slice b.x.a b.x.len b.x.cap] T.a0)::r):=z2e (lg:=lg) (t:=t) (v:=v) A hs
    exact hs.pick [1,1,1,0]
  clear hs
  rintro _ w ⟨a,rfl,hs⟩
  refine z2p _ _ ?_
  generalize z1q A.T b=j at *
  obtain ⟨v0,e⟩:=j
  simp only at hs ⊢
  refine za hs ?_
  refine ze (λh=>?_) λh=>?_
  ·rw [if_pos h]
   refine zk hs ?_
   refine zu hs λw' hs=>?_
   refine wp_lt ?_
   refine zk hs ?_
   exact ⟨rfl,rfl,hs.sub⟩
  rw [if_neg h]
  refine zf (λq w'=>q=(z7p A.V b,())/\Sat w' (pt a1 (.cells #[.bool v0.again,.int .i64 v0.base] T.a6)::paP p A::r)) ?_ ?_
  ·refine zy hs λw' hs=>?_
   refine zg0 hs ?_
   obtain ⟨lg,t,v,hs⟩:=z4n (hs.pick [3])
   refine zj ?_
   refine za hs ?_
   refine zk hs ?_
   refine z8 (zuk (v:=v) (A:=A.V) b hs) λ_ w' hs=>?_
   obtain ⟨rfl,hs⟩:=hs
   refine zb ?_ (by first|trivial|(repeat (first|exact trivial|exact λ_=>z08 hs|exact λ_=>z0i hs|refine And.intro ?_ ?_)))
   refine zd ?_
   refine zu hs λw' hs=>?_
   refine wp_lt ?_
   refine zd ?_
   refine zg ⟨rfl,?_⟩
   have hs:Sat w' (paP p A::pt a1 (.cells #[.bool v0.again,.int .i64 v0.base] T.a6)::r):=z2e (lg:=lg) (t:=t) (v:=v) A hs
   exact hs.pick [1]
  clear hs
  rintro _ w ⟨rfl,hs⟩
  refine zm ?_
  refine zk hs ?_
  exact ⟨rfl,rfl,hs.sub⟩
theorem zwq (pre:ByteArray) (seg:Int) (l:List SegA) (D:DiskA) (bs:List BatM):(z0u pre seg l D bs).2.1.length<=l.length+1:=by
 unfold z0u
 split
 ·exact Nat.le_succ _
 split
 ·exact Nat.le_succ _
 split
 ·split
  ·exact Nat.le_succ _
  ·unfold z4k
   split <;> simp
 split
 ·exact Nat.le_succ _
 split
 ·exact Nat.le_succ _
 ·simp
set_option maxHeartbeats 1000000 in
theorem zvc (b:BatM) {r1:List HP} [hf:Fo l paP p A r1] [hf2:Fo r1 dk A.L.d D r] (hb:FocR r b.x 4 (b.rs.flatMap z00)) (hlen:A.L.l.length<=100000) (hok:z0b 0 A.L.l) (hfl:∀ s ∈ A.L.l,s.file.length<=500000000) (hr:b.rs.length<=1000000) (hs:Sat w l) :
  Ret P F.a78 #[.pointer (some ⟨p,0,none⟩),.agg (zo b).toArray] w λvs w'=>vs=[.int .i64 (z12 A D b).1.1,.bool (z12 A D b).1.2.1,.int .i64 (z12 A D b).1.2.2]/\Sat w' (paP p (z12 A D b).2.1::dk A.L.d (z12 A D b).2.2::r) :=
 zte _ b.base b.pid b.epoch b.seq b.kind b.time b.x <| by
  delta z060 AD AE AG AI AJ AL AN AR AV AW Aa Ac Ad Ae Ah Ai Al Am Ao Ap Aq Ax Ba Bb Bc Bd Be Bf Bg;unfold z12
  have hs:=hs.perm (hf.perm.trans (.cons _ hf2.perm))
  clear hf hf2
  have hb':FocR r (b.to (zq A.L.l)).x 4 ((b.to (zq A.L.l)).rs.flatMap z00):=hb
  have hr':(b.to (zq A.L.l)).rs.length<=1000000:=hr
  refine zn hs λa0 w' hs=>?_
  refine z8 (zgq (p:=p) (A:=A) (by omega) hs) λ_ w' hs=>?_
  obtain ⟨rfl,hs⟩:=hs
  refine zb ?_
  refine z07 hs λw' hs=>?_
  have hs:Sat w' (pt a0 (.cells (zo (b.to (zq A.L.l))).toArray T.a0)::paP p A::dk A.L.d D::r):=hs
  generalize b.to (zq A.L.l)=c at *
  have hs:Sat w' (pt a0 (.cells #[.int .i64 c.base,.int .i64 c.pid,.int .i64 c.epoch,.int .i64 c.seq,.int .i64 c.kind,.int .i64 c.time,.slice c.x.a c.x.len c.x.cap] T.a0)::paP p A::dk A.L.d D::r):=hs
  refine zk hs ?_
  refine z8 (z03q (p:=p) (A:=A) c hs) λ_ w' hs=>?_
  obtain ⟨rfl,hs⟩:=hs
  refine zb ?_
  refine zt hs λa12 w' hs=>?_
  refine zu hs λw' hs=>?_
  refine wp_lt ?_
  refine za hs ?_
  refine ze (λh=>?_) λh=>?_
  ·rw [if_pos h]
   refine zy hs λw' hs=>?_
   refine za hs ?_
   refine za hs ?_
   refine wp_lt ?_
   refine wp_lt ?_
   refine wp_lt ?_
   refine zd ?_
   exact ⟨rfl,rfl,hs.sub⟩
  rw [if_neg h]
  have hs:Sat w' (pt a0 (.cells #[.int .i64 c.base,.int .i64 c.pid,.int .i64 c.epoch,.int .i64 c.seq,.int .i64 c.kind,.int .i64 c.time,.slice c.x.a c.x.len c.x.cap] T.a0)::paP p A::dk A.L.d D::r):=hs.sub
  unfold zq3
  have hlsg:=zun (pre:=A.L.pre) (seg:=A.L.seg) (D:=D) (bs:=[c]) hok
  have hlln:=zwq A.L.pre A.L.seg A.L.l D [c]
  generalize hla:z0u A.L.pre A.L.seg A.L.l D [c]=la at *
  refine zf (λq w'=>q=(la.1.2,la.1.1,())/\Sat w' (pt a0 (.cells #[.int .i64 c.base,.int .i64 c.pid,.int .i64 c.epoch,.int .i64 c.seq,.int .i64 c.kind,.int .i64 c.time,.slice c.x.a c.x.len c.x.cap] T.a0)::paP p (A.log la.2.1)::dk A.L.d la.2.2::r)) ?_ ?_
  ·refine zy hs λw' hs=>?_
   obtain ⟨lg,t,v,hs⟩:=z4n (hs.pick [1])
   refine zj ?_
   refine z0x hs ?_
   refine zk hs ?_
   refine z7m hs (enc:=zo) [c] λy w' hs=>⟨(by first|trivial|(repeat (first|exact trivial|exact λ_=>z08 hs|exact λ_=>z0i hs|refine And.intro ?_ ?_))),?_⟩
   refine zd ?_
   refine z8 (z02u (lg:=lg) (A:=A.L) (D:=D) c y (by omega) hok hfl inferInstance inferInstance hs) λ_ w' hs=>?_
   obtain ⟨rfl,hs⟩:=hs
   rw [hla] at hs ⊢
   refine ⟨(la.1.1,la.1.2,()),rfl,trivial,z2p _ _ ?_⟩
   refine wp_lt ?_
   refine wp_lt ?_
   refine zd ?_
   refine zg ⟨rfl,?_⟩
   have hs:Sat w' (lgP lg (A.log la.2.1).L::_):=hs
   have hs:Sat w' (paP p (A.log la.2.1)::dk A.L.d la.2.2::pt a0 (.cells #[.int .i64 c.base,.int .i64 c.pid,.int .i64 c.epoch,.int .i64 c.seq,.int .i64 c.kind,.int .i64 c.time,.slice c.x.a c.x.len c.x.cap] T.a0)::r):=z2e (lg:=lg) (t:=t) (v:=v) (A.log la.2.1) hs
   exact hs.pick [2]
  clear hs
  rintro _ w ⟨rfl,hs⟩
  refine z2p _ _ ?_
  obtain ⟨⟨at_,e⟩,l',D'⟩:=la
  simp only at hs hlsg hlln ⊢
  refine zf (λq w'=>q=((if e≠0 then e else (z0j A.L.pre l' D').1),())/\Sat w' (pt a0 (.cells #[.int .i64 c.base,.int .i64 c.pid,.int .i64 c.epoch,.int .i64 c.seq,.int .i64 c.kind,.int .i64 c.time,.slice c.x.a c.x.len c.x.cap] T.a0)::paP p (A.log l')::dk A.L.d (if e≠0 then D' else (z0j A.L.pre l' D').2)::r)) ?_ ?_
  ·refine ze (λh1=>?_) λh1=>?_
   ·have hs:Sat w (paP p (A.log l')::pt a0 (.cells #[.int .i64 c.base,.int .i64 c.pid,.int .i64 c.epoch,.int .i64 c.seq,.int .i64 c.kind,.int .i64 c.time,.slice c.x.a c.x.len c.x.cap] T.a0)::dk (A.log l').L.d D'::r):=hs.pick [1]
    obtain ⟨lg,t,v,hs⟩:=z4n hs
    refine zj ?_
    refine za hs ?_
    refine z8 (zwv (lg:=lg) (A:=(A.log l').L) (D:=D') (by show l'.length<=_;omega) hlsg hs) λ_ w' hs=>?_
    obtain ⟨rfl,hs⟩:=hs
    refine zb ?_
    refine wp_lt ?_
    refine zg ⟨?_,?_⟩
    ·rw [if_neg (by simpa using h1)];rfl
    ·rw [if_neg (by simpa using h1)]
     have hs:Sat w' (lgP lg (A.log l').L::dk A.L.d (z0j A.L.pre l' D').2::_):=hs
     have hs:Sat w' (paP p (A.log l')::dk A.L.d (z0j A.L.pre l' D').2::pt a0 (.cells #[.int .i64 c.base,.int .i64 c.pid,.int .i64 c.epoch,.int .i64 c.seq,.int .i64 c.kind,.int .i64 c.time,.slice c.x.a c.x.len c.x.cap] T.a0)::r):=z2e (lg:=lg) (t:=t) (v:=v) (A.log l') hs
     exact hs.pick [2]
   ·refine zg ⟨?_,?_⟩
    ·rw [if_pos (by simpa using h1)]
    ·rw [if_pos (by simpa using h1)];exact hs
  clear hs
  rintro _ w ⟨rfl,hs⟩
  refine zm ?_
  by_cases he:e≠0
  ·rw [if_pos he] at hs ⊢
   rw [if_pos he]
   refine z0q ?_ (by simpa using he)
   refine wp_lt ?_
   exact ⟨rfl,rfl,hs.sub⟩
  rw [if_neg he] at hs ⊢
  rw [if_neg he]
  refine ze (λh2=>?_) λh2=>?_
  ·rw [if_pos h2]
   refine wp_lt ?_
   exact ⟨rfl,rfl,hs.sub⟩
  rw [if_neg h2]
  refine z07 hs λw' hs=>?_
  refine zk hs ?_
  have hb2:FocR r (c.to at_).x 4 ((c.to at_).rs.flatMap z00):=hb'
  refine z8 (zpg (c.to at_) hr' hs) λ_ w' hs=>?_
  obtain ⟨z,rfl,hs⟩:=hs
  refine ⟨(at_,c.pid,c.epoch,c.seq,c.kind,c.time,z,()),rfl,trivial,zj4 _ _ _ _ _ _ _ ?_⟩
  have hb3:FocR (slc T.a2 4 z ((c.to at_).rs.flatMap z00)::dk A.L.d (z0j A.L.pre l' D').2::r) ((c.to at_).at z).x 4 (((c.to at_).at z).rs.flatMap z00):=(FocR.head:FocR (slc T.a2 4 z ((c.to at_).rs.flatMap z00)::_) z 4 ((c.to at_).rs.flatMap z00))
  have hs:Sat w' (paP p (A.log l')::slc T.a2 4 z ((c.to at_).rs.flatMap z00)::dk A.L.d (z0j A.L.pre l' D').2::r):=hs.sub
  refine z8 (zpf (p:=p) (A:=A.log l') ((c.to at_).at z) hs) λ_ w' hs=>?_
  obtain ⟨rfl,hs⟩:=hs
  refine zb ?_
  refine wp_lt ?_
  have hs:Sat w' (paP p (z56 (A.log l') (c.to at_))::_):=hs
  exact ⟨rfl,rfl,hs.sub⟩
theorem zv7 (b:BatM) {r1:List HP} [hf:Fo l paP p A r1] [hf2:Fo r1 dk A.L.d D r] (hb:FocR r b.x 4 (b.rs.flatMap z00)) (hlen:A.L.l.length<=100000) (hok:z0b 0 A.L.l) (hfl:∀ s ∈ A.L.l,s.file.length<=500000000) (hr:b.rs.length<=1000000) (hm:z0g b=false) (hs:Sat w l) :
  Ret P F.a69 #[.pointer (some ⟨p,0,none⟩),.agg (zo b).toArray] w λvs w'=>vs=[.int .i64 (z12 A D b).1.1,.bool (z12 A D b).1.2.1,.int .i64 (z12 A D b).1.2.2]/\Sat w' (paP p (z12 A D b).2.1::dk A.L.d (z12 A D b).2.2::r) :=
 zt5 _ b.base b.pid b.epoch b.seq b.kind b.time b.x <| by
  delta z05r AD AE AH Aa Ac Ah Ak Al Am Ap
  have hs:=hs.perm (hf.perm.trans (.cons _ hf2.perm))
  clear hf hf2
  refine zn hs λa0 w' hs=>?_
  refine wp_lt ?_
  refine zw ?_ (by simp)
  refine zk hs ?_
  refine z8 (z01x b hs) λ_ w' hs=>?_
  obtain ⟨rfl,hs⟩:=hs
  refine zb ?_
  refine wp_lt ?_
  refine zw ?_ (by rw [hm];simp)
  refine zk hs ?_
  have hs:=hs.pick [1,1]
  refine z8 (zvc (p:=p) (A:=A) (D:=D) b inferInstance hlen hok hfl hr hs) λ_ w' hs=>?_
  obtain ⟨rfl,hs⟩:=hs
  refine zb ?_
  refine wp_lt ?_
  refine wp_lt ?_
  refine wp_lt ?_
  exact ⟨rfl,rfl,hs.sub⟩
def z4h (pid epoch:Int) (commit:Bool) (time:Int) (x:Sl):BatM:=⟨0,pid,epoch,0,if commit then 2 else 3,time,x,[]⟩
theorem z028 (pid epoch:Int) (commit:Bool) (time:Int) (hs:Sat w l):Ret P F.a89 #[.int .i64 pid,.int .i64 epoch,.bool commit,.int .i64 time] w λvs w'=>vs=[.agg (zo (z4h pid epoch commit time ⟨none,0,0⟩)).toArray]/\Sat w' l :=
 ztp _ _ _ _ <| by
  delta z06c AD AE AV Aa Ad Ae Ai Am Ay
  refine zt hs λa0 w' hs=>?_
  refine zt hs λa1 w' hs=>?_
  refine zu hs λw' hs=>?_
  refine zf (λq w'=>Sat w' (pt a1 (.cells (zo (z4h pid epoch commit time ⟨none,0,0⟩)).toArray T.a0)::pt a0 (.cells #[.int .i64 0,.int .i64 0,.int .i64 0,.int .i64 0,.int .i64 0,.int .i64 0,.slice none 0 0] T.a0)::l)) ?_ ?_
  ·cases commit with
   | true =>
    refine z0q ?_ (by simp)
    refine z07 hs λw' hs=>?_
    exact zg hs
   | false =>
    refine zw ?_ (by simp)
    exact zg hs
  clear hs
  rintro _ w hs
  have hs:Sat w (pt a1 (.cells #[.int .i64 0,.int .i64 pid,.int .i64 epoch,.int .i64 0,.int .i64 (if commit then 2 else 3),.int .i64 time,.slice none 0 0] T.a0)::pt a0 (.cells #[.int .i64 0,.int .i64 0,.int .i64 0,.int .i64 0,.int .i64 0,.int .i64 0,.slice none 0 0] T.a0)::l):=hs
  refine zm ?_
  refine zk hs ?_
  refine zu hs λw' hs=>?_
  refine zk hs ?_
  exact ⟨rfl,rfl,hs.tail.tail⟩
theorem z01t (pid epoch:Int) (commit:Bool) (time:Int) {r1:List HP} [hf:Fo l paP p A r1] [hf2:Fo r1 dk A.L.d D r] (hlen:A.L.l.length<=100000) (hok:z0b 0 A.L.l) (hfl:∀ s ∈ A.L.l,s.file.length<=500000000) (hs:Sat w l) :
  Ret P F.a72 #[.pointer (some ⟨p,0,none⟩),.int .i64 pid,.int .i64 epoch,.bool commit,.int .i64 time] w λvs w'=>vs=[.int .i64 (z12 A D (z4h pid epoch commit time ⟨none,0,0⟩)).1.1,.bool (z12 A D (z4h pid epoch commit time ⟨none,0,0⟩)).1.2.1,.int .i64 (z12 A D (z4h pid epoch commit time ⟨none,0,0⟩)).1.2.2]/\Sat w' (paP p (z12 A D (z4h pid epoch commit time ⟨none,0,0⟩)).2.1::dk A.L.d (z12 A D (z4h pid epoch commit time ⟨none,0,0⟩)).2.2::r) :=
 zt8 _ _ _ _ _ <| by
  delta z05u AD AG Aa Ac Ah Ai Al Am
  have hs:=hs.perm (hf.perm.trans (.cons _ hf2.perm))
  clear hf hf2
  refine zw ?_ (by simp)
  refine z8 (z028 pid epoch commit time hs) λ_ w' hs=>?_
  obtain ⟨rfl,hs⟩:=hs
  refine ⟨(0,pid,epoch,0,(if commit then 2 else 3),time,⟨none,0,0⟩,()),rfl,trivial,zj4 _ _ _ _ _ _ _ ?_⟩
  have hs:Sat w' (slc T.a2 4 ⟨none,0,0⟩ (([]:List RecM).flatMap z00)::_):=hs.slc_nil
  have hb:FocR (slc T.a2 4 ⟨none,0,0⟩ (([]:List RecM).flatMap z00)::r) (z4h pid epoch commit time ⟨none,0,0⟩).x 4 ((z4h pid epoch commit time ⟨none,0,0⟩).rs.flatMap z00):=(FocR.head:FocR (slc T.a2 4 ⟨none,0,0⟩ (([]:List RecM).flatMap z00)::r) ⟨none,0,0⟩ 4 (([]:List RecM).flatMap z00))
  have hs:Sat w' (paP p A::dk A.L.d D::slc T.a2 4 ⟨none,0,0⟩ (([]:List RecM).flatMap z00)::r):=hs.sub
  refine z8 (zvc (p:=p) (A:=A) (D:=D) (z4h pid epoch commit time ⟨none,0,0⟩) hb hlen hok hfl (by show 0<=_;omega) hs) λ_ w' hs=>?_
  obtain ⟨rfl,hs⟩:=hs
  refine zb ?_
  refine wp_lt ?_
  refine wp_lt ?_
  refine wp_lt ?_
  exact ⟨rfl,rfl,hs.sub⟩
end
def z2y (A:PartA) (c:Bool):Int->List BatM->List AtM × Int
 | n,[]=>([],n)
 | n,b::bs=>if c=true/\b.base>=z59 A then ([],n) else ((if c=false\/z6d A.V b=1 then z4w b else [])++(z2y A c (z1m b) bs).1,(z2y A c (z1m b) bs).2)
def z2q (A:PartA) (off most:Int) (c:Bool):(List AtM × Int) × Int:=if (z4g A.L.l off most).1≠0 then (([],0),(z4g A.L.l off most).1) else (z2y A c off (z4g A.L.l off most).2,0)
theorem zp8 (A:PartA) (c:Bool):∀ (bs:List BatM) (n:Int),z2y A c n (bs.map BatM.p)=z2y A c n bs
 | [],n=>rfl
 | b::bs,n=>by
  have ih:=zp8 A c bs (z1m b)
  show (if c=true/\b.base>=z59 A then (([]:List AtM),n) else ((if c=false\/z6d A.V b=1 then z4w b else [])++(z2y A c (z1m b) (bs.map BatM.p)).1,(z2y A c (z1m b) (bs.map BatM.p)).2))=_
  rw [ih]
  rfl
theorem zv8 {A:PartA} {c:Bool} {n:Int} {b:BatM} {bs:List BatM} (h:c=true/\b.base>=z59 A):z2y A c n (b::bs)=([],n):=if_pos h
theorem z01w {A:PartA} {c:Bool} {n:Int} {b:BatM} {bs:List BatM} (h:¬ (c=true/\b.base>=z59 A)):z2y A c n (b::bs)=((if c=false\/z6d A.V b=1 then z4w b else [])++(z2y A c (z1m b) bs).1,(z2y A c (z1m b) bs).2):=if_neg h
theorem zvg (l:List SegA) (off most:Int):(z4g l off most).2.length<=(z06 l).length:=by
 unfold z4g
 split
 ·exact Nat.zero_le _
 split
 ·exact Nat.zero_le _
 ·simp only [List.length_take]
  exact Nat.le_trans (Nat.min_le_right _ _) (List.length_filterMap_le ..)
theorem zxk {l:List SegA} {off most:Int} {b:BatM} (hok:z0b 0 l) (h:b ∈ (z4g l off most).2):b.rs.length<=64:=by
 unfold z4g at h
 split at h
 ·cases h
 split at h
 ·cases h
 ·obtain ⟨c,hc,hf⟩:=List.mem_filterMap.1 (List.mem_of_mem_take h)
  have hv:=((zg8 (Int.le_refl 0) hok).valid c hc).1
  have h64:=(z2z hv).1
  unfold z0o at hf
  split at hf
  ·cases hf
  split at hf
  ·cases hf;exact h64
  ·cases hf
   show (c.rs.drop _).length<=64
   rw [List.length_drop];omega
section
variable {w:World} {l r:List HP} {p:Nat} {A:PartA} {D:DiskA}
set_option maxHeartbeats 1000000 in
theorem z020 (off most:Int) (c:Bool) (ho : -9223372036854775808<=off/\off<9223372036854775808) (hmo:most<9223372036854775808) {r1:List HP} [hf:Fo l paP p A r1] [hf2:Fo r1 dk A.L.d D r] (hok:z0b 0 A.L.l) (hhas:zj7 A.L.pre A.L.l D) (hlen:A.L.l.length<=1000000) (hall:(z06 A.L.l).length<=1000000) (hs:Sat w l) :
  Ret P F.a74 #[.pointer (some ⟨p,0,none⟩),.int .i64 off,.int .i64 most,.bool c] w λvs w'=>∃ z:Sl,vs=[z.v,.int .i64 (z2q A off most c).1.2,.int .i64 (z2q A off most c).2]/\Sat w' (slc T.a33 5 z ((z2q A off most c).1.1.flatMap z20)::paP p A::dk A.L.d D::r) :=
 zta _ off most c <| by
  delta z05w AB AC AD AE AF AI AJ AK AL AM AN AO AP AQ AR Aa Ac Ad Ae Ah Ai Aj Am Ax Az;unfold z2q
  have hs:=hs.perm (hf.perm.trans (.cons _ hf2.perm))
  clear hf hf2
  obtain ⟨lg,t,v,hs⟩:=z4n hs
  refine zw ?_ (by simp)
  refine zj ?_
  refine za hs ?_
  refine z8 (zoz (lg:=lg) (A:=A.L) (D:=D) off most ho hmo hok hhas hlen hall hs) λ_ w' hs=>?_
  obtain ⟨y,outs,rfl,hmap,hs⟩:=hs
  refine ⟨(y,(z4g A.L.l off most).1,()),rfl,trivial,z2p _ _ ?_⟩
  have hs:Sat w' (slc T.a0 7 y (outs.flatMap zo)::z1l outs::paP p A::dk A.L.d D::r):=by
   have hs:Sat w' (paP p A::slc T.a0 7 y (outs.flatMap zo)::z1l outs::dk A.L.d D::r):=z2e (lg:=lg) (t:=t) (v:=v) A hs
   exact hs.pick [1,1]
  refine wp_lt ?_
  refine ze (λh=>?_) λh=>?_
  ·rw [if_pos h]
   refine wp_lt ?_
   have hs:Sat w' (slc T.a33 5 ⟨none,0,0⟩ (([]:List AtM).flatMap z20)::_):=hs.slc_nil
   exact ⟨rfl,⟨none,0,0⟩,rfl,hs.sub⟩
  rw [if_neg h,<- hmap,zp8]
  have hol:outs.length<=1000000:=by
   have:=congrArg List.length hmap
   rw [List.length_map] at this
   rw [this]
   exact Nat.le_trans (zvg _ _ _) hall
  have hov:∀ b ∈ outs,b.rs.length<=64:=λb hb=>by
   have h1:b.p ∈ (z4g A.L.l off most).2:=by rw [<- hmap];exact List.mem_map.2 ⟨b,hb,rfl⟩
   have h2:=zxk hok h1
   exact h2
  have hly:=hs.slen y (xs:=outs) (enc:=zo)
  refine wp_lt ?_
  refine zf (λq w'=>∃ z:Sl,q=(z,(z2y A c off outs).2,())/\Sat w' (slc T.a33 5 z ((z2y A c off outs).1.flatMap z20)::paP p A::dk A.L.d D::r)) ?_ ?_
  rotate_left
  ·rintro _ w2 ⟨z,rfl,hs⟩
   refine z2p _ _ ?_
   refine wp_lt ?_
   exact ⟨rfl,z,rfl,hs⟩
  have hs:Sat w' (slc T.a33 5 ⟨none,0,0⟩ (([]:List AtM).flatMap z20)::slc T.a0 7 y (outs.flatMap zo)::z1l outs::paP p A::dk A.L.d D::r):=hs.slc_nil
  refine z02 (λm q w=>∃ (i:Nat) (z:Sl) (n:Int) (done:List AtM),q=(z,n,(i:Int),())/\i<=outs.length/\outs.length-i=m/\done.length<=64*i /\
   z2y A c off outs=(done++(z2y A c n (outs.drop i)).1,(z2y A c n (outs.drop i)).2) /\
   Sat w (slc T.a33 5 z (done.flatMap z20)::slc T.a0 7 y (outs.flatMap zo)::z1l outs::paP p A::dk A.L.d D::r)) outs.length
   ⟨0,⟨none,0,0⟩,off,[],rfl,by omega,rfl,by simp,by simp,hs⟩ ?_
  clear hs
  rintro m _ w ⟨i,z,n,done,rfl,hi,hm,hdl,hq,hs⟩
  refine z7t _ _ _ ?_
  refine ze (λhc=>?_) λhc=>?_
  rotate_left
  ·have e:outs.drop i=[]:=List.drop_eq_nil_of_le (by omega)
   rw [e] at hq
   have hq:z2y A c off outs=(done++[],n):=hq
   rw [List.append_nil] at hq
   refine zh (zg ⟨z,by rw [hq],?_⟩)
   rw [hq]
   exact hs.sub
  have hil:i<outs.length:=by omega
  have hdrop:outs.drop i=outs[i]::outs.drop (i+1):=List.drop_eq_getElem_cons hil
  rw [hdrop] at hq
  have hrl:outs[i].rs.length<=64:=hov _ (List.getElem_mem hil)
  generalize hb:outs[i]=b at *
  have hbm:b ∈ outs:=by rw [<- hb];exact List.getElem_mem hil
  refine z32 hs i hil ?_
  rw [hb]
  refine zt hs λa w' hs=>?_
  refine zu hs λw' hs=>?_
  have hbr:FocR (z1l outs::paP p A::dk A.L.d D::r) b.x 4 (b.rs.flatMap z00):=zcs hbm
  have hs:Sat w' (pt a (.cells #[.int .i64 b.base,.int .i64 b.pid,.int .i64 b.epoch,.int .i64 b.seq,.int .i64 b.kind,.int .i64 b.time,.slice b.x.a b.x.len b.x.cap] T.a0)::slc T.a33 5 z (done.flatMap z20)::slc T.a0 7 y (outs.flatMap zo)::z1l outs::paP p A::dk A.L.d D::r):=hs
  refine zf (λq w'=>q=(decide (c=true/\b.base>=z59 A),())/\Sat w' (pt a (.cells #[.int .i64 b.base,.int .i64 b.pid,.int .i64 b.epoch,.int .i64 b.seq,.int .i64 b.kind,.int .i64 b.time,.slice b.x.a b.x.len b.x.cap] T.a0)::slc T.a33 5 z (done.flatMap z20)::slc T.a0 7 y (outs.flatMap zo)::z1l outs::paP p A::dk A.L.d D::r)) ?_ ?_
  ·refine zy hs λw' hs=>?_
   refine z0x hs ?_
   cases c with
   | false =>
    refine zw ?_ (by simp)
    refine zd ?_
    exact zg ⟨by simp,hs⟩
   | true =>
    refine z0q ?_ (by simp)
    refine z8 (zi8 (p:=p) (A:=A) (by omega) hs) λ_ w' hs=>?_
    obtain ⟨rfl,hs⟩:=hs
    refine zb ?_ (by first|trivial|(repeat (first|exact trivial|exact λ_=>z08 hs|exact λ_=>z0i hs|refine And.intro ?_ ?_)))
    refine zd ?_
    exact zg ⟨by simp,hs.pick [1,1,1,1]⟩
  clear hs
  rintro _ w ⟨rfl,hs⟩
  refine zm ?_
  by_cases hstop:c=true/\b.base>=z59 A
  ·refine z0q ?_ (by simpa using hstop)
   have hq:z2y A c off outs=(done++[],n):=by
    rw [hq,zv8 hstop]
   rw [List.append_nil] at hq
   refine zh (zg ⟨z,by rw [hq],?_⟩)
   rw [hq]
   exact hs.sub
  refine zw ?_ (by simpa using hstop)
  have hq:z2y A c off outs=(done++((if c=false\/z6d A.V b=1 then z4w b else [])++(z2y A c (z1m b) (outs.drop (i+1))).1),(z2y A c (z1m b) (outs.drop (i+1))).2):=by
   rw [hq,z01w hstop]
  refine zf (λq w'=>q=(decide (c=false\/z6d A.V b=1),())/\Sat w' (pt a (.cells #[.int .i64 b.base,.int .i64 b.pid,.int .i64 b.epoch,.int .i64 b.seq,.int .i64 b.kind,.int .i64 b.time,.slice b.x.a b.x.len b.x.cap] T.a0)::slc T.a33 5 z (done.flatMap z20)::slc T.a0 7 y (outs.flatMap zo)::z1l outs::paP p A::dk A.L.d D::r)) ?_ ?_
  ·refine zy hs λw' hs=>?_
   obtain ⟨lg,t,v,hs⟩:=z4n (hs.pick [4])
   refine z0c ?_
   refine za hs ?_
   refine zk hs ?_
   cases c with
   | false =>
    refine z0q ?_ (by simp)
    refine zd ?_
    refine zg ⟨by simp,?_⟩
    have hs:Sat w' (paP p A::pt a (.cells #[.int .i64 b.base,.int .i64 b.pid,.int .i64 b.epoch,.int .i64 b.seq,.int .i64 b.kind,.int .i64 b.time,.slice b.x.a b.x.len b.x.cap] T.a0)::slc T.a33 5 z (done.flatMap z20)::slc T.a0 7 y (outs.flatMap zo)::z1l outs::dk A.L.d D::r):=z2e (lg:=lg) (t:=t) (v:=v) A hs
    exact hs.pick [1,1,1,1]
   | true =>
    refine zw ?_ (by simp)
    refine z8 (z01f (v:=v) (A:=A.V) b hs) λ_ w' hs=>?_
    obtain ⟨rfl,hs⟩:=hs
    refine zb ?_
    refine zd ?_
    refine zg ⟨?_,?_⟩
    ·have:(z6d A.V b == 1)=decide (true=false\/z6d A.V b=1):=by rw [Bool.eq_iff_iff];simp
     rw [this]
    have hs:Sat w' (paP p A::pt a (.cells #[.int .i64 b.base,.int .i64 b.pid,.int .i64 b.epoch,.int .i64 b.seq,.int .i64 b.kind,.int .i64 b.time,.slice b.x.a b.x.len b.x.cap] T.a0)::slc T.a33 5 z (done.flatMap z20)::slc T.a0 7 y (outs.flatMap zo)::z1l outs::dk A.L.d D::r):=z2e (lg:=lg) (t:=t) (v:=v) A hs
    exact hs.pick [1,1,1,1]
  clear hs
  rintro _ w ⟨rfl,hs⟩
  refine zm ?_
  have hfl:=zho b
  refine zf (λq w'=>∃ z':Sl,q=(z',())/\Sat w' (pt a (.cells #[.int .i64 b.base,.int .i64 b.pid,.int .i64 b.epoch,.int .i64 b.seq,.int .i64 b.kind,.int .i64 b.time,.slice b.x.a b.x.len b.x.cap] T.a0)::slc T.a33 5 z' ((done++(if c=false\/z6d A.V b=1 then z4w b else [])).flatMap z20)::slc T.a0 7 y (outs.flatMap zo)::z1l outs::paP p A::dk A.L.d D::r)) ?_ ?_
  ·by_cases hd:c=false\/z6d A.V b=1
   ·refine z0q ?_ (by simpa using hd)
    rw [if_pos hd]
    refine zk hs ?_
    refine zpv hs (enc:=zo) [b] λx1 w' hs=>?_
    refine z8 (z034 x1 [b] (λb' hb'=>by rw [List.mem_singleton.1 hb'];infer_instance) (by simp) (λb' hb'=>by rw [List.mem_singleton.1 hb'];omega) hs) λ_ w' hs=>?_
    obtain ⟨z2,rfl,hs⟩:=hs
    refine zb ?_
    have e:z4f [b]=z4w b:=by simp [z4f]
    rw [e] at hs
    refine wp_app' (xs:=done) (ys:=z4w b) (enc:=z20) hs (λz3 w' hs=>?_) (by omega)
    refine zg ⟨z3,rfl,?_⟩
    exact hs.sub
   ·refine zw ?_ (by simpa using hd)
    rw [if_neg hd,List.append_nil]
    exact zg ⟨z,rfl,hs⟩
  clear hs
  rintro _ w ⟨z',rfl,hs⟩
  refine zm ?_
  refine zk hs ?_
  refine z8 (z8m b hs) λ_ w' hs=>?_
  obtain ⟨rfl,hs⟩:=hs
  refine zb ?_
  refine wp_lt ?_
  refine z3f (us':=[z'.v,.int .i64 (z1m b),.int .i64 ((i+1:Nat):Int)]) (by (try simp (disch:=omega) only [w64]);first|rfl|(congr;omega)) ?_
  refine z0z (outs.length-(i+1)) ⟨i+1,z',z1m b,done++(if c=false\/z6d A.V b=1 then z4w b else []),rfl,by omega,rfl,?_,?_,hs.sub⟩
  ·rw [List.length_append]
   split
   ·omega
   ·simp only [List.length_nil];omega
  ·rw [hq,List.append_assoc]
end
section
variable {w:World} {l r:List HP}
theorem z01b (x:Sl) (bs:List UInt8) [hx:FocR l x 1 (bs.flatMap zi)] (hcap:x.len<=x.cap) (hn:bs.length<=1000000000) (hs:Sat w l) :
  Ret P F.a36 #[x.v] w λvs w'=>∃ z:Sl,vs=[z.v,.bool (ziw bs).isSome]/\Sat w' (slc T.a59 1 z (((ziw bs).getD []).flatMap zi)::l) :=
 zsj x <| by
  delta z058 AB Ac Ai Al Am BL
  have hl:=hs.slen x (xs:=bs) (enc:=zi)
  refine z8 (zaq x bs hcap hn hs) λ_ _ hs=>?_
  obtain ⟨z,rfl,hs⟩:=hs
  refine zb ?_
  refine wp_lt ?_
  refine wp_lt ?_
  unfold ziw
  cases hf:z0v bs with
  | none =>
   refine z0q ?_ (by simp)
   exact ⟨rfl,⟨none,0,0⟩,rfl,(hs.tail).slc_nil⟩
  | some q =>
   obtain ⟨body,n⟩:=q
   rw [hf] at hs
   dsimp only
   refine ze (λh=>?_) λh=>?_
   ·rw [if_neg (by simp at h;omega)]
    exact ⟨rfl,⟨none,0,0⟩,rfl,(hs.tail).slc_nil⟩
   ·rw [if_pos (by simp at h;omega)]
    exact ⟨rfl,z,rfl,hs⟩
end
def zfs (pre:ByteArray):ByteArray:=pre++ByteArray.mk #[46,115,110,97,112]
def zfw (pre:ByteArray):ByteArray:=pre++ByteArray.mk #[46,116,109,112]
def z6f (L:LogA) (most:Int):PartA:=⟨L,most,⟨most,0,[]⟩,⟨0,[],[]⟩⟩
def zfk (L:LogA) (most:Int):PartA:=(z06 L.l).foldl z56 (z6f L most)
theorem z045 (A:PartA) (b:BatM):z56 A b.p=z56 A b:=rfl
theorem zpo:∀ (bs:List BatM) (A:PartA),(bs.map BatM.p).foldl z56 A=bs.foldl z56 A
 | [],A=>rfl
 | b::bs,A=>by
  rw [List.map_cons,List.foldl_cons,List.foldl_cons,z045]
  exact zpo bs _
section
variable {w:World} {l r:List HP} {p d lg t v:Nat} {A:PartA} {D:DiskA} {c1 c2 c3 c4 c5:Value}
theorem z021 (pre:ByteArray) (hp:pre.size<=100) [hf:FocB l p (.cells [c1,c2,.string pre,c3,c4,c5].toArray T.a32) r] (hs:Sat w l):Ret P F.a79 #[.pointer (some ⟨p,0,none⟩)] w λvs w'=>vs=[.string (zfs pre)]/\Sat w' l :=
 ztf _ <| by
  delta z061 AI AT AU Am
  refine zj ?_
  refine za hs ?_
  refine wp_must (by omega) ?_
  refine wp_lt ?_
  exact ⟨rfl,rfl,hs⟩
theorem zpc (pre:ByteArray) (hp:pre.size<=100) [hf:FocB l p (.cells [c1,c2,.string pre,c3,c4,c5].toArray T.a32) r] (hs:Sat w l):Ret P F.a81 #[.pointer (some ⟨p,0,none⟩)] w λvs w'=>vs=[.string (zfw pre)]/\Sat w' l :=
 zth _ <| by
  delta z063 AI AT AU Am
  refine zj ?_
  refine za hs ?_
  refine wp_must (by omega) ?_
  refine wp_lt ?_
  exact ⟨rfl,rfl,hs⟩
theorem z01v (n:ByteArray) (hno:∀ f ∈ D.fs,f.name≠n) [hf:Fo l dk d D r] (hs:Sat w l):Ret P F.a82 #[.pointer (some ⟨d,0,none⟩),.string n] w λvs w'=>vs=[.bool false]/\Sat w' (dk d D::r) :=
 zti _ n <| by
  delta z064 AK Ac Ah Al Am
  refine z8 (zfo (d:=d) (A:=D) n hs) λ_ w' h=>?_
  rcases h with ⟨f,hf1,hf2,-⟩|⟨-,rfl,hs⟩
  ·exact absurd hf2 (hno f hf1)
  refine ⟨(⟨none,0,0⟩,3,()),rfl,trivial,z2p _ _ ?_⟩
  refine wp_lt ?_
  refine wp_lt ?_
  exact ⟨rfl,rfl,hs⟩
theorem zxc (pre:ByteArray) (most:Int) (hp:pre.size<=100) (hm:1<=most/\most<=4096) (hno:∀ f ∈ D.fs,f.name≠zfs pre) (hs:Sat w (pt p (.cells #[c1,.pointer (some ⟨d,0,none⟩),.string pre,.int .i64 most,c2,c3] T.a32)::dk d D::r)) :
  Ret P F.a77 #[.pointer (some ⟨p,0,none⟩)] w λvs w'=>vs=[.int .i64 0]/\∃ t v:Nat,Sat w' (pt p (.cells #[c1,.pointer (some ⟨d,0,none⟩),.string pre,.int .i64 most,.pointer (some ⟨t,0,none⟩),.pointer (some ⟨v,0,none⟩)] T.a32)::tb t ⟨most,0,[]⟩::vw v ⟨0,[],[]⟩::dk d D::r) :=
 ztd _ <| by
  delta z05z AF AI AK AL AN AQ AR AU AV AW AX AY AZ Aa Ab Ac Ah Ai Aj Al Am An Aq Aw Ax
  refine zj ?_
  refine za hs ?_
  refine z8 (z046 most hs) λ_ w' h=>?_
  rcases h with ⟨-,-,t,rfl,hs⟩|⟨h,-⟩
  rotate_left
  ·omega
  refine ⟨(some ⟨t,0,none⟩,0,()),rfl,trivial,z2p _ _ ?_⟩
  refine zj ?_
  refine z07 hs λw' hs=>?_
  refine z8 (z049 hs) λ_ w' hs=>?_
  obtain ⟨v,rfl,hs⟩:=hs
  refine zb ?_
  refine zj ?_
  refine z07 hs λw' hs=>?_
  refine zf (λq w'=>q=(⟨none,0,0⟩,())/\Sat w' (pt p (.cells #[c1,.pointer (some ⟨d,0,none⟩),.string pre,.int .i64 most,.pointer (some ⟨t,0,none⟩),.pointer (some ⟨v,0,none⟩)] T.a32)::tb t ⟨most,0,[]⟩::vw v ⟨0,[],[]⟩::dk d D::r)) ?_ ?_
  ·refine zy hs λw' hs=>?_
   refine zj ?_
   refine z0x hs ?_
   refine z8 (z021 (p:=p) pre hp hs) λ_ w' hs=>?_
   obtain ⟨rfl,hs⟩:=hs
   refine zb ?_ (by first|trivial|(repeat (first|exact trivial|exact λ_=>z08 hs|exact λ_=>z0i hs|refine And.intro ?_ ?_)))
   refine zd ?_
   refine z8 (zfo (d:=d) (A:=D) (zfs pre) hs) λ_ w' h=>?_
   rcases h with ⟨f,hf1,hf2,-⟩|⟨-,rfl,hs⟩
   ·exact absurd hf2 (hno f hf1)
   refine ⟨(⟨none,0,0⟩,3,()),rfl,trivial,z2p _ _ ?_⟩
   refine wp_lt ?_
   refine zd ?_
   refine zg ⟨rfl,?_⟩
   exact hs.sub
  clear hs
  rintro _ w ⟨rfl,hs⟩
  refine zm ?_
  have hs:Sat w (slc T.a59 1 ⟨none,0,0⟩ (([]:List UInt8).flatMap zi)::_):=hs.slc_nil
  refine z8 (z01b ⟨none,0,0⟩ [] (Nat.le_refl _) (Nat.zero_le _) hs) λ_ w' hs=>?_
  obtain ⟨z,rfl,hs⟩:=hs
  have e:(ziw []).isSome=false:=by kernel_rfl
  rw [e]
  refine ⟨(z,false,()),rfl,trivial,z2p _ _ ?_⟩
  refine wp_lt ?_
  refine z0q ?_ (by simp)
  exact ⟨rfl,rfl,t,v,hs.tail.tail⟩
theorem zwj {fs:List FileA} {n:ByteArray} (hno:∀ f ∈ fs,f.name≠n):(z8g fs n).1=0:=by rw [z8g,zc1 hno]
theorem zva (pre:ByteArray) (seg gap most:Int) (hm:most<1\/most>1024) (hs:Sat w l):Ret P F.a68 #[.pointer (some ⟨d,0,none⟩),.string pre,.agg #[.int .i64 seg,.int .i64 gap,.int .i64 most]] w λvs w'=>vs=[.pointer none,.int .i64 2]/\Sat w' l :=
 zbg _ pre seg gap most <| by
  delta zt4 AA AB AC AD AE AF Aa Ab Ac Ad Ae Af Ah Ai Aj Ak Am Ao Ap Aq Ar As Au Av Aw Ax Ay Az
  refine zn hs λa0 w' hs=>?_
  refine za hs ?_
  refine za hs ?_
  refine z0q ?_ (by simpa using hm)
  refine zw ?_ (by simp)
  exact ⟨rfl,rfl,hs.tail⟩
theorem zcg (pre:ByteArray) (seg gap most:Int) (hm:1<=most/\most<=1024) (e:Int) (he:e≠0) {dd:Option Addr} (ho:∀ {w:World} {X:HP},Sat w (X::l)->Ret P F.a121 #[.pointer dd,.string pre,.agg #[.int .i64 seg,.int .i64 gap]] w λvs w'=>vs=[.pointer none,.int .i64 e]/\Sat w' (X::l)) (hs:Sat w l) :
  Ret P F.a68 #[.pointer dd,.string pre,.agg #[.int .i64 seg,.int .i64 gap,.int .i64 most]] w λvs w'=>vs=[.pointer none,.int .i64 e]/\Sat w' l :=
 zbg _ pre seg gap most <| by
  delta zt4 AA AB AC AD AE AF Aa Ab Ac Ad Ae Af Ah Ai Aj Ak Am Ao Ap Aq Ar As Au Av Aw Ax Ay Az
  refine zn hs λa0 w' hs=>?_
  refine za hs ?_
  refine za hs ?_
  refine zw ?_ (by simp;omega)
  refine zg2 hs (seg,gap,()) ?_
  refine z8 (ho hs) λ_ w' hs=>?_
  obtain ⟨rfl,hs⟩:=hs
  refine ⟨(none,e,()),rfl,trivial,z2p _ _ ?_⟩
  refine wp_lt ?_
  refine z0q ?_ (by simpa using he)
  refine wp_lt ?_
  exact ⟨rfl,rfl,hs.tail⟩
set_option maxHeartbeats 1000000 in
theorem zxd (pre:ByteArray) (seg gap most:Int) (hp:z30 pre=true) (hc:z71 seg gap) (hm:1<=most/\most<=1024) (hg:D.gone=false) (S:List SegA) (D':DiskA) (ho:z45 pre D=(0,S,D')) (hno:∀ f ∈ D'.fs,f.name≠zfs pre/\f.name≠zfw pre)
  (hok:z0b 0 S) (hhas:zj7 pre S D') (hlen:S.length<=1000000) (hall:(z06 S).length<=1000000) [hf:Fo l dk d D r] (hs:Sat w l) :
  Ret P F.a68 #[.pointer (some ⟨d,0,none⟩),.string pre,.agg #[.int .i64 seg,.int .i64 gap,.int .i64 most]] w λvs w'=>∃ p:Nat,vs=[.pointer (some ⟨p,0,none⟩),.int .i64 0]/\Sat w' (paP p (zfk ⟨d,pre,seg,gap,S⟩ most)::dk d D'::r) :=
 zbg _ pre seg gap most <| by
  delta zt4 AA AB AC AD AE AF Aa Ab Ac Ad Ae Af Ah Ai Aj Ak Am Ao Ap Aq Ar As Au Av Aw Ax Ay Az
  have hs:=hs.perm hf.perm
  clear hf
  have hps:pre.size<=100:=by
   unfold z30 at hp
   rw [Bool.and_eq_true,decide_eq_true_eq] at hp
   omega
  refine zn hs λa0 w' hs=>?_
  refine za hs ?_
  refine za hs ?_
  refine zw ?_ (by simp;omega)
  refine zg2 hs (seg,gap,()) ?_
  refine z8 (z01o (d:=d) (D:=D) pre seg gap hp hc hg hs) λ_ w' hs=>?_
  rw [ho] at hs
  rcases hs with ⟨he,-,-⟩|⟨-,lg,rfl,hs⟩
  ·exact absurd rfl he
  refine ⟨(some ⟨lg,0,none⟩,0,()),rfl,trivial,z2p _ _ ?_⟩
  refine wp_lt ?_
  refine zw ?_ (by simp)
  refine za hs ?_
  refine zn hs λa10 w' hs=>?_
  have hs:Sat w' (pt a10 (.cells #[.pointer (some ⟨lg,0,none⟩),.pointer (some ⟨d,0,none⟩),.string pre,.int .i64 most,.pointer none,.pointer none] T.a32)::dk d D'::lgP lg ⟨d,pre,seg,gap,S⟩::r):=hs.sub
  refine zf (λq w'=>q=(false,())/\Sat w' (pt a10 (.cells #[.pointer (some ⟨lg,0,none⟩),.pointer (some ⟨d,0,none⟩),.string pre,.int .i64 most,.pointer none,.pointer none] T.a32)::dk d D'::lgP lg ⟨d,pre,seg,gap,S⟩::r)) ?_ ?_
  ·refine z8 (zpc (p:=a10) pre hps hs) λ_ w' hs=>?_
   obtain ⟨rfl,hs⟩:=hs
   refine zb ?_
   refine z8 (z042 (d:=d) (A:=D') (zfw pre) hs) λ_ w' hs=>?_
   obtain ⟨rfl,hs⟩:=hs
   refine zb ?_
   rw [zwj λf hf=>(hno f hf).2]
   refine zw ?_ (by simp)
   refine z8 (zpc (p:=a10) pre hps hs) λ_ w' hs=>?_
   obtain ⟨rfl,hs⟩:=hs
   refine zb ?_
   refine z8 (z01v (d:=d) (D:=D') (zfw pre) (λf hf=>(hno f hf).2) hs) λ_ w' hs=>?_
   obtain ⟨rfl,hs⟩:=hs
   refine zb ?_
   exact zg ⟨rfl,hs.sub⟩
  clear hs
  rintro _ w ⟨rfl,hs⟩
  refine zm ?_
  refine zf (λq w'=>Sat w' (pt a10 (.cells #[.pointer (some ⟨lg,0,none⟩),.pointer (some ⟨d,0,none⟩),.string pre,.int .i64 most,.pointer none,.pointer none] T.a32)::dk d D'::lgP lg ⟨d,pre,seg,gap,S⟩::r)) ?_ ?_
  ·refine zw ?_ (by simp)
   exact zg hs
  clear hs
  rintro _ w hs
  refine zm ?_
  refine z8 (zxc (p:=a10) (d:=d) (D:=D') pre most hps (by omega) (λf hf=>(hno f hf).1) hs) λ_ w' hs=>?_
  obtain ⟨rfl,t,v,hs⟩:=hs
  refine zb ?_
  refine wp_lt ?_
  refine z8 (zum (lg:=lg) (A:=⟨d,pre,seg,gap,S⟩) (D:=D') hok hhas hlen hall hs) λ_ w' hs=>?_
  obtain ⟨y,outs,rfl,hmap,hs⟩:=hs
  refine zb ?_
  have hmap:outs.map BatM.p=z06 S:=hmap
  have hs:Sat w' (paP a10 (z6f ⟨d,pre,seg,gap,S⟩ most)::slc T.a0 7 y (outs.flatMap zo)::z1l outs::dk d D'::r):=by
   have hs:Sat w' (slc T.a0 7 y (outs.flatMap zo)::z1l outs::lgP lg (z6f ⟨d,pre,seg,gap,S⟩ most).L::dk d D'::pt a10 (.cells #[.pointer (some ⟨lg,0,none⟩),.pointer (some ⟨(z6f ⟨d,pre,seg,gap,S⟩ most).L.d,0,none⟩),.string (z6f ⟨d,pre,seg,gap,S⟩ most).L.pre,.int .i64 (z6f ⟨d,pre,seg,gap,S⟩ most).most,.pointer (some ⟨t,0,none⟩),.pointer (some ⟨v,0,none⟩)] T.a32)::tb t (z6f ⟨d,pre,seg,gap,S⟩ most).T::vw v (z6f ⟨d,pre,seg,gap,S⟩ most).V::r):=hs
   exact z2e (lg:=lg) (t:=t) (v:=v) (z6f ⟨d,pre,seg,gap,S⟩ most) hs
  have hlo:=congrArg List.length hmap
  rw [List.length_map] at hlo
  have hly:=hs.slen y (xs:=outs) (enc:=zo)
  have hov:∀ b ∈ outs,0<=b.base:=λb hb=>by
   have h1:b.p ∈ z06 S:=by rw [<- hmap];exact List.mem_map.2 ⟨b,hb,rfl⟩
   have hv:z05 b=0:=((zg8 (Int.le_refl 0) hok).valid _ h1).1
   exact (z11 b hv).2.2.1.2.1.1
  have hop:zfk ⟨d,pre,seg,gap,S⟩ most=outs.foldl z56 (z6f ⟨d,pre,seg,gap,S⟩ most):=by
   unfold zfk
   show (z06 S).foldl z56 _=_
   rw [<- hmap,zpo]
  rw [hop]
  generalize z6f ⟨d,pre,seg,gap,S⟩ most=A0 at *
  refine zf (λq w'=>Sat w' (paP a10 (outs.foldl z56 A0)::dk d D'::r)) ?_ ?_
  rotate_left
  ·rintro _ w2 hs
   refine zm ?_
   exact ⟨rfl,a10,rfl,hs⟩
  refine z02 (λm q w=>∃ i:Nat,q=((i:Int),())/\i<=outs.length/\outs.length-i=m/\Sat w (paP a10 ((outs.take i).foldl z56 A0)::slc T.a0 7 y (outs.flatMap zo)::z1l outs::dk d D'::r)) outs.length ⟨0,rfl,by omega,rfl,hs⟩ ?_
  clear hs
  rintro m _ w ⟨i,rfl,hi,hm2,hs⟩
  refine zm ?_
  refine ze (λhc2=>?_) λhc2=>?_
  rotate_left
  ·rw [List.take_of_length_le (by omega)] at hs
   refine zh (zg ?_)
   exact hs.sub
  have hil:i<outs.length:=by omega
  have hb0:=hov _ (List.getElem_mem hil)
  have hbr:FocR (z1l outs::dk d D'::r) outs[i].x 4 (outs[i].rs.flatMap z00):=zcs (List.getElem_mem hil)
  have htk:outs.take (i+1)=outs.take i++[outs[i]]:=by rw [List.take_add_one,List.getElem?_eq_getElem hil,Option.toList_some]
  refine z32 hs i hil ?_
  refine zt hs λa33 w' hs=>?_
  refine zu hs λw' hs=>?_
  refine za hs ?_
  refine zf (λq w'=>Sat w' (paP a10 ((outs.take (i+1)).foldl z56 A0)::slc T.a0 7 y (outs.flatMap zo)::z1l outs::dk d D'::r)) ?_ ?_
  ·refine z0q ?_ (by simpa using hb0)
   refine zk hs ?_
   refine z8 (zpf (p:=a10) (A:=(outs.take i).foldl z56 A0) outs[i] hs) λ_ w' hs=>?_
   obtain ⟨rfl,hs⟩:=hs
   refine zb ?_
   refine zg ?_
   rw [htk,List.foldl_append,List.foldl_cons,List.foldl_nil]
   exact hs.sub
  clear hs
  rintro _ w hs
  refine zm ?_
  refine z3f (us':=[.int .i64 ((i+1:Nat):Int)]) (by (try simp (disch:=omega) only [w64]);first|rfl|(congr;omega)) ?_
  exact z0z (outs.length-(i+1)) ⟨i+1,rfl,by omega,rfl,hs⟩
end
theorem zyr (A:PartA) (D:DiskA) (b:BatM):(z12 A D b).2.1.L.d=A.L.d/\(z12 A D b).2.1.L.pre=A.L.pre/\(z12 A D b).2.1.L.seg=A.L.seg/\(z12 A D b).2.1.L.gap=A.L.gap/\(z12 A D b).2.1.most=A.most:=by
 unfold z12
 split
 ·exact ⟨rfl,rfl,rfl,rfl,rfl⟩
 unfold zq3
 split
 ·exact ⟨rfl,rfl,rfl,rfl,rfl⟩
 split
 ·exact ⟨rfl,rfl,rfl,rfl,rfl⟩
 ·exact ⟨rfl,rfl,rfl,rfl,rfl⟩
theorem zpe {A:PartA} {D:DiskA} (b:BatM) (hp:z30 A.L.pre=true) (h:Cpl A.L.pre A.L.l D):Cpl A.L.pre (z12 A D b).2.1.L.l (z12 A D b).2.2:=by
 unfold z12
 split
 ·exact h
 have h1:=(ze5 A.L.seg [b.to (zq A.L.l)] hp h).1
 unfold zq3
 split
 ·exact h1
 split
 ·exact (z7z h1).1
 ·exact (z7z h1).1
section
variable {w:World} {l r:List HP} {p d:Nat} {A:PartA} {D:DiskA}
theorem zv6 (b:BatM) {r1:List HP} [hf:Fo l paP p A r1] [hf2:Fo r1 dk A.L.d D r] (hb:FocR r b.x 4 (b.rs.flatMap z00)) (h:Cpl A.L.pre A.L.l D) (hr:b.rs.length<=1000000) (hm:z0g b=false) (hs:Sat w l) :
  Ret P F.a69 #[.pointer (some ⟨p,0,none⟩),.agg (zo b).toArray] w λvs w'=>vs=[.int .i64 (z12 A D b).1.1,.bool (z12 A D b).1.2.1,.int .i64 (z12 A D b).1.2.2]/\Sat w' (paP p (z12 A D b).2.1::dk A.L.d (z12 A D b).2.2::r):=by
 obtain ⟨h1,h2,h3⟩:=h.len
 exact zv7 b hb (by omega) h.segs (λs hs=>by have:=h3 s hs;omega) hr hm hs
theorem z01y (pid epoch:Int) (commit:Bool) (time:Int) {r1:List HP} [hf:Fo l paP p A r1] [hf2:Fo r1 dk A.L.d D r] (h:Cpl A.L.pre A.L.l D) (hs:Sat w l) :
  Ret P F.a72 #[.pointer (some ⟨p,0,none⟩),.int .i64 pid,.int .i64 epoch,.bool commit,.int .i64 time] w λvs w'=>vs=[.int .i64 (z12 A D (z4h pid epoch commit time ⟨none,0,0⟩)).1.1,.bool (z12 A D (z4h pid epoch commit time ⟨none,0,0⟩)).1.2.1,.int .i64 (z12 A D (z4h pid epoch commit time ⟨none,0,0⟩)).1.2.2]/\Sat w' (paP p (z12 A D (z4h pid epoch commit time ⟨none,0,0⟩)).2.1::dk A.L.d (z12 A D (z4h pid epoch commit time ⟨none,0,0⟩)).2.2::r):=by
 obtain ⟨h1,h2,h3⟩:=h.len
 exact z01t pid epoch commit time (by omega) h.segs (λs hs=>by have:=h3 s hs;omega) hs
theorem zcw (off most:Int) (c:Bool) (ho : -9223372036854775808<=off/\off<9223372036854775808) (hmo:most<9223372036854775808) {r1:List HP} [hf:Fo l paP p A r1] [hf2:Fo r1 dk A.L.d D r] (h:Cpl A.L.pre A.L.l D) (hs:Sat w l) :
  Ret P F.a74 #[.pointer (some ⟨p,0,none⟩),.int .i64 off,.int .i64 most,.bool c] w λvs w'=>∃ z:Sl,vs=[z.v,.int .i64 (z2q A off most c).1.2,.int .i64 (z2q A off most c).2]/\Sat w' (slc T.a33 5 z ((z2q A off most c).1.1.flatMap z20)::paP p A::dk A.L.d D::r):=by
 obtain ⟨h1,h2,h3⟩:=h.len
 exact z020 off most c ho hmo h.segs h.has (by omega) (by omega) hs
theorem zpa (pre:ByteArray) (seg gap most:Int) (hp:z30 pre=true) (hc:z71 seg gap) (hm:1<=most/\most<=1024) (hg:D.gone=false) {S:List SegA} (h:Cpl pre S D) (hno:∀ f ∈ D.fs,f.name≠zfs pre/\f.name≠zfw pre) [hf:Fo l dk d D r] (hs:Sat w l) :
  Ret P F.a68 #[.pointer (some ⟨d,0,none⟩),.string pre,.agg #[.int .i64 seg,.int .i64 gap,.int .i64 most]] w λvs w'=>∃ p:Nat,vs=[.pointer (some ⟨p,0,none⟩),.int .i64 0]/\Sat w' (paP p (zfk ⟨d,pre,seg,gap,S⟩ most)::dk d D::r):=by
 obtain ⟨h1,h2,h3⟩:=h.len
 exact zxd pre seg gap most hp hc hm hg S D h.opened hno h.segs h.has (by omega) (by omega) hs
end
def kR:List RecM:=[⟨ByteArray.mk #[107],ByteArray.mk #[],false,0⟩]
def kB (x:Sl):BatM:=⟨0,3,0,0,1,0,x,kR⟩
def kA (d:Nat):PartA:=z6f ⟨d,aP,100,9,[]⟩ 4
def kD:DiskA:=⟨10000,-1,false,[]⟩
def kM:BatM:=z4h 3 0 true 0 ⟨none,0,0⟩
theorem k1 (d:Nat) (x:Sl):(z12 (kA d) kD (kB x)).1=(0,false,0):=by kernel_rfl
section
variable {d:Nat} {x:Sl} {S U:PartA × DiskA}
theorem k2 (h:S=(z12 (kA d) kD (kB x)).2):z12 S.1 S.2 (kB x)=((0,true,0),S):=by subst h;kernel_rfl
theorem k3 (h:S=(z12 (kA d) kD (kB x)).2):z2q S.1 0 9 true=(([],0),0):=by subst h;kernel_rfl
theorem k4 (h:S=(z12 (kA d) kD (kB x)).2):((z2q S.1 0 9 false).1.1.length,(z2q S.1 0 9 false).1.2,(z2q S.1 0 9 false).2)=(1,1,0):=by subst h;kernel_rfl
theorem k5 (h:S=(z12 (kA d) kD (kB x)).2):(z12 S.1 S.2 kM).1=(1,false,0):=by subst h;kernel_rfl
theorem k6 (h:S=(z12 (kA d) kD (kB x)).2) (h2:U=(z12 S.1 S.2 kM).2):((z2q U.1 0 9 true).1.1.length,(z2q U.1 0 9 true).1.2,(z2q U.1 0 9 true).2)=(1,2,0):=by subst h h2;kernel_rfl
theorem k7 (h:S=(z12 (kA d) kD (kB x)).2):S.1.L.d=d/\S.1.L.pre=aP/\Cpl aP S.1.L.l S.2:=by
 have h1:=zyr (kA d) kD (kB x)
 have h2:=zpe (A:=kA d) (D:=kD) (kB x) (by kernel_rfl) (z9g aP 10000 (by omega))
 rw [<- h] at h1 h2
 exact ⟨h1.1,h1.2.1,h2⟩
theorem k8 (h:S.1.L.d=d/\S.1.L.pre=aP/\Cpl aP S.1.L.l S.2) (h2:U=(z12 S.1 S.2 kM).2):U.1.L.d=d/\U.1.L.pre=aP/\Cpl aP U.1.L.l U.2:=by
 obtain ⟨g1,g2,g3⟩:=h
 have h1:=zyr S.1 S.2 kM
 rw [<- g2] at g3
 have h3:=zpe (A:=S.1) (D:=S.2) kM (by rw [g2];kernel_rfl) g3
 rw [<- h2] at h1 h3
 exact ⟨h1.1.trans g1,h1.2.1.trans g2,by rw [g2] at h3;exact h3⟩
end
section
variable {w:World} {l r:List HP} {p d:Nat} {A:PartA} {D:DiskA}
theorem zqb {w:World} {d e:Nat} {D:DiskA} {X:HP} {l:List HP} (h:e=d) (hs:Sat w (X::dk d D::l)):Sat w (X::dk e D::l):=by rw [h];exact hs
theorem zv5 {x:List AtM × Int} {e:Int} {n:Nat} {k m:Int} (h:(x.1.length,x.2,e)=(n,k,m)):x.1.length=n/\x.2=k/\e=m:=by
 simp only [Prod.mk.injEq] at h
 exact h
set_option maxHeartbeats 1000000 in
theorem zh6 (hs:Sat w l):Ret P F.a164 #[] w λvs w'=>vs=[.bool true]/\Sat w' l :=
 z96 <| by
  unfold z82
  refine z8 (zv0 10000 (by omega) hs) λ_ w' hs=>?_
  obtain ⟨d,rfl,hs⟩:=hs
  refine ⟨(some ⟨d,0,none⟩,0,()),rfl,trivial,z2p _ _ ?_⟩
  refine wp_lt ?_
  have hs:Sat w' (dk d kD::l):=hs
  have hp0:z30 aP=true:=by kernel_rfl
  refine z8 (zpa (d:=d) (D:=kD) aP 100 9 4 hp0 ⟨by decide,by decide⟩ (by omega) rfl (z9g aP 10000 (by omega)) (λf hf=>by cases hf) hs) λ_ w' hs=>?_
  obtain ⟨p,rfl,hs⟩:=hs
  refine ⟨(some ⟨p,0,none⟩,0,()),rfl,trivial,z2p _ _ ?_⟩
  refine wp_lt ?_
  refine zw ?_ (by simp)
  have hs:Sat w' (paP p (kA d)::dk d kD::l):=hs
  refine zpv hs (enc:=z00) kR λx w' hs=>?_
  refine zt hs λa w' hs=>?_
  refine zu hs λw' hs=>?_
  have hb:FocR (pt a (.cells #[.int .i64 0,.int .i64 3,.int .i64 0,.int .i64 0,.int .i64 1,.int .i64 0,.slice x.a x.len x.cap] T.a0)::slc T.a2 4 x (kR.flatMap z00)::l) (kB x).x 4 ((kB x).rs.flatMap z00) :=
   (FocR.tail (h:=FocR.head):FocR (pt a (.cells #[.int .i64 0,.int .i64 3,.int .i64 0,.int .i64 0,.int .i64 1,.int .i64 0,.slice x.a x.len x.cap] T.a0)::slc T.a2 4 x (kR.flatMap z00)::l) x 4 (kR.flatMap z00))
  have hs:Sat w' (pt a (.cells #[.int .i64 0,.int .i64 3,.int .i64 0,.int .i64 0,.int .i64 1,.int .i64 0,.slice x.a x.len x.cap] T.a0)::slc T.a2 4 x (kR.flatMap z00)::paP p (kA d)::dk d kD::l):=hs
  have c0:Cpl aP [] kD:=z9g aP 10000 (by omega)
  obtain ⟨S,hS⟩:∃ S,S=(z12 (kA d) kD (kB x)).2:=⟨_,rfl⟩
  obtain ⟨U,hU⟩:∃ U,U=(z12 S.1 S.2 kM).2:=⟨_,rfl⟩
  have e1:=k1 d x
  have e2:=k2 hS
  have e3:=k3 hS
  have e4:=k4 hS
  have e5:=k5 hS
  have e6:=k6 hS hU
  have e7:=k7 hS
  obtain ⟨g3,g4,c2⟩:=k8 e7 hU
  obtain ⟨g1,g2,c1⟩:=e7
  rw [<- g2] at c1
  rw [<- g4] at c2
  have hrl:(kB x).rs.length<=1000000:=by show 1<=_;omega
  refine zk hs ?_
  have hs:Sat w' (paP p (kA d)::dk (kA d).L.d kD::pt a (.cells #[.int .i64 0,.int .i64 3,.int .i64 0,.int .i64 0,.int .i64 1,.int .i64 0,.slice x.a x.len x.cap] T.a0)::slc T.a2 4 x (kR.flatMap z00)::l):=hs.pick [2,2]
  refine z8 (zv6 (p:=p) (A:=kA d) (D:=kD) (kB x) hb c0 hrl rfl hs) λ_ w' hs=>?_
  obtain ⟨hv,hs⟩:=hs
  rw [e1] at hv
  rw [<- hS] at hs
  subst hv
  refine ⟨(0,false,0,()),rfl,trivial,z7t _ _ _ ?_⟩
  refine wp_lt ?_
  refine wp_lt ?_
  refine wp_lt ?_
  have hs:Sat w' (paP p S.1::dk d S.2::pt a (.cells #[.int .i64 0,.int .i64 3,.int .i64 0,.int .i64 0,.int .i64 1,.int .i64 0,.slice x.a x.len x.cap] T.a0)::slc T.a2 4 x (kR.flatMap z00)::l):=hs
  refine zk hs ?_
  have hs:=zqb g1 hs
  refine z8 (zv6 (p:=p) (A:=S.1) (D:=S.2) (kB x) hb c1 hrl rfl hs) λ_ w' hs=>?_
  obtain ⟨hv,hs⟩:=hs
  rw [e2] at hv hs
  subst hv
  refine ⟨(0,true,0,()),rfl,trivial,z7t _ _ _ ?_⟩
  refine wp_lt ?_
  refine wp_lt ?_
  refine wp_lt ?_
  refine z8 (zcw (p:=p) (A:=S.1) (D:=S.2) 0 9 true (by omega) (by omega) c1 hs) λ_ w' hs=>?_
  obtain ⟨z1,hv,hs⟩:=hs
  rw [e3] at hv hs
  subst hv
  refine ⟨(z1,0,0,()),rfl,trivial,z7t _ _ _ ?_⟩
  have hz1:=hs.slen z1 (xs:=([]:List AtM)) (enc:=z20)
  have hs:=hs.tail
  refine wp_lt ?_
  refine wp_lt ?_
  refine z8 (zcw (p:=p) (A:=S.1) (D:=S.2) 0 9 false (by omega) (by omega) c1 hs) λ_ w' hs=>?_
  obtain ⟨z2,hv,hs⟩:=hs
  obtain ⟨q1,q2,q3⟩:=zv5 e4
  have hz2:=hs.slen z2 (xs:=(z2q S.1 0 9 false).1.1) (enc:=z20)
  rw [q1] at hz2
  rw [q2,q3] at hv
  subst hv
  refine ⟨(z2,1,0,()),rfl,trivial,z7t _ _ _ ?_⟩
  have hs:=hs.tail
  refine wp_lt ?_
  refine wp_lt ?_
  refine z8 (z01y (p:=p) (A:=S.1) (D:=S.2) 3 0 true 0 c1 hs) λ_ w' hs=>?_
  obtain ⟨hv,hs⟩:=hs
  have hs:Sat w' (paP p (z12 S.1 S.2 kM).2.1::dk S.1.L.d (z12 S.1 S.2 kM).2.2::_):=hs
  rw [<- hU] at hs
  have hv:_=[Value.int .i64 (z12 S.1 S.2 kM).1.1,Value.bool (z12 S.1 S.2 kM).1.2.1,Value.int .i64 (z12 S.1 S.2 kM).1.2.2]:=hv
  rw [e5] at hv
  subst hv
  refine ⟨(1,false,0,()),rfl,trivial,z7t _ _ _ ?_⟩
  have hs:Sat w' (paP p U.1::dk S.1.L.d U.2::pt a (.cells #[.int .i64 0,.int .i64 3,.int .i64 0,.int .i64 0,.int .i64 1,.int .i64 0,.slice x.a x.len x.cap] T.a0)::slc T.a2 4 x (kR.flatMap z00)::l):=hs
  refine wp_lt ?_
  refine wp_lt ?_
  refine wp_lt ?_
  have hs:=zqb (g3.trans g1.symm) hs
  refine z8 (zcw (p:=p) (A:=U.1) (D:=U.2) 0 9 true (by omega) (by omega) c2 hs) λ_ w' hs=>?_
  obtain ⟨z3,hv,hs⟩:=hs
  obtain ⟨q1,q2,q3⟩:=zv5 e6
  have hz3:=hs.slen z3 (xs:=(z2q U.1 0 9 true).1.1) (enc:=z20)
  rw [q1] at hz3
  rw [q2,q3] at hv
  subst hv
  refine ⟨(z3,2,0,()),rfl,trivial,z7t _ _ _ ?_⟩
  refine wp_lt ?_
  refine wp_lt ?_
  refine wp_lt ?_
  refine ⟨rfl,?_,hs.tail.tail.tail.tail.tail⟩
  rw [hz1,hz2,hz3]
  rfl
end
section
variable {w:World} {l r:List HP} {p d a:Nat} {A:PartA} {D:DiskA} {R:RefM}
theorem zr6 {r1:List HP} [hf:Fo l paP p A r1] [hf2:Fo r1 dk A.L.d D r] (h:Cpl A.L.pre A.L.l D) (hs:Sat w l) :
  Ret P F.a70 #[.pointer (some ⟨p,0,none⟩)] w λvs w'=>∃ (z:Sl) (outs:List BatM),vs=[z.v]/\outs.map BatM.p=z06 A.L.l/\Sat w' (slc T.a0 7 z (outs.flatMap zo)::z1l outs::paP p A::dk A.L.d D::r) :=
 zt6 _ <| by
  delta z05s AI AJ Ah Ai Am Az
  obtain ⟨h1,h2,h3⟩:=h.len
  obtain ⟨lg,t,v,hs⟩:=z4n (hs.perm (hf.perm.trans (.cons _ hf2.perm)))
  refine zw ?_ (by simp)
  refine zj ?_
  refine za hs ?_
  refine z8 (zum (lg:=lg) (A:=A.L) (D:=D) h.segs h.has (by omega) (by omega) hs) λ_ w' hs=>?_
  obtain ⟨z,outs,rfl,hm,hs⟩:=hs
  refine zb ?_
  have hs:Sat w' (paP p A::slc T.a0 7 z (outs.flatMap zo)::z1l outs::dk A.L.d D::r):=z2e (lg:=lg) (t:=t) (v:=v) A hs
  exact ⟨rfl,z,outs,rfl,hm,hs.pick [1,1]⟩
theorem zvj (seg gap:Int) [hf:Fo l rfP a ⟨seg,gap,[]⟩ r] (hs:Sat w l):Ret P F.a178 #[.pointer (some ⟨a,0,none⟩),.int .i64 0,.int .i64 1000] w λvs w'=>vs=[.slice none 0 0,.int .i64 0]/\Sat w' (rfP a ⟨seg,gap,[]⟩::r) :=
 znn _ _ _ <| by
  delta z008 AB AC AD AE AF AQ AR Aa Ad Ae Ah Ai Aj Al Am Ax Az BG
  have hs:=hs.perm hf.perm
  clear hf
  have hok:okR ⟨seg,gap,[]⟩ r:=zcv
  refine zw ?_ (by simp)
  refine zf (λq w'=>q=(false,())/\Sat w' (rfP a ⟨seg,gap,[]⟩::r)) ?_ ?_
  ·refine z8 (zef (a:=a) (R:=⟨seg,gap,[]⟩) hs) λ_ w' hs=>?_
   obtain ⟨rfl,hs⟩:=hs
   refine zb ?_
   refine zw ?_ (by show ¬ (0:Int)<0;omega)
   refine z8 (zgu (a:=a) (R:=⟨seg,gap,[]⟩) hs) λ_ w' hs=>?_
   obtain ⟨rfl,hs⟩:=hs
   refine zb ?_
   exact zg ⟨rfl,hs⟩
  clear hs
  rintro _ w ⟨rfl,hs⟩
  refine zm ?_
  refine zw ?_ (by simp)
  refine z8 (zve (a:=a) (R:=⟨seg,gap,[]⟩) hs) λ_ w' hs=>?_
  obtain ⟨y,rfl,hs⟩:=hs
  refine zb ?_
  have hy:=hs.slen y (xs:=([]:List BatM)) (enc:=zo)
  refine zf (λq w'=>q=(⟨none,0,0⟩,())/\Sat w' (rfP a ⟨seg,gap,[]⟩::r)) ?_ ?_
  ·refine z02 (λm q w=>q=(⟨none,0,0⟩,0,())/\Sat w (rfP a ⟨seg,gap,[]⟩::r)) 0 ⟨rfl,hs.tail⟩ ?_
   clear hs
   rintro m _ w ⟨rfl,hs⟩
   refine z2p _ _ ?_
   refine zw ?_ (by rw [hy];simp)
   exact zh (zg ⟨rfl,hs⟩)
  clear hs
  rintro _ w ⟨rfl,hs⟩
  refine zm ?_
  exact ⟨rfl,rfl,hs⟩
theorem zr5 (x y:Sl) (h1:x.len=0) (h2:y.len=0) (hs:Sat w l):Ret P F.a163 #[x.v,y.v] w λvs w'=>vs=[.bool true]/\Sat w' l :=
 zne x y <| by
  delta zzz AA AB AF AL AN Aa Ac Ai Am Aq Ay
  rw [h1,h2]
  refine zw ?_ (by simp)
  refine zf (λq w'=>Sat w' l) ?_ ?_
  ·refine z02 (λm q w=>q=(0,())/\Sat w l) 0 ⟨rfl,hs⟩ ?_
   clear hs
   rintro m _ w ⟨rfl,hs⟩
   refine zm ?_
   refine zw ?_ (by simp)
   exact zh (zg hs)
  clear hs
  rintro _ w hs
  refine zm ?_
  exact ⟨rfl,rfl,hs⟩
theorem zlt {rv rp rt:Nat} (seg gap:Int) (hs:Sat w (paP p A::dk A.L.d D::rfP a ⟨seg,gap,[]⟩::pt rv (.cells #[.int .i64 0,.slice none 0 0,.slice none 0 0] T.a57)::pt rp (.cells #[.pointer (some ⟨a,0,none⟩),.pointer (some ⟨rt,0,none⟩),.pointer (some ⟨rv,0,none⟩),.bool false,.int .i64 0,.pointer none,.pointer none] T.a58)::l)) :
  Ret P F.a185 #[.pointer (some ⟨rp,0,none⟩)] w λvs w'=>vs=[.int .i64 0]/\Sat w' (paP p A::dk A.L.d D::rfP a ⟨seg,gap,[]⟩::pt rv (.cells #[.int .i64 0,.slice none 0 0,.slice none 0 0] T.a57)::pt rp (.cells #[.pointer (some ⟨a,0,none⟩),.pointer (some ⟨rt,0,none⟩),.pointer (some ⟨rv,0,none⟩),.bool false,.int .i64 0,.pointer none,.pointer none] T.a58)::l) :=
 znr _ <| by
  delta z00c AB AI AJ AL AN AW Aa Ac Ah Ai Aj Am Ax Bp
  refine zj ?_
  refine za hs ?_
  refine zj ?_
  refine za hs ?_
  refine z0q ?_ (by simp)
  refine zj ?_
  refine za hs ?_
  refine z8 (@zgu _ _ _ a ⟨seg,gap,[]⟩ inferInstance zcv hs) λ_ w' hs=>?_
  obtain ⟨rfl,hs⟩:=hs
  refine zb ?_
  refine wp_lt ?_
  exact ⟨rfl,rfl,hs.pick [1,1]⟩
theorem zrf {rv rp rt:Nat} (seg gap:Int) (hs:Sat w (paP p A::dk A.L.d D::rfP a ⟨seg,gap,[]⟩::pt rv (.cells #[.int .i64 0,.slice none 0 0,.slice none 0 0] T.a57)::pt rp (.cells #[.pointer (some ⟨a,0,none⟩),.pointer (some ⟨rt,0,none⟩),.pointer (some ⟨rv,0,none⟩),.bool false,.int .i64 0,.pointer none,.pointer none] T.a58)::l)) :
  Ret P F.a184 #[.pointer (some ⟨rp,0,none⟩),.int .i64 0,.int .i64 1000,.bool true] w λvs w'=>vs=[.slice none 0 0,.int .i64 0,.int .i64 0]/\Sat w' (paP p A::dk A.L.d D::rfP a ⟨seg,gap,[]⟩::pt rv (.cells #[.int .i64 0,.slice none 0 0,.slice none 0 0] T.a57)::pt rp (.cells #[.pointer (some ⟨a,0,none⟩),.pointer (some ⟨rt,0,none⟩),.pointer (some ⟨rv,0,none⟩),.bool false,.int .i64 0,.pointer none,.pointer none] T.a58)::l) :=
 znq _ _ _ _ <| by
  delta z00b AB AC AD AE AF AI AJ AK AL AM AN AO AP AQ AR Aa Ac Ad Ae Ah Ai Aj Am Ax Az Bj
  refine zj ?_
  refine za hs ?_
  refine z8 (zvj (a:=a) seg gap hs) λ_ w' hs=>?_
  obtain ⟨rfl,hs⟩:=hs
  refine ⟨(⟨none,0,0⟩,0,()),rfl,trivial,z2p _ _ ?_⟩
  have hs:=hs.pick [1,1]
  refine wp_lt ?_
  refine zw ?_ (by simp)
  refine wp_lt ?_
  refine zf (λq w'=>q=(⟨none,0,0⟩,0,())/\Sat w' (paP p A::dk A.L.d D::rfP a ⟨seg,gap,[]⟩::pt rv (.cells #[.int .i64 0,.slice none 0 0,.slice none 0 0] T.a57)::pt rp (.cells #[.pointer (some ⟨a,0,none⟩),.pointer (some ⟨rt,0,none⟩),.pointer (some ⟨rv,0,none⟩),.bool false,.int .i64 0,.pointer none,.pointer none] T.a58)::l)) ?_ ?_
  ·refine z02 (λm q w=>q=(⟨none,0,0⟩,0,0,())/\Sat w (paP p A::dk A.L.d D::rfP a ⟨seg,gap,[]⟩::pt rv (.cells #[.int .i64 0,.slice none 0 0,.slice none 0 0] T.a57)::pt rp (.cells #[.pointer (some ⟨a,0,none⟩),.pointer (some ⟨rt,0,none⟩),.pointer (some ⟨rv,0,none⟩),.bool false,.int .i64 0,.pointer none,.pointer none] T.a58)::l)) 0 ⟨rfl,hs⟩ ?_
   clear hs
   rintro m _ w ⟨rfl,hs⟩
   refine z7t _ _ _ ?_
   refine zw ?_ (by simp)
   exact zh (zg ⟨rfl,hs⟩)
  clear hs
  rintro _ w ⟨rfl,hs⟩
  refine z2p _ _ ?_
  refine wp_lt ?_
  exact ⟨rfl,rfl,hs⟩
theorem zxr {rv rp rt:Nat} (seg gap:Int) (h1:A.L.l=[]) (h2:A.V.op=[]) (hc:Cpl A.L.pre A.L.l D)
  (hs:Sat w (paP p A::dk A.L.d D::rfP a ⟨seg,gap,[]⟩::pt rv (.cells #[.int .i64 0,.slice none 0 0,.slice none 0 0] T.a57)::pt rp (.cells #[.pointer (some ⟨a,0,none⟩),.pointer (some ⟨rt,0,none⟩),.pointer (some ⟨rv,0,none⟩),.bool false,.int .i64 0,.pointer none,.pointer none] T.a58)::l)) :
  Ret P F.a165 #[.pointer (some ⟨p,0,none⟩),.pointer (some ⟨rp,0,none⟩)] w λvs w'=>vs=[.bool true] /\
   Sat w' (paP p A::dk A.L.d D::rfP a ⟨seg,gap,[]⟩::pt rv (.cells #[.int .i64 0,.slice none 0 0,.slice none 0 0] T.a57)::pt rp (.cells #[.pointer (some ⟨a,0,none⟩),.pointer (some ⟨rt,0,none⟩),.pointer (some ⟨rv,0,none⟩),.bool false,.int .i64 0,.pointer none,.pointer none] T.a58)::l) :=
 znf _ _ <| by
  delta z000 AI AJ AL AN AO AS Aa Ac Ah Ai Aj Ak Al Am Ax Az
  have e1:z1t A.L.l=0:=by rw [h1];rfl
  have e2:zq A.L.l=0:=by rw [h1];rfl
  have e3:z59 A=0:=by unfold z59;rw [h2,e2];rfl
  have e4:z2q A 0 1000 true=(([],0),0):=by
   have:z4g A.L.l 0 1000=(0,[]):=by rw [h1];rfl
   unfold z2q;rw [this];rfl
  have hlen:A.L.l.length<=1000000000:=by rw [h1];exact Nat.zero_le _
  refine zf (λq w'=>q=(false,())/\Sat w' (paP p A::dk A.L.d D::rfP a ⟨seg,gap,[]⟩::pt rv (.cells #[.int .i64 0,.slice none 0 0,.slice none 0 0] T.a57)::pt rp (.cells #[.pointer (some ⟨a,0,none⟩),.pointer (some ⟨rt,0,none⟩),.pointer (some ⟨rv,0,none⟩),.bool false,.int .i64 0,.pointer none,.pointer none] T.a58)::l)) ?_ ?_
  ·refine zy hs λw' hs=>?_
   refine z0c ?_
   refine z0x hs ?_
   refine zw ?_ (by simp)
   refine z8 (zea (p:=p) (A:=A) hs) λ_ w' hs=>?_
   obtain ⟨rfl,hs⟩:=hs
   refine zb ?_ (by first|trivial|(repeat (first|exact trivial|exact λ_=>z08 hs|exact λ_=>z0i hs|refine And.intro ?_ ?_)))
   refine zd ?_
   refine z8 (zef (a:=a) (R:=⟨seg,gap,[]⟩) hs) λ_ w' hs=>?_
   obtain ⟨rfl,hs⟩:=hs
   refine zb ?_
   refine z0c ?_
   refine z0x hs ?_
   refine zw ?_ (by rw [e1];simp;rfl)
   refine z8 (zgq (p:=p) (A:=A) hlen hs) λ_ w' hs=>?_
   obtain ⟨rfl,hs⟩:=hs
   refine zb ?_ (by first|trivial|(repeat (first|exact trivial|exact λ_=>z08 hs|exact λ_=>z0i hs|refine And.intro ?_ ?_)))
   refine zd ?_
   refine z8 (@zgu _ _ _ a ⟨seg,gap,[]⟩ inferInstance zcv hs) λ_ w' hs=>?_
   obtain ⟨rfl,hs⟩:=hs
   refine zb ?_
   refine zw ?_ (by rw [e2];simp;rfl)
   have hs:Sat w' (paP p A::dk A.L.d D::rfP a ⟨seg,gap,[]⟩::pt rv (.cells #[.int .i64 0,.slice none 0 0,.slice none 0 0] T.a57)::pt rp (.cells #[.pointer (some ⟨a,0,none⟩),.pointer (some ⟨rt,0,none⟩),.pointer (some ⟨rv,0,none⟩),.bool false,.int .i64 0,.pointer none,.pointer none] T.a58)::l):=hs.sub
   refine z8 (zi8 (p:=p) (A:=A) hlen hs) λ_ w' hs=>?_
   obtain ⟨rfl,hs⟩:=hs
   refine zb ?_
   refine z8 (zlt seg gap hs) λ_ w' hs=>?_
   obtain ⟨rfl,hs⟩:=hs
   refine zb ?_
   refine z0c ?_
   refine z0x hs ?_
   refine zw ?_ (by rw [e3];simp)
   refine z8 (zr6 (p:=p) (A:=A) (D:=D) hc hs) λ_ w' hs=>?_
   obtain ⟨z,outs,rfl,hm,hs⟩:=hs
   refine zb ?_ (by first|trivial|(repeat (first|exact trivial|exact λ_=>z08 hs|exact λ_=>z0i hs|refine And.intro ?_ ?_)))
   have ho:outs=[]:=by rw [h1] at hm;exact List.map_eq_nil_iff.1 hm
   subst ho
   refine zd ?_
   refine z8 (@zve _ _ _ a ⟨seg,gap,[]⟩ inferInstance zcv hs) λ_ w' hs=>?_
   obtain ⟨y,rfl,hs⟩:=hs
   refine zb ?_
   refine z8 (zqf z y [] [] rfl inferInstance inferInstance (λ_ h=>by cases h) (λ_ h=>by cases h) (by simp) (by simp) hs) λ_ w' hs=>?_
   obtain ⟨rfl,hs⟩:=hs
   refine zb ?_
   refine zd ?_
   exact zg ⟨rfl,hs.sub⟩
  clear hs
  rintro _ w ⟨rfl,hs⟩
  refine zm ?_
  refine zw ?_ (by simp)
  refine z8 (zea (p:=p) (A:=A) hs) λ_ w' hs=>?_
  obtain ⟨rfl,hs⟩:=hs
  refine zb ?_
  rw [e1]
  refine z8 (zcw (p:=p) (A:=A) (D:=D) 0 1000 true (by omega) (by omega) hc hs) λ_ w' hs=>?_
  obtain ⟨z,hv,hs⟩:=hs
  rw [e4] at hv hs
  subst hv
  refine ⟨(z,0,0,()),rfl,trivial,z7t _ _ _ ?_⟩
  have hz:=hs.slen z (xs:=([]:List AtM)) (enc:=z20)
  have hs:=hs.tail
  refine wp_lt ?_
  refine wp_lt ?_
  refine zj ?_
  refine za hs ?_
  refine z8 (zef (a:=a) (R:=⟨seg,gap,[]⟩) hs) λ_ w' hs=>?_
  obtain ⟨rfl,hs⟩:=hs
  refine zb ?_
  have hs:Sat w' (paP p A::dk A.L.d D::rfP a ⟨seg,gap,[]⟩::pt rv (.cells #[.int .i64 0,.slice none 0 0,.slice none 0 0] T.a57)::pt rp (.cells #[.pointer (some ⟨a,0,none⟩),.pointer (some ⟨rt,0,none⟩),.pointer (some ⟨rv,0,none⟩),.bool false,.int .i64 0,.pointer none,.pointer none] T.a58)::l):=hs.sub
  refine z8 (zrf seg gap hs) λ_ w' hs=>?_
  obtain ⟨rfl,hs⟩:=hs
  refine ⟨(⟨none,0,0⟩,0,0,()),rfl,trivial,z7t _ _ _ ?_⟩
  refine wp_lt ?_
  refine wp_lt ?_
  refine zf (λq w'=>q=(true,())/\Sat w' (paP p A::dk A.L.d D::rfP a ⟨seg,gap,[]⟩::pt rv (.cells #[.int .i64 0,.slice none 0 0,.slice none 0 0] T.a57)::pt rp (.cells #[.pointer (some ⟨a,0,none⟩),.pointer (some ⟨rt,0,none⟩),.pointer (some ⟨rv,0,none⟩),.bool false,.int .i64 0,.pointer none,.pointer none] T.a58)::l)) ?_ ?_
  ·refine z0q ?_ (by simp)
   refine z8 (zr5 z ⟨none,0,0⟩ hz rfl hs) λ_ w' hs=>?_
   obtain ⟨rfl,hs⟩:=hs
   refine zb ?_
   refine wp_lt ?_
   exact zg ⟨rfl,hs⟩
  clear hs
  rintro _ w ⟨rfl,hs⟩
  refine zm ?_
  exact ⟨rfl,rfl,hs⟩
theorem z06r (seg gap most:Int) (hw1 : -9223372036854775808<=seg/\seg<9223372036854775808) (hw2 : -9223372036854775808<=gap/\gap<9223372036854775808) (hw3 : -9223372036854775808<=most/\most<9223372036854775808) (hs:Sat w l) :
  Ret P F.a162 #[.int .i64 seg,.int .i64 gap,.int .i64 most] w λvs w'=>vs=[.bool true]/\Sat w' l :=
 znd seg gap most <| by
  delta zzy Aa Ab Ac Ad Ae Af Ag Ah Ai Aj Ak Al Am An Ao
  refine z8 (zv0 1000 (by omega) hs) λ_ w' hs=>?_
  obtain ⟨d,rfl,hs⟩:=hs
  refine ⟨(some ⟨d,0,none⟩,0,()),rfl,trivial,z2p _ _ ?_⟩
  refine wp_lt ?_
  refine zt hs λa3 w' hs=>?_
  refine zu hs λw' hs=>?_
  have hs:Sat w' (dk d ⟨1000,-1,false,[]⟩::pt a3 (.cells #[.int .i64 seg,.int .i64 gap,.int .i64 most] T.a31)::l):=hs.pick [1]
  refine zk hs ?_
  have hp0:z30 aP=true:=by kernel_rfl
  by_cases hbad:(most<1\/most>1024)\/¬ z71 seg gap
  ·refine z8 (R:=λvs w'=>vs=[.pointer none,.int .i64 2]/\Sat w' (dk d ⟨1000,-1,false,[]⟩::pt a3 (.cells #[.int .i64 seg,.int .i64 gap,.int .i64 most] T.a31)::l)) ?_ λ_ w' hs=>?_
   ·by_cases hm:most<1\/most>1024
    ·exact zva aP seg gap most hm hs
    ·refine zcg aP seg gap most (by omega) 2 (by omega) (λhs=>?_) hs
     exact zuq aP seg gap (λh=>by rcases hbad with h1|h1;exact hm h1;exact h1 h.2) hs
   obtain ⟨rfl,hs⟩:=hs
   refine ⟨(none,2,()),rfl,trivial,z2p _ _ ?_⟩
   refine wp_lt ?_
   refine z0q ?_ (by unfold z71 at hbad;simp;omega)
   refine zf (λq w'=>q=(true,())/\Sat w' l) ?_ ?_
   ·refine z0q ?_ (by simp)
    refine z8 (zh6 hs.tail.tail) λ_ w' hs=>?_
    obtain ⟨rfl,hs⟩:=hs
    refine zb ?_
    refine wp_lt ?_
    exact zg ⟨rfl,hs⟩
   clear hs
   rintro _ w ⟨rfl,hs⟩
   refine zm ?_
   exact ⟨rfl,rfl,hs⟩
  have hc:z71 seg gap:=Classical.byContradiction λh=>hbad (.inr h)
  have hm:1<=most/\most<=1024:=by omega
  have c0:Cpl aP [] ⟨1000,-1,false,[]⟩:=z9g aP 1000 (by omega)
  refine z8 (zpa (d:=d) (D:=⟨1000,-1,false,[]⟩) aP seg gap most hp0 hc hm rfl c0 (λf hf=>by cases hf) hs) λ_ w' hs=>?_
  obtain ⟨p,rfl,hs⟩:=hs
  refine ⟨(some ⟨p,0,none⟩,0,()),rfl,trivial,z2p _ _ ?_⟩
  refine wp_lt ?_
  refine zw ?_ (by unfold z71 at hc;simp;omega)
  obtain ⟨A,hA⟩:∃ A,A=zfk ⟨d,aP,seg,gap,[]⟩ most:=⟨_,rfl⟩
  rw [<- hA] at hs
  have h1:A.L.l=[]:=by rw [hA];rfl
  have h2:A.V.op=[]:=by rw [hA];rfl
  have h3:A.L.d=d:=by rw [hA];rfl
  have h4:A.L.pre=aP:=by rw [hA];rfl
  have hcp:Cpl A.L.pre A.L.l ⟨1000,-1,false,[]⟩:=by rw [h4,h1];exact c0
  clear hA
  refine zf (λq w'=>q=(false,())/\Sat w' (dk d ⟨1000,-1,false,[]⟩::pt a3 (.cells #[.int .i64 seg,.int .i64 gap,.int .i64 most] T.a31)::l)) ?_ ?_
  ·refine zw ?_ (by simp)
   have hs:=zqb h3 hs
   refine z8 (R:=λvs w'=>∃ rp a rt rv:Nat,vs=[.pointer (some ⟨rp,0,none⟩)]/\Sat w' (paP p A::dk A.L.d ⟨1000,-1,false,[]⟩::rfP a ⟨seg,gap,[]⟩::pt rv (.cells #[.int .i64 0,.slice none 0 0,.slice none 0 0] T.a57)::pt rp (.cells #[.pointer (some ⟨a,0,none⟩),.pointer (some ⟨rt,0,none⟩),.pointer (some ⟨rv,0,none⟩),.bool false,.int .i64 0,.pointer none,.pointer none] T.a58)::pt a3 (.cells #[.int .i64 seg,.int .i64 gap,.int .i64 most] T.a31)::l)) ?_ λ_ w' hs=>?_
   ·refine znp seg gap most ?_
    delta z00a Aa Ah Am Ap Av
    refine zn hs λa w' hs=>?_
    have hs:=z03x hs
    refine zn hs λrt w' hs=>?_
    refine zn hs λrv w' hs=>?_
    refine zn hs λrp w' hs=>?_
    exact ⟨rfl,rp,a,rt,rv,rfl,hs.sub⟩
   obtain ⟨rp,a,rt,rv,rfl,hs⟩:=hs
   refine zb ?_
   refine z8 (zxr seg gap h1 h2 hcp hs) λ_ w' hs=>?_
   obtain ⟨rfl,hs⟩:=hs
   refine zb ?_
   refine zg ⟨rfl,?_⟩
   rw [h3] at hs
   exact hs.sub
  clear hs
  rintro _ w ⟨rfl,hs⟩
  refine zm ?_
  refine zw ?_ (by simp)
  refine z8 (z037 (d:=d) 0 (by omega) hs) λ_ w' hs=>?_
  obtain ⟨rfl,hs⟩:=hs
  refine zb ?_
  have hs:Sat w' (dk d ⟨1000,0,true,[]⟩::pt a3 (.cells #[.int .i64 seg,.int .i64 gap,.int .i64 most] T.a31)::l):=hs
  refine zk hs ?_
  refine z8 (zcg aP seg gap most hm 9 (by omega) (λ{w X} hs=>(zqv (d:=d) (D:=⟨1000,0,true,[]⟩) aP seg gap hp0 hc rfl hs).mono λvs w' h=>⟨h.1,h.2.pick [1]⟩) hs) λ_ w' hs=>?_
  obtain ⟨rfl,hs⟩:=hs
  refine ⟨(none,9,()),rfl,trivial,z2p _ _ ?_⟩
  refine wp_lt ?_
  refine zk hs ?_
  refine z8 (zcg aP seg gap most hm 1 (by omega) (λhs=>zur aP seg gap hs) hs) λ_ w' hs=>?_
  obtain ⟨rfl,hs⟩:=hs
  refine ⟨(none,1,()),rfl,trivial,z2p _ _ ?_⟩
  refine wp_lt ?_
  refine zf (λq w'=>q=(true,())/\Sat w' l) ?_ ?_
  ·refine z0q ?_ (by simp)
   refine z8 (zh6 hs.tail.tail) λ_ w' hs=>?_
   obtain ⟨rfl,hs⟩:=hs
   refine zb ?_
   refine wp_lt ?_
   exact zg ⟨rfl,hs⟩
  clear hs
  rintro _ w ⟨rfl,hs⟩
  refine zm ?_
  exact ⟨rfl,rfl,hs⟩
end
end Go.Dec
