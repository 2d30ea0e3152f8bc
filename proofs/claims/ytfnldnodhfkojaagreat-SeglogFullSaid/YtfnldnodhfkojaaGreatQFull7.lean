/- What the claim of this folder leans on: our own texts, joined, without what it does not use. -/
import Derived.Test.YtfnldnodhfkojaaGreatRows
import Derived.WalkKit
import Derived.ProofKit
import Derived.OpenShut
import Derived.RowKit3
import Derived.OrdersHeld
import Derived.Scope
import Derived.KernelRfl
import Derived.Laws.Sem
import Derived.Laws.StructEq
import Derived.Deep.AppendSrc
import Derived.Laws.BytesArg
import Derived.Laws.RangeString
import Derived.Maps.RangeRun
import Derived.Lib.ConvBytes
import Derived.Lib.SlBytesConst
import Derived.ChangeSlices
import Derived.ChangeMaps5
import Derived.ChangeSame
import Derived.Deep.Slices
import Derived.Deep.Fields
import Derived.Test.YtfnldnodhfkojaaGreatProg
import Derived.Laws.MakeOwn
import Derived.Sort.MapsRangeIn
import Derived.Sort.KeysCollected
import Derived.RangeFuncNested
import Derived.RangeFuncBound
import Derived.RangeFuncCalls
import Derived.RangeFuncLeaves
import Derived.RangeFuncBox
import Derived.OwnWalkIn
import Derived.TacticsInMore
import Derived.RegionIn
import Derived.LoopNIn
import Derived.LoopIn
import Derived.Maps.AppendAt
import Derived.Shelf.Abstract
import Derived.Test.YtfnldnodhfkojaaGreatQFull1
import Derived.Test.YtfnldnodhfkojaaGreatQFull2
import Derived.Test.YtfnldnodhfkojaaGreatQFull3
import Derived.Test.YtfnldnodhfkojaaGreatQFull4
import Derived.Test.YtfnldnodhfkojaaGreatQFull5
import Derived.Test.YtfnldnodhfkojaaGreatQFull6
set_option linter.unusedVariables false
set_option linter.unusedSimpArgs false
namespace Go.Dec
structure Calm (D:DiskA):Prop where
 gone:D.gone=false
 left:D.left = -1
theorem done_calm {D:DiskA} (h:D.left = -1):doneA D=D:=by unfold doneA;rw [if_neg (by omega)]
theorem app_calm {D:DiskA} (h:Calm D) (n:ByteArray) (bs:List UInt8):Calm (appendA D n bs).2:=by
 unfold appendA
 split
 ·exact h
 split
 ·exact h
 split
 ·exact h
 ·show Calm (doneA _)
  rw [done_calm (by exact h.left)]
  exact ⟨h.gone,h.left⟩
theorem sync_calm {D:DiskA} (h:Calm D) (ns:List ByteArray):Calm (syncA D ns).2:=by
 unfold syncA
 split
 ·exact h
 split
 ·exact h
 ·show Calm (doneA _)
  rw [done_calm (by exact h.left)]
  exact ⟨h.gone,h.left⟩
theorem lsync_calm {D:DiskA} (h:Calm D) (pre:ByteArray) (l:List SegA):Calm (lsyncA pre l D).2:=by
 unfold lsyncA
 split
 ·exact h
 ·exact sync_calm h _
theorem append_len {A:DiskA} {n:ByteArray} {bs:List UInt8}:(appendA A n bs).2.fs.length≤A.fs.length+1∧((fileD A.fs n).isSome=true→(appendA A n bs).2.fs.length=A.fs.length):=by
 unfold appendA
 split
 ·exact ⟨by show A.fs.length≤_;omega,fun _=>rfl⟩
 split
 ·exact ⟨by show A.fs.length≤_;omega,fun _=>rfl⟩
 split
 ·exact ⟨by show A.fs.length≤_;omega,fun _=>rfl⟩
 ·show (doneA _).fs.length≤_∧(_→(doneA _).fs.length=_)
  rw [doneA_fs]
  show (if hasF A.fs n=true then _ else _:List FileA).length≤_∧(_→(if hasF A.fs n=true then _ else _:List FileA).length=_)
  rw [← hasF_fileD]
  split
  ·rw [List.length_map];exact ⟨by omega,fun _=>rfl⟩
  ·rename_i h
   rw [(insF_perm _ _).length_eq]
   exact ⟨by simp,fun h2=>absurd h2 h⟩
structure Cpl (pre:ByteArray) (l:List SegA) (D:DiskA):Prop where
 ok:okA D
 segs:SegsOk 0 l
 has:HasL pre l D
 only:∀ n,(fileD D.fs n).isSome=true→(bl (dashN pre)).isPrefixOf (bl n)=true→∃ s ∈ l,n=nameS pre s.base logX
def sumF (l:List SegA):Nat:=(l.map fun s=>s.file.length).sum
theorem sumF_snoc (l:List SegA) (s:SegA):sumF (l++[s])=sumF l+s.file.length:=by simp [sumF]
theorem name_ne {pre:ByteArray} {s t:SegA} (hs:SegOk s) (ht:SegOk t) (h:s.base≠t.base):nameS pre s.base logX≠nameS pre t.base logX:=fun e=>by
 have h1:=hs.base
 have h2:=ht.base
 exact h (nameS_inj (by omega) (by omega) e).1
theorem name_ok {pre:ByteArray} (hp:preS pre=true) (base:Int):nameF (nameS pre base logX)=true:=nameF_nameS hp base rfl (by decide)
structure Fr (pre:ByteArray) (D D':DiskA):Prop where
 room:D'.room=D.room
 other:∀ m,(bl (dashN pre)).isPrefixOf (bl m)=false→fileD D'.fs m=fileD D.fs m
theorem Fr.refl (pre:ByteArray) (D:DiskA):Fr pre D D:=⟨rfl,fun _ _=>rfl⟩
theorem Fr.trans {pre:ByteArray} {D D' D'':DiskA} (h1:Fr pre D D') (h2:Fr pre D' D''):Fr pre D D'':=⟨h2.room.trans h1.room,fun m hm=>(h2.other m hm).trans (h1.other m hm)⟩
theorem sync_all {D:DiskA} (hok:okA D) (n:ByteArray):okA (syncA D [n]).2∧(syncA D [n]).2.room=D.room∧used (syncA D [n]).2.fs=used D.fs∧(syncA D [n]).2.fs.length=D.fs.length ∧
  ∀ m,fileD (syncA D [n]).2.fs m=fileD D.fs m∨(m=n∧(syncA D [n]).1=0∧fileD (syncA D [n]).2.fs m=(fileD D.fs m).map fun p=>(p.1,p.1.length)):=by
 by_cases h:(syncA D [n]).1=0
 ·obtain ⟨-,h1,h2,h3,h4,h5⟩:=sync_ok hok h
  refine ⟨h1,h2,h3,h4,fun m=>?_⟩
  by_cases hm:n=m
  ·subst hm
   refine .inr ⟨rfl,h,?_⟩
   rw [h5]
   simp
  ·refine .inl ?_
   rw [h5]
   simp [hm]
 ·rcases sync_one (A:=D) (n:=n) with ⟨h1,-,-,-⟩|⟨-,-,h4⟩|⟨-,-,-,h4⟩
  ·exact absurd h1 h
  ·rw [h4];exact ⟨hok,rfl,rfl,rfl,fun m=>.inl rfl⟩
  ·rw [h4];exact ⟨hok,rfl,rfl,rfl,fun m=>.inl rfl⟩
theorem Cpl.same {pre:ByteArray} {l:List SegA} {D D':DiskA} (h:Cpl pre l D) (hok:okA D') (hf:∀ m,(bl (dashN pre)).isPrefixOf (bl m)=true→(fileD D'.fs m).map Prod.fst=(fileD D.fs m).map Prod.fst):Cpl pre l D':=by
 refine ⟨hok,h.segs,fun s hs=>?_,fun n hn hp=>?_⟩
 ·obtain ⟨k,hk⟩:=h.has s hs
  have:=hf _ (pre_nameS pre s.base logX)
  rw [hk] at this
  cases hq:fileD D'.fs (nameS pre s.base logX) with
  | none=>rw [hq] at this;cases this
  | some q =>
   rw [hq] at this
   simp only [Option.map_some,Option.some.injEq] at this
   exact ⟨q.2,by rw [← this]⟩
 ·refine h.only n ?_ hp
  have:=hf n hp
  cases hq:fileD D.fs n with
  | none =>
   rw [hq] at this
   cases hq2:fileD D'.fs n with
   | none=>rw [hq2] at hn;cases hn
   | some q=>rw [hq2] at this;cases this
  | some q=>rfl
theorem lsync_all {pre:ByteArray} {l:List SegA} {D:DiskA} (h:Cpl pre l D):Cpl pre l (lsyncA pre l D).2∧Fr pre D (lsyncA pre l D).2∧used (lsyncA pre l D).2.fs=used D.fs∧(lsyncA pre l D).2.fs.length=D.fs.length∧(Calm D→(lsyncA pre l D).1=0):=by
 unfold lsyncA
 cases hl:l.getLast? with
 | none=>exact ⟨h,.refl _ _,rfl,rfl,fun _=>rfl⟩
 | some s =>
  simp only
  obtain ⟨h1,h2,h3,h4,h5⟩:=sync_all h.ok (nameS pre s.base logX)
  refine ⟨h.same h1 fun m hm=>?_,⟨h2,fun m hm=>?_⟩,h3,h4,fun hc=>?_⟩
  ·rcases h5 m with h6|⟨-,-,h6⟩
   ·rw [h6]
   ·rw [h6,Option.map_map];rfl
  ·rcases h5 m with h6|⟨h6,-,-⟩
   ·exact h6
   ·rw [h6,pre_nameS] at hm;cases hm
  ·rcases sync_one (A:=D) (n:=nameS pre s.base logX) with ⟨h6,-,-,-⟩|⟨-,h6,-⟩|⟨-,-,h6,-⟩
   ·exact h6
   ·rw [hc.gone] at h6;cases h6
   ·obtain ⟨k,hk⟩:=h.has s (List.mem_of_getLast? hl)
    rw [hk] at h6;cases h6
theorem Cpl.grow {pre:ByteArray} {l0:List SegA} {s s':SegA} {D:DiskA} {x:List UInt8} (hp:preS pre=true) (h:Cpl pre (l0++[s]) D) (hsegs:SegsOk 0 (l0++[s'])) (hb:s'.base=s.base) (hx:s'.file=s.file++x) (ha:(appendA D (nameS pre s.base logX) x).1=0) :
  Cpl pre (l0++[s']) (appendA D (nameS pre s.base logX) x).2∧Fr pre D (appendA D (nameS pre s.base logX) x).2∧used (appendA D (nameS pre s.base logX) x).2.fs+sumF (l0++[s])=used D.fs+sumF (l0++[s'])∧(appendA D (nameS pre s.base logX) x).2.fs.length=D.fs.length:=by
 obtain ⟨h1,h2,h3,h4,h5,h6,h7⟩:=append_ok h.ok ha
 obtain ⟨k,hk⟩:=h.has s (by simp)
 obtain ⟨f1,f2,f3,f4⟩:=h.segs.front
 refine ⟨⟨h4,hsegs,fun t ht=>?_,fun n hn hpn=>?_⟩,⟨h5,fun m hm=>?_⟩,?_,(append_len.2 (by rw [hk];rfl))⟩
 ·rcases List.mem_append.1 ht with ht|ht
  ·have hto:=(f1.mem t ht).1
   have hne:nameS pre t.base logX≠nameS pre s.base logX:=name_ne hto f2 (by have:=(f4 t ht).2;omega)
   rw [h7,if_neg hne]
   exact h.has t (by simp [ht])
  ·simp only [List.mem_cons,List.not_mem_nil,or_false] at ht
   subst ht
   rw [hb,h7,if_pos rfl,hk,hx]
   exact ⟨k,rfl⟩
 ·rw [h7] at hn
  by_cases hm:n=nameS pre s.base logX
  ·exact ⟨s',by simp,by rw [hb];exact hm⟩
  ·rw [if_neg hm] at hn
   obtain ⟨t,ht,rfl⟩:=h.only n hn hpn
   rcases List.mem_append.1 ht with ht|ht
   ·exact ⟨t,by simp [ht],rfl⟩
   ·simp only [List.mem_cons,List.not_mem_nil,or_false] at ht
    subst ht
    exact absurd rfl hm
 ·rw [h7,if_neg]
  rintro rfl
  rw [pre_nameS] at hm;cases hm
 ·rw [h6,sumF_snoc,sumF_snoc,hx,List.length_append];omega
theorem Cpl.begin {pre:ByteArray} {l:List SegA} {s:SegA} {D:DiskA} (h:Cpl pre l D) (hsegs:SegsOk 0 (l++[s])) (ha:(appendA D (nameS pre s.base logX) s.file).1=0) :
  Cpl pre (l++[s]) (appendA D (nameS pre s.base logX) s.file).2∧Fr pre D (appendA D (nameS pre s.base logX) s.file).2∧used (appendA D (nameS pre s.base logX) s.file).2.fs+sumF l=used D.fs+sumF (l++[s])∧(appendA D (nameS pre s.base logX) s.file).2.fs.length≤D.fs.length+1:=by
 obtain ⟨h1,h2,h3,h4,h5,h6,h7⟩:=append_ok h.ok ha
 obtain ⟨f1,f2,f3,f4⟩:=hsegs.front
 have hnone:fileD D.fs (nameS pre s.base logX)=none:=by
  cases hq:fileD D.fs (nameS pre s.base logX) with
  | none=>rfl
  | some q =>
   obtain ⟨t,ht,e⟩:=h.only _ (by rw [hq];rfl) (pre_nameS pre s.base logX)
   exact absurd e (name_ne f2 (f1.mem t ht).1 (by have:=(f4 t ht).2;omega))
 refine ⟨⟨h4,hsegs,fun t ht=>?_,fun n hn hpn=>?_⟩,⟨h5,fun m hm=>?_⟩,?_,append_len.1⟩
 ·rcases List.mem_append.1 ht with ht|ht
  ·have hto:=(f1.mem t ht).1
   have hne:nameS pre t.base logX≠nameS pre s.base logX:=name_ne hto f2 (by have:=(f4 t ht).2;omega)
   rw [h7,if_neg hne]
   exact h.has t ht
  ·simp only [List.mem_cons,List.not_mem_nil,or_false] at ht
   subst ht
   rw [h7,if_pos rfl,hnone]
   exact ⟨0,rfl⟩
 ·rw [h7] at hn
  by_cases hm:n=nameS pre s.base logX
  ·exact ⟨s,by simp,hm⟩
  ·rw [if_neg hm] at hn
   obtain ⟨t,ht,rfl⟩:=h.only n hn hpn
   exact ⟨t,by simp [ht],rfl⟩
 ·rw [h7,if_neg]
  rintro rfl
  rw [pre_nameS] at hm;cases hm
 ·rw [h6,sumF_snoc];omega
def Stp (pre:ByteArray) (l:List SegA) (D:DiskA) (l':List SegA) (D':DiskA):Prop :=
 Cpl pre l' D'∧Fr pre D D'∧used D'.fs+sumF l=used D.fs+sumF l'∧D'.fs.length+l.length≤D.fs.length+l'.length∧(Calm D→Calm D')
theorem Stp.same {pre:ByteArray} {l:List SegA} {D:DiskA} (h:Cpl pre l D):Stp pre l D l D:=⟨h,.refl _ _,rfl,Nat.le_refl _,id⟩
theorem Stp.trans {pre:ByteArray} {l l' l'':List SegA} {D D' D'':DiskA} (h1:Stp pre l D l' D') (h2:Stp pre l' D' l'' D''):Stp pre l D l'' D'' :=
 ⟨h2.1,h1.2.1.trans h2.2.1,by have:=h1.2.2.1;have:=h2.2.2.1;omega,by have:=h1.2.2.2.1;have:=h2.2.2.2.1;omega,fun h=>h2.2.2.2.2 (h1.2.2.2.2 h)⟩
theorem lsync_stp {pre:ByteArray} {l:List SegA} {D:DiskA} (h:Cpl pre l D):Stp pre l D l (lsyncA pre l D).2:=by
 obtain ⟨h1,h2,h3,h4,-⟩:=lsync_all h
 exact ⟨h1,h2,by omega,by omega,fun hc=>lsync_calm hc _ _⟩
theorem shL_file (n:Int) (bs:List BatM):(SegA.add ⟨n,0,[]⟩ bs).file=shL n 0++bs.flatMap frL:=by
 rw [file_add];simp [SegA.file]
theorem lapp_stp {pre:ByteArray} (seg:Int) {l:List SegA} {D:DiskA} (bs:List BatM) (hp:preS pre=true) (h:Cpl pre l D):Stp pre l D (lappA pre seg l D bs).2.1 (lappA pre seg l D bs).2.2:=by
 have hsegs:=rapp_segs (seg:=seg) (bs:=bs) h.segs
 unfold lappA
 unfold rappA at hsegs
 split
 ·exact .same h
 rename_i hb
 rw [if_neg hb] at hsegs
 split
 ·exact .same h
 rename_i hpl
 rw [if_neg hpl] at hsegs
 simp only at hsegs
 split
 ·rename_i hr
  rw [if_pos hr] at hsegs
  have hne:l≠[]:=by rintro rfl;cases hr
  obtain ⟨l0,s,rfl⟩:=snoc_of hne
  rw [baseL_snoc]
  rw [addLast_snoc] at hsegs
  split
  ·rename_i he
   simp only
   rw [append_err he]
   exact .same h
  ·rename_i he
   have he:=Decidable.not_not.1 he
   simp only
   rw [addLast_snoc]
   obtain ⟨c1,c2,c3,c4⟩:=h.grow hp hsegs rfl (file_add _ _) he
   exact ⟨c1,c2,c3,by rw [List.length_append,List.length_append];simp;omega,fun hc=>app_calm hc _ _⟩
 ·rename_i hr
  rw [if_neg hr] at hsegs
  have hst:=lsync_stp h
  split
  ·exact hst
  split
  ·rename_i he
   simp only
   rw [append_err he]
   exact hst
  ·rename_i he
   have he:=Decidable.not_not.1 he
   simp only
   rw [← shL_file] at he ⊢
   obtain ⟨c1,c2,c3,c4⟩:=hst.1.begin (s:=SegA.add ⟨nextL l,0,[]⟩ (placeL (nextL l) bs).2) hsegs he
   refine hst.trans ⟨c1,c2,c3,?_,fun hc=>app_calm hc _ _⟩
   rw [List.length_append,List.length_singleton]
   have c4:(appendA (lsyncA pre l D).2 (nameS pre (nextL l) logX) _).2.fs.length≤_:=c4
   omega
theorem lapp_full {pre:ByteArray} (seg:Int) {l:List SegA} {D:DiskA} (bs:List BatM) (hp:preS pre=true) (h:Cpl pre l D) (hc:Calm D) :
  ((lappA pre seg l D bs).1=(rappA seg l bs).1∧(lappA pre seg l D bs).2.1=(rappA seg l bs).2) ∨
  ((lappA pre seg l D bs).1=(0,5)∧(lappA pre seg l D bs).2.1=l∧(rappA seg l bs).1.2=0∧(placeL (nextL l) bs).1=0∧(((placeL (nextL l) bs).2.flatMap frL).length+(shL (nextL l) 0).length>D.free∨D.fs.length≥128)):=by
 unfold lappA rappA
 split
 ·exact .inl ⟨rfl,rfl⟩
 split
 ·exact .inl ⟨rfl,rfl⟩
 rename_i hpl
 have hpl:=Decidable.not_not.1 hpl
 split
 ·rename_i hr
  split
  ·rename_i he
   have hne:l≠[]:=by rintro rfl;cases hr
   obtain ⟨l0,s,rfl⟩:=snoc_of hne
   rw [baseL_snoc] at he ⊢
   obtain ⟨k,hk⟩:=h.has s (by simp)
   have h5:(appendA D (nameS pre s.base logX) ((placeL (nextL (l0++[s])) bs).2.flatMap frL)).1=5:=by
    rcases append_errs (A:=D) (n:=nameS pre s.base logX) (bs:=(placeL (nextL (l0++[s])) bs).2.flatMap frL) (name_ok hp _) with h6|⟨-,h6⟩|⟨h6,-⟩
    ·exact absurd h6 he
    ·rw [hc.gone] at h6;cases h6
    ·exact h6
   refine .inr ⟨by rw [h5],rfl,rfl,hpl,.inl ?_⟩
   apply Nat.lt_of_not_le
   intro hle
   exact he (append_goes hc.gone (name_ok hp _) (by omega) (.inl (by rw [hk];simp)))
  ·exact .inl ⟨rfl,rfl⟩
 ·rename_i hr
  obtain ⟨s1,s2,s3,s4,s5⟩:=lsync_all h
  have s5:=s5 hc
  have hc2:=lsync_calm hc pre l
  rw [if_neg (by rw [s5];simp)]
  split
  ·rename_i he
   have h5:(appendA (lsyncA pre l D).2 (nameS pre (nextL l) logX) (shL (nextL l) 0++(placeL (nextL l) bs).2.flatMap frL)).1=5:=by
    rcases append_errs (A:=(lsyncA pre l D).2) (n:=nameS pre (nextL l) logX) (bs:=shL (nextL l) 0++(placeL (nextL l) bs).2.flatMap frL) (name_ok hp _) with h6|⟨-,h6⟩|⟨h6,-⟩
    ·exact absurd h6 he
    ·rw [hc2.gone] at h6;cases h6
    ·exact h6
   refine .inr ⟨by rw [h5],rfl,rfl,hpl,?_⟩
   by_cases hfl:D.fs.length≥128
   ·exact .inr hfl
   refine .inl ?_
   apply Nat.lt_of_not_le
   intro hle
   refine he (append_goes hc2.gone (name_ok hp _) ?_ (.inr (by omega)))
   have:(lsyncA pre l D).2.free=D.free:=by unfold DiskA.free;rw [s2.room,s3]
   rw [this,List.length_append]
   omega
  ·exact .inl ⟨rfl,rfl⟩
theorem sorted_eq:∀ {xs ys:List ByteArray},xs.Pairwise (fun a b=>ltS a b=true)→ys.Pairwise (fun a b=>ltS a b=true)→(∀ n,n ∈ xs↔n ∈ ys)→xs=ys
 | [],[],_,_,_=>rfl
 | [],y::ys,_,_,h=>absurd ((h y).2 (List.mem_cons_self ..)) (by simp)
 | x::xs,[],_,_,h=>absurd ((h x).1 (List.mem_cons_self ..)) (by simp)
 | x::xs,y::ys,hx,hy,h=>by
  rw [List.pairwise_cons] at hx hy
  have hxy:x=y:=by
   rcases List.mem_cons.1 ((h x).1 (List.mem_cons_self ..)) with h1|h1
   ·exact h1
   ·rcases List.mem_cons.1 ((h y).2 (List.mem_cons_self ..)) with h2|h2
    ·exact h2.symm
    ·have h3:=hy.1 x h1
     have h4:=hx.1 y h2
     rw [ltS_asymm h3] at h4
     cases h4
  subst hxy
  congr 1
  refine sorted_eq hx.2 hy.2 fun n=>?_
  constructor
  ·intro hn
   rcases List.mem_cons.1 ((h n).1 (List.mem_cons_of_mem _ hn)) with h1|h1
   ·subst h1
    have:=hx.1 n hn
    rw [ltS_irrefl] at this;cases this
   ·exact h1
  ·intro hn
   rcases List.mem_cons.1 ((h n).2 (List.mem_cons_of_mem _ hn)) with h1|h1
   ·subst h1
    have:=hy.1 n hn
    rw [ltS_irrefl] at this;cases this
   ·exact h1
theorem preF_bl (p s:ByteArray):Go.Proofs.YtfnldnodhfkojaaGreat.preF p s=(bl p).isPrefixOf (bl s):=by
 unfold Go.Proofs.YtfnldnodhfkojaaGreat.preF
 rw [ByteArray.toList_eq,ByteArray.toList_eq]
theorem mem_names {D:DiskA} {pre n:ByteArray}:n ∈ namesF (dashN pre) D.fs↔(fileD D.fs n).isSome=true∧(bl (dashN pre)).isPrefixOf (bl n)=true:=by
 unfold namesF
 rw [List.mem_filter,← hasF_fileD,hasF_iff,preF_bl]
 constructor
 ·rintro ⟨h1,h2⟩
  obtain ⟨f,hf,rfl⟩:=List.mem_map.1 h1
  exact ⟨⟨f,hf,rfl⟩,h2⟩
 ·rintro ⟨⟨f,hf,rfl⟩,h2⟩
  exact ⟨List.mem_map.2 ⟨f,hf,rfl⟩,h2⟩
theorem names_sorted {D:DiskA} (hok:okA D) (p:ByteArray):(namesF p D.fs).Pairwise fun a b=>ltS a b=true:=by
 unfold namesF
 exact ((List.pairwise_map.2 hok.sorted).filter _)
theorem segs_sorted (pre:ByteArray):∀ {n:Int} {l:List SegA},SegsOk n l→(l.map fun s=>nameS pre s.base logX).Pairwise fun a b=>ltS a b=true
 | _,[],_=>List.Pairwise.nil
 | n,s::l,⟨h1,h2,h3⟩=>by
  rw [List.map_cons,List.pairwise_cons]
  refine ⟨fun m hm=>?_,segs_sorted pre h3⟩
  obtain ⟨t,ht,rfl⟩:=List.mem_map.1 hm
  have h4:=h3.mem t ht
  have:=h2.base
  have:=h4.1.base
  exact (ltS_nameS pre (by omega) (by omega) logX).2 (by omega)
theorem Cpl.names {pre:ByteArray} {l:List SegA} {D:DiskA} (h:Cpl pre l D):namesF (dashN pre) D.fs=l.map fun s=>nameS pre s.base logX:=by
 refine sorted_eq (names_sorted h.ok _) (segs_sorted pre h.segs) fun n=>?_
 rw [mem_names]
 constructor
 ·rintro ⟨h1,h2⟩
  obtain ⟨s,hs,rfl⟩:=h.only n h1 h2
  exact List.mem_map.2 ⟨s,hs,rfl⟩
 ·intro hn
  obtain ⟨s,hs,rfl⟩:=List.mem_map.1 hn
  obtain ⟨k,hk⟩:=h.has s hs
  exact ⟨by rw [hk];rfl,pre_nameS pre s.base logX⟩
theorem files_segs (pre:ByteArray) (D:DiskA):∀ {l:List SegA},(∀ s ∈ l,SegOk s)→filesL pre (l.map fun s=>nameS pre s.base logX) D=(0,l.map SegA.base,D)
 | [],_=>rfl
 | s::l,h=>by
  have hb:=(h s (List.mem_cons_self ..)).base
  have h1:baseN pre (nameS pre s.base logX) logX=some s.base.toNat:=baseN_nameS pre (by omega) logX
  have h2:baseN pre (nameS pre s.base logX) newX=none:=baseN_end h1 (by decide)
  rw [List.map_cons]
  unfold filesL
  rw [h2]
  rw [if_neg (by rintro ⟨h3,-⟩;cases h3)]
  simp only [Option.isSome_none,Bool.false_eq_true,if_false]
  rw [files_segs pre D fun t ht=>h t (List.mem_cons_of_mem _ ht),h1]
  simp only [List.map_cons]
  have e:((s.base.toNat:Nat):Int)=s.base:=by omega
  rw [e]
  rfl
theorem openS_segs {pre:ByteArray} {D:DiskA}:∀ {l l1:List SegA},SegsOk 0 (l1++l)→(∀ s ∈ l,∃ k,fileD D.fs (nameS pre s.base logX)=some (s.file,k))→openS pre (l.map SegA.base) l1 D=(0,l1++l,D)
 | [],l1,_,_=>by unfold openS;simp
 | s::l,l1,hok,hh=>by
  rw [List.map_cons]
  unfold openS
  have hok2:SegsOk 0 ((l1++[s])++l):=by rwa [List.append_assoc]
  have hs:SegOk s:=(hok.mem s (by simp)).1
  obtain ⟨k,hk⟩:=hh s (List.mem_cons_self ..)
  have hb:¬ s.base<nextL l1:=by
   have:=hs.base
   by_cases h0:l1=[]
   ·subst h0;show ¬ s.base<0;omega
   ·obtain ⟨l0,t,rfl⟩:=snoc_of h0
    rw [nextL_snoc]
    have h1:=hok.skip l0.length (l0.length+1) (by simp) (by omega)
    have e1:(l0++[t]++s::l)[l0.length]'(by simp)=t:=by simp
    have e2:(l0++[t]++s::l)[l0.length+1]'(by simp)=s:=by
     rw [List.getElem_append_right (by simp)];simp
    rw [e1,e2] at h1
    omega
  have hsc:scanA pre l1 D s.base=((true,0),l1++[s],D):=by
   unfold scanA
   rw [hk]
   simp only
   rw [scan_file hs]
   simp only
   rw [if_pos trivial]
  rw [if_neg hb,hsc,if_neg (by simp),if_pos rfl]
  simp only
  rw [openS_segs hok2 fun t ht=>hh t (List.mem_cons_of_mem _ ht),List.append_assoc]
  rfl
theorem Cpl.opened {pre:ByteArray} {l:List SegA} {D:DiskA} (h:Cpl pre l D):lopenA pre D=(0,l,D):=by
 unfold lopenA
 rw [h.names,files_segs pre D fun s hs=>(h.segs.mem s hs).1]
 rw [if_neg (by simp)]
 simp only
 have:=openS_segs (pre:=pre) (D:=D) (l:=l) (l1:=[]) h.segs h.has
 rw [this]
 rfl
theorem Cpl.frame {pre q:ByteArray} {l:List SegA} {D D':DiskA} (h:Cpl q l D) (hok:okA D') (hp:preS pre=true) (hq:preS q=true) (hne:pre≠q) (hf:Fr pre D D'):Cpl q l D' :=
 h.same hok fun m hm=>by
  rw [hf.other m ?_]
  cases hx:(bl (dashN pre)).isPrefixOf (bl m) with
  | false=>rfl
  | true=>exact absurd (dash_two hp hq hx hm) hne
theorem cpl_empty (pre:ByteArray) (n:Nat) (hn:n≤4194304):Cpl pre [] ⟨n,-1,false,[]⟩ :=
 ⟨⟨hn,by show (0:Nat)≤_;omega,by show (0:Nat)≤_;omega,by show -1≤(-1:Int)∧(-1:Int)≤_;omega,List.Pairwise.nil,(fun f h=>by cases h),fun f h=>by cases h⟩,trivial,(fun s h=>by cases h),fun n h=>by cases h⟩
def smallT (t:ByteArray):ByteArray:=if t.size>30 then t.extract 0 30 else t
def smallR (r:RecM):RecM:=⟨smallT r.key,smallT r.value,r.gone,r.time⟩
def smallB (b:BatM):BatM:=⟨b.base,b.pid,b.epoch,b.seq,b.kind,b.time,noSl,(b.rs.take 6).map smallR⟩
theorem smallT_size (t:ByteArray):(smallT t).size≤30:=by
 unfold smallT
 split
 ·rw [ByteArray.size_extract];omega
 ·omega
theorem small_len (b:BatM) (n:Int) (z:Sl):2≤(batL (((smallB b).at z).to n)).length∧(batL (((smallB b).at z).to n)).length≤668:=by
 have h:=batL_le (b:=((smallB b).at z).to n) (n:=60) fun r hr=>by
  obtain ⟨q,-,rfl⟩:=List.mem_map.1 (show r ∈ (b.rs.take 6).map smallR from hr)
  have h1:=smallT_size q.key
  have h2:=smallT_size q.value
  show (smallT q.key).size+(smallT q.value).size≤60
  omega
 have h3:(((smallB b).at z).to n).rs.length≤6:=by
  show ((b.rs.take 6).map smallR).length≤6
  rw [List.length_map,List.length_take];omega
 omega
abbrev cZ (b:BatM) (z:Sl):Array Value:=#[.int .i64 b.base,.int .i64 b.pid,.int .i64 b.epoch,.int .i64 b.seq,.int .i64 b.kind,.int .i64 b.time,.slice z.a z.len z.cap]
section
variable {w:World} {l r:List HP}
theorem config_c (seg gap:Int) (hs:Sat w l):Ret P F.towpathlaw06_config #[.int .i64 seg,.int .i64 gap] w fun vs w'=>∃ s g:Int,(64≤s∧s≤463)∧(1≤g∧g≤100)∧vs=[.agg #[.int .i64 s,.int .i64 g]]∧Sat w' l :=
 towpathlaw06_config_calls seg gap <| by
  unfold towpathlaw06_config
  have hm1 : -400<Int.tmod seg 400∧Int.tmod seg 400<400:=⟨by have:=Int.lt_tmod_of_pos seg (b:=400) (by omega);omega,Int.tmod_lt_of_pos seg (by omega)⟩
  have hm2 : -100<Int.tmod gap 100∧Int.tmod gap 100<100:=⟨by have:=Int.lt_tmod_of_pos gap (b:=100) (by omega);omega,Int.tmod_lt_of_pos gap (by omega)⟩
  generalize Int.tmod seg 400=s at *
  generalize Int.tmod gap 100=g at *
  refine wp_newO hs fun a0 w' hs=>?_
  refine wp_lt ?_
  refine wp_lt ?_
  refine wp_mid (fun q w'=>∃ s:Int,(0≤s∧s<400)∧q=(s,())∧Sat w' (pt a0 (.cells [.int .i64 0,.int .i64 0].toArray T.seglog_Config)::l)) ?_ ?_
  ·refine wp_if (fun h=>?_) fun h=>?_
   ·rw [w64 (by omega) (by omega)]
    refine wp_lt ?_
    exact wp_lv ⟨0-s,by omega,rfl,hs⟩
   ·exact wp_lv ⟨s,by omega,rfl,hs⟩
  clear hs
  rintro _ w ⟨s,hm1,rfl,hs⟩
  refine wp_on ?_
  refine wp_mid (fun q w'=>∃ g:Int,(0≤g∧g<100)∧q=(g,())∧Sat w' (pt a0 (.cells [.int .i64 0,.int .i64 0].toArray T.seglog_Config)::l)) ?_ ?_
  ·refine wp_if (fun h=>?_) fun h=>?_
   ·rw [w64 (by omega) (by omega)]
    refine wp_lt ?_
    exact wp_lv ⟨0-g,by omega,rfl,hs⟩
   ·exact wp_lv ⟨g,by omega,rfl,hs⟩
  clear hs
  rintro _ w ⟨g,hm2,rfl,hs⟩
  refine wp_on ?_
  rw [w64 (by omega) (by omega),w64 (by omega) (by omega)]
  refine wp_stG hs fun w' hs=>?_
  refine wp_ldG hs ?_
  exact ⟨rfl,64+s,1+g,by omega,by omega,rfl,hs.tail⟩
theorem small_c (b:BatM) [hb:FocR l b.x 4 (b.rs.flatMap encR)] (hs:Sat w l):Ret P F.towpathlaw06_Small #[.agg (encB7 b).toArray] w fun vs w'=>∃ z:Sl,vs=[.agg (encB7 ((smallB b).at z)).toArray]∧Sat w' (slc T.api_Record 4 z ((smallB b).rs.flatMap encR)::l) :=
 towpathlaw06_Small_calls b.base b.pid b.epoch b.seq b.kind b.time b.x <| by
  unfold towpathlaw06_Small
  have hl:=hs.slen b.x (xs:=b.rs) (enc:=encR)
  refine wp_boxO hs fun a0 w' hs=>?_
  refine wp_newO hs fun a1 w' hs=>?_
  refine wp_ldG hs ?_
  refine wp_newO hs fun a9 w' hs=>?_
  refine wp_stG hs fun w' hs=>?_
  refine wp_stO hs fun w' hs=>?_
  refine wp_ldO hs ?_
  have hs:Sat w' (slc T.api_Record 4 ⟨none,0,0⟩ (([]:List RecM).flatMap encR)::pt a9 (.cells (cZ b ⟨none,0,0⟩) T.api_Batch)::pt a1 (.cells #[.int .i64 0,.int .i64 0,.int .i64 0,.int .i64 0,.int .i64 0,.int .i64 0,.slice none 0 0] T.api_Batch)::l):=by
   have h1:Sat w' (pt a9 (.cells (cZ b ⟨none,0,0⟩) T.api_Batch)::pt a1 (.cells #[.int .i64 0,.int .i64 0,.int .i64 0,.int .i64 0,.int .i64 0,.int .i64 0,.slice none 0 0] T.api_Batch)::l):=hs.sub
   exact h1.slc_nil
  refine wp_mid (fun _ w'=>∃ z:Sl,Sat w' (slc T.api_Record 4 z ((smallB b).rs.flatMap encR)::pt a9 (.cells (cZ b z) T.api_Batch)::pt a1 (.cells #[.int .i64 0,.int .i64 0,.int .i64 0,.int .i64 0,.int .i64 0,.int .i64 0,.slice none 0 0] T.api_Batch)::l)) ?_ ?_
  rotate_left
  ·rintro _ w2 ⟨z,hs⟩
   refine wp_on ?_
   refine wp_ldG hs ?_
   refine wp_stG hs fun w' hs=>?_
   refine wp_ldG hs ?_
   exact ⟨rfl,z,rfl,hs.sub⟩
  refine wp_loop (fun m v w=>∃ (i:Nat) (z:Sl),v=((i:Int),())∧i≤b.rs.length∧i≤6∧b.rs.length-i=m∧Sat w (slc T.api_Record 4 z (((b.rs.take i).map smallR).flatMap encR)::pt a9 (.cells (cZ b z) T.api_Batch)::pt a1 (.cells #[.int .i64 0,.int .i64 0,.int .i64 0,.int .i64 0,.int .i64 0,.int .i64 0,.slice none 0 0] T.api_Batch)::l)) b.rs.length ⟨0,⟨none,0,0⟩,rfl,by omega,by omega,rfl,hs⟩ ?_
  clear hs
  rintro m _ w ⟨i,z,rfl,hi,hi6,hm,hs⟩
  refine wp_on ?_
  refine wp_if (fun hc=>?_) fun hc=>?_
  rotate_left
  ·refine wp_pass (wp_lv ⟨z,?_⟩)
   have e:b.rs.take i=b.rs.take 6:=by rw [List.take_of_length_le (by omega),List.take_of_length_le (by omega)]
   rw [e] at hs
   exact hs
  have hil:i<b.rs.length:=by omega
  refine wp_ixA hs (xs:=b.rs) (enc:=encR) i hil ?_
  refine wp_newO hs fun a18 w' hs=>?_
  refine wp_lt ?_
  refine wp_stG hs fun w' hs=>?_
  refine wp_if (fun h6=>?_) fun h6=>?_
  ·have:i=6:=by omega
   subst this
   exact wp_pass (wp_lv ⟨z,hs.tail⟩)
  have hx:(b.rs.take (i+1)).map smallR=(b.rs.take i).map smallR++[smallR b.rs[i]]:=by rw [List.take_succ_eq_append_getElem hil,List.map_append];rfl
  generalize b.rs[i]=q at hx hs ⊢
  refine wp_ldO hs ?_
  refine wp_mid (fun _ w'=>Sat w' (pt a18 (.cells #[.string (smallT q.key),.string q.value,.bool q.gone,.int .i64 q.time] T.api_Record)::slc T.api_Record 4 z (((b.rs.take i).map smallR).flatMap encR)::pt a9 (.cells (cZ b z) T.api_Batch)::pt a1 (.cells #[.int .i64 0,.int .i64 0,.int .i64 0,.int .i64 0,.int .i64 0,.int .i64 0,.slice none 0 0] T.api_Batch)::l)) ?_ ?_
  ·unfold smallT
   refine wp_if (fun h=>?_) fun h=>?_
   ·refine wp_ldO hs ?_
    refine wp_must (by omega) ?_
    refine wp_stO hs fun w' hs=>?_
    refine wp_lv ?_
    rw [if_pos (by omega)]
    exact hs
   ·refine wp_lv ?_
    rw [if_neg (by omega)]
    exact hs
  clear hs
  rintro _ w hs
  refine wp_on ?_
  refine wp_ldO hs ?_
  refine wp_mid (fun _ w'=>Sat w' (pt a18 (.cells #[.string (smallT q.key),.string (smallT q.value),.bool q.gone,.int .i64 q.time] T.api_Record)::slc T.api_Record 4 z (((b.rs.take i).map smallR).flatMap encR)::pt a9 (.cells (cZ b z) T.api_Batch)::pt a1 (.cells #[.int .i64 0,.int .i64 0,.int .i64 0,.int .i64 0,.int .i64 0,.int .i64 0,.slice none 0 0] T.api_Batch)::l)) ?_ ?_
  ·generalize smallT q.key=k0 at hs ⊢
   unfold smallT
   refine wp_if (fun h=>?_) fun h=>?_
   ·refine wp_ldO hs ?_
    refine wp_must (by omega) ?_
    refine wp_stO hs fun w' hs=>?_
    refine wp_lv ?_
    rw [if_pos (by omega)]
    exact hs
   ·refine wp_lv ?_
    rw [if_neg (by omega)]
    exact hs
  clear hs
  rintro _ w hs
  refine wp_on ?_
  refine wp_ldO hs ?_
  refine wp_ldG hs ?_
  refine wp_slit1 hs (enc:=encR) (smallR q) fun y w' hs=>?_
  refine wp_app' (xs:=(b.rs.take i).map smallR) (ys:=[smallR q]) (enc:=encR) hs (fun z' w' hs=>?_) (by simp only [List.length_map,List.length_take,List.length_cons,List.length_nil];omega)
  refine wp_stO hs fun w' hs=>?_
  rw [wS (i:=i) (by omega)]
  refine wp_lp (b.rs.length-(i+1)) ⟨i+1,z',rfl,by omega,by omega,rfl,?_⟩
  rw [hx]
  have hs:Sat w' (pt a9 (.cells (cZ b z') T.api_Batch)::slc T.api_Record 4 z' (((b.rs.take i).map smallR++[smallR q]).flatMap encR)::slc T.api_Record 4 y _::pt a18 _::pt a1 (.cells #[.int .i64 0,.int .i64 0,.int .i64 0,.int .i64 0,.int .i64 0,.int .i64 0,.slice none 0 0] T.api_Batch)::l):=hs
  exact hs.sub
end
theorem sum_names {nm:SegA→ByteArray}:∀ {fs:List FileA} {l:List SegA},fs.map (·.name)=l.map nm→(∀ f ∈ fs,∀ s ∈ l,f.name=nm s→f.b=s.file)→used fs=sumF l
 | [],[],_,_=>rfl
 | [],s::l,h,_=>by simp at h
 | f::fs,[],h,_=>by simp at h
 | f::fs,s::l,h,hh=>by
  rw [List.map_cons,List.map_cons,List.cons.injEq] at h
  have h1:=hh f (List.mem_cons_self ..) s (List.mem_cons_self ..) h.1
  have h2:=sum_names h.2 fun f hf s hs=>hh f (List.mem_cons_of_mem _ hf) s (List.mem_cons_of_mem _ hs)
  rw [used_cons,h2,h1]
  simp [sumF]
theorem Cpl.sizes {pre:ByteArray} {l:List SegA} {D:DiskA} (h:Cpl pre l D):l.length≤D.fs.length∧sumF l≤used D.fs:=by
 have hn:=h.names
 have e:(D.fs.filter fun f=>(bl (dashN pre)).isPrefixOf (bl f.name)).map (·.name)=l.map fun s=>nameS pre s.base logX:=by
  rw [← hn]
  unfold namesF
  rw [List.filter_map]
  congr 1
  apply List.filter_congr
  intro f _
  show _=Go.Proofs.YtfnldnodhfkojaaGreat.preF (dashN pre) f.name
  rw [preF_bl]
 have hs:=sum_names e fun f hf s hs hfs=>by
  have h1:=fileD_mem (names_nodup h.ok.sorted) (List.mem_filter.1 hf).1
  obtain ⟨k,hk⟩:=h.has s hs
  rw [hfs,hk] at h1
  simp only [Option.some.injEq,Prod.mk.injEq] at h1
  exact h1.1.symm
 have hl:=congrArg List.length e
 rw [List.length_map,List.length_map] at hl
 exact ⟨by rw [← hl];exact List.length_filter_le _ _,by rw [← hs];exact used_sub List.filter_sublist⟩
theorem sumF_bs:∀ {n:Int} {l:List SegA},SegsOk n l→(allB l).length*10≤sumF l
 | _,[],_=>Nat.le_refl _
 | n,s::l,⟨h1,h2,h3⟩=>by
  have h4:=sumF_bs h3
  have h5:=file_bs h2
  have e1:allB (s::l)=s.bs++allB l:=by simp [allB]
  have e2:sumF (s::l)=s.file.length+sumF l:=by simp [sumF]
  rw [e1,e2,List.length_append]
  omega
theorem Cpl.len {pre:ByteArray} {l:List SegA} {D:DiskA} (h:Cpl pre l D):l.length≤128∧(allB l).length≤500000∧∀ s ∈ l,s.file.length≤4194304:=by
 obtain ⟨h1,h2⟩:=h.sizes
 have h3:=sumF_bs h.segs
 have h4:=h.ok.many
 have h5:=h.ok.used
 refine ⟨by omega,by omega,fun s hs=>?_⟩
 obtain ⟨k,hk⟩:=h.has s hs
 exact Nat.le_trans (used_file hk) h5
theorem okR_of {pre:ByteArray} {D:DiskA} {R:RefM} {L:List HP} (h:Cpl pre R.l D) (hrd:∀ b ∈ R.bs,FocR L b.x 4 (b.rs.flatMap encR)):okR R L:=by
 obtain ⟨h1,h2,-⟩:=h.len
 refine ⟨h.segs,hrd,?_,?_⟩
 ·rw [R_l_len] at h1;omega
 ·rw [allB_l,List.length_map] at h2;omega
theorem place_small (b:BatM) (z:Sl) (n:Int):((placeL n [(smallB b).at z]).2.flatMap frL).length≤676:=by
 unfold placeL
 split
 ·exact Nat.zero_le _
 ·rename_i hv
  have hv:=Decidable.not_not.1 hv
  split
  ·exact Nat.zero_le _
  ·show ((((smallB b).at z).to n)::(placeL _ []).2 |>.flatMap frL).length≤676
   have h1:=small_len b n z
   have h2:=frL_len hv
   simp only [placeL,List.flatMap_cons,List.flatMap_nil,List.append_nil]
   omega
theorem sum_rapp {seg:Int} {l:List SegA} {bs:List BatM}:sumF (rappA seg l bs).2≤sumF l+((placeL (nextL l) bs).2.flatMap frL).length+29:=by
 unfold rappA
 split
 ·simp only;omega
 split
 ·simp only;omega
 simp only
 split
 ·rename_i hr
  have hne:l≠[]:=by rintro rfl;cases hr
  obtain ⟨l0,s,rfl⟩:=snoc_of hne
  rw [addLast_snoc,sumF_snoc,sumF_snoc,file_add,List.length_append]
  omega
 ·have:=shL_len (nextL l) 0
  rw [sumF_snoc,shL_file,List.length_append]
  omega
theorem rapp_small (seg:Int) (l:List SegA) (b:BatM) (z1 z2:Sl):rappA seg l [(smallB b).at z1]=rappA seg l [(smallB b).at z2]:=by
 rw [← rapp_p,← rapp_p seg l [(smallB b).at z2]]
 rfl
theorem allB_snoc (l:List SegA) (s:SegA):allB (l++[s])=allB l++s.bs:=by simp [allB]
theorem nextG_app {a b:List BatM} (h:b≠[]):nextG (a++b)=nextG b:=by
 obtain ⟨b0,x,rfl⟩:=snoc_of h
 rw [← List.append_assoc,nextG_snoc,nextG_snoc]
theorem rapp_all {seg:Int} {l:List SegA} {bs:List BatM} (hok:SegsOk 0 l) (hb:bs≠[]) (hp:(placeL (nextL l) bs).1=0) :
  allB (rappA seg l bs).2=allB l++(placeL (nextL l) bs).2.map BatM.p∧nextL (rappA seg l bs).2=nextG ((placeL (nextL l) bs).2.map BatM.p):=by
 have hq1:=(placeL_ok hp).1
 have hq:(placeL (nextL l) bs).2.map BatM.p≠[]:=by
  intro h
  have:=List.map_eq_nil_iff.1 h
  rw [this] at hq1
  exact hb (List.length_eq_zero_iff.1 hq1.symm)
 have hnx:=hok.next (Int.le_refl 0)
 have hlt:=((placeL_bs hnx.1 hp).1.next hnx.1).1 hq
 unfold rappA
 rw [if_neg hb,if_neg (by rw [hp];simp)]
 simp only
 split
 ·rename_i hr
  have hne:l≠[]:=by rintro rfl;cases hr
  obtain ⟨l0,s,rfl⟩:=snoc_of hne
  rw [addLast_snoc,allB_snoc,allB_snoc,nextL_snoc]
  refine ⟨by simp [SegA.add],?_⟩
  have hsr:=reach_le hok.front.2.1
  rw [nextL_snoc] at hlt hq ⊢
  show max (max s.base s.fin) (nextG (s.bs++_))=_
  rw [nextG_app hq]
  omega
 ·rw [allB_snoc,nextL_snoc]
  refine ⟨by simp [SegA.add],?_⟩
  show max (max (nextL l) 0) (nextG ([]++_))=_
  rw [List.nil_append]
  omega
theorem rapp_err {seg:Int} {l:List SegA} {bs:List BatM} (h:bs=[]∨(placeL (nextL l) bs).1≠0):(rappA seg l bs).2=l∧(rappA seg l bs).1.2≠0:=by
 unfold rappA
 by_cases hb:bs=[]
 ·rw [if_pos hb];exact ⟨rfl,by simp⟩
 ·rw [if_neg hb]
  rcases h with h|h
  ·exact absurd h hb
  ·rw [if_pos h];exact ⟨rfl,h⟩
theorem rapp_fst {seg:Int} {l:List SegA} {bs:List BatM} (hb:bs≠[]):(rappA seg l bs).1.2=(placeL (nextL l) bs).1:=by
 unfold rappA
 rw [if_neg hb]
 split
 ·rfl
 ·rename_i h;exact (Decidable.not_not.1 h).symm
def replay (seg:Int) (bs:List BatM):List SegA:=bs.foldl (fun l b=>(rappA seg l [b]).2) []
theorem replay_snoc (seg:Int) (bs:List BatM) (b:BatM):replay seg (bs++[b])=(rappA seg (replay seg bs) [b]).2:=by
 unfold replay
 rw [List.foldl_append]
 rfl
theorem place_one (b:BatM) (n:Int) (h:(placeL n [b]).1=0):(placeL n [b]).2=[b.to n]:=by
 unfold placeL at h ⊢
 split at h
 ·rename_i h1;exact absurd h h1
 ·rename_i h1
  rw [if_neg h1]
  split at h
  ·rename_i h2;exact absurd rfl h2
  ·rename_i h2;rw [if_neg h2];rfl
theorem rapp_to (seg:Int) (l:List SegA) (b:BatM):rappA seg l [(b.to (nextL l)).p]=rappA seg l [b]:=by
 rw [← rapp_p seg l [b]]
 have e:placeL (nextL l) [(b.to (nextL l)).p]=placeL (nextL l) ([b].map BatM.p):=rfl
 unfold rappA
 rw [e]
 rfl
def SynP (pre:ByteArray) (l:List SegA) (D:DiskA) (n:Nat):Prop:=n≤(allB l).length∧∀ l0 t,l=l0++[t]→(∀ s ∈ l0,fileD D.fs (nameS pre s.base logX)=some (s.file,s.file.length)) ∧
 ∃ k,fileD D.fs (nameS pre t.base logX)=some (t.file,k)∧∀ j,1≤j→j≤t.bs.length→(allB l0).length+j≤n→(t.cut j).file.length≤k
theorem snoc_inj {α:Type} {a b:List α} {x y:α} (h:a++[x]=b++[y]):a=b∧x=y:=by
 have:=List.append_inj' h rfl
 exact ⟨this.1,by simpa using this.2⟩
theorem file_cut_le (t:SegA) (j:Nat):(t.cut j).file.length≤t.file.length:=by
 rw [file_len,file_len]
 show (shL t.base t.fin).length+((t.bs.take j).flatMap frL).length≤_
 have:t.bs.flatMap frL=(t.bs.take j).flatMap frL++(t.bs.drop j).flatMap frL:=by rw [← List.flatMap_append,List.take_append_drop]
 rw [this,List.length_append];omega
theorem SynP.sync {pre:ByteArray} {l:List SegA} {D:DiskA} {n:Nat} (h:SynP pre l D n) (hc:Cpl pre l D):SynP pre l (lsyncA pre l D).2 n∧((lsyncA pre l D).1=0→SynP pre l (lsyncA pre l D).2 (allB l).length ∧
  ∀ s ∈ l,fileD (lsyncA pre l D).2.fs (nameS pre s.base logX)=some (s.file,s.file.length)):=by
 by_cases h0:l=[]
 ·subst h0
  exact ⟨h,fun _=>⟨⟨Nat.le_refl _,fun l0 t e=>by simp at e⟩,fun s hs=>by cases hs⟩⟩
 obtain ⟨l0,t,rfl⟩:=snoc_of h0
 have e:lsyncA pre (l0++[t]) D=syncA D [nameS pre t.base logX]:=by unfold lsyncA;rw [getLast_snoc]
 rw [e]
 obtain ⟨h1,k,h2,h3⟩:=h.2 l0 t rfl
 obtain ⟨-,-,-,-,h5⟩:=sync_all hc.ok (nameS pre t.base logX)
 obtain ⟨f1,f2,f3,f4⟩:=hc.segs.front
 have hold:∀ s ∈ l0,fileD (syncA D [nameS pre t.base logX]).2.fs (nameS pre s.base logX)=some (s.file,s.file.length):=fun s hs=>by
  rcases h5 (nameS pre s.base logX) with h6|⟨h6,-,-⟩
  ·rw [h6];exact h1 s hs
  ·exact absurd h6 (name_ne (f1.mem s hs).1 f2 (by have:=(f4 s hs).2;omega))
 constructor
 ·refine ⟨h.1,fun l0' t' e'=>?_⟩
  obtain ⟨rfl,rfl⟩:=snoc_inj e'
  refine ⟨hold,?_⟩
  rcases h5 (nameS pre t.base logX) with h6|⟨-,-,h6⟩
  ·rw [h6];exact ⟨k,h2,h3⟩
  ·rw [h6,h2]
   exact ⟨t.file.length,rfl,fun j h7 h8 h9=>file_cut_le _ _⟩
 ·intro h0
  have hnew:fileD (syncA D [nameS pre t.base logX]).2.fs (nameS pre t.base logX)=some (t.file,t.file.length):=by
   obtain ⟨-,-,-,-,-,h7⟩:=sync_ok hc.ok h0
   rw [h7,h2];simp
  refine ⟨⟨Nat.le_refl _,fun l0' t' e'=>?_⟩,fun s hs=>?_⟩
  ·obtain ⟨rfl,rfl⟩:=snoc_inj e'
   exact ⟨hold,t.file.length,hnew,fun j _ _ _=>file_cut_le _ _⟩
  ·rcases List.mem_append.1 hs with hs|hs
   ·exact hold s hs
   ·simp only [List.mem_cons,List.not_mem_nil,or_false] at hs
    subst hs;exact hnew
theorem SynP.begin {pre:ByteArray} {l:List SegA} {s:SegA} {D:DiskA} {n:Nat} (h:SynP pre l D n) (hc:Cpl pre l D) (hsegs:SegsOk 0 (l++[s])) (hall:∀ t ∈ l,fileD D.fs (nameS pre t.base logX)=some (t.file,t.file.length)) (ha:(appendA D (nameS pre s.base logX) s.file).1=0):SynP pre (l++[s]) (appendA D (nameS pre s.base logX) s.file).2 n:=by
 obtain ⟨-,-,-,-,-,-,h7⟩:=append_ok hc.ok ha
 obtain ⟨f1,f2,f3,f4⟩:=hsegs.front
 have hn:=h.1
 have hnone:fileD D.fs (nameS pre s.base logX)=none:=by
  cases hq:fileD D.fs (nameS pre s.base logX) with
  | none=>rfl
  | some q =>
   obtain ⟨t,ht,e⟩:=hc.only _ (by rw [hq];rfl) (pre_nameS pre s.base logX)
   exact absurd e (name_ne f2 (f1.mem t ht).1 (by have:=(f4 t ht).2;omega))
 refine ⟨by rw [allB_snoc,List.length_append];omega,fun l0' t' e'=>?_⟩
 obtain ⟨rfl,rfl⟩:=snoc_inj e'
 refine ⟨fun t ht=>?_,0,?_,fun j j1 j2 j3=>?_⟩
 ·rw [h7,if_neg (name_ne (f1.mem t ht).1 f2 (by have:=(f4 t ht).2;omega))]
  exact hall t ht
 ·rw [h7,if_pos rfl,hnone]
  rfl
 ·omega
theorem SynP.app {pre:ByteArray} {seg:Int} {l:List SegA} {D:DiskA} {bs:List BatM} {n:Nat} (hp:preS pre=true) (h:SynP pre l D n) (hc:Cpl pre l D):SynP pre (lappA pre seg l D bs).2.1 (lappA pre seg l D bs).2.2 n:=by
 have hsegs:=rapp_segs (seg:=seg) (bs:=bs) hc.segs
 unfold lappA
 unfold rappA at hsegs
 split
 ·exact h
 rename_i hb
 rw [if_neg hb] at hsegs
 split
 ·exact h
 rename_i hpl
 rw [if_neg hpl] at hsegs
 simp only at hsegs
 split
 ·rename_i hr
  have hne:l≠[]:=by rintro rfl;cases hr
  obtain ⟨l0,t,rfl⟩:=snoc_of hne
  rw [baseL_snoc]
  split
  ·rename_i he
   simp only
   rw [append_err he];exact h
  ·rename_i he
   have he:=Decidable.not_not.1 he
   simp only
   rw [addLast_snoc]
   obtain ⟨h1,k,h2,h3⟩:=h.2 l0 t rfl
   obtain ⟨-,-,-,-,-,-,h7⟩:=append_ok hc.ok he
   obtain ⟨f1,f2,f3,f4⟩:=hc.segs.front
   have hn:=h.1
   rw [allB_snoc,List.length_append] at hn
   refine ⟨by rw [allB_snoc,List.length_append];simp only [SegA.add,List.length_append];omega,fun l0' t' e'=>?_⟩
   obtain ⟨rfl,rfl⟩:=snoc_inj e'
   refine ⟨fun s hs=>?_,k,?_,fun j j1 j2 j3=>?_⟩
   ·rw [h7,if_neg (name_ne (f1.mem s hs).1 f2 (by have:=(f4 s hs).2;omega))]
    exact h1 s hs
   ·show fileD _ (nameS pre t.base logX)=_
    rw [h7,if_pos rfl,h2,file_add]
    rfl
   ·have hj:j≤t.bs.length:=by omega
    have e:(t.add (placeL (nextL (l0++[t])) bs).2).cut j=t.cut j:=by
     unfold SegA.cut SegA.add
     simp only
     rw [List.take_append_of_le_length hj]
    rw [e]
    exact h3 j j1 hj j3
 ·rename_i hr
  obtain ⟨hs1,hs2⟩:=h.sync hc
  split
  ·exact hs1
  rename_i hse
  have hse:=Decidable.not_not.1 hse
  split
  ·rename_i he
   simp only
   rw [append_err he];exact hs1
  ·rename_i he
   have he:=Decidable.not_not.1 he
   rw [if_neg hr] at hsegs
   simp only
   obtain ⟨hs3,hs4⟩:=hs2 hse
   rw [← shL_file] at he ⊢
   exact hs1.begin (s:=SegA.add ⟨nextL l,0,[]⟩ (placeL (nextL l) bs).2) (lsync_all hc).1 hsegs hs4 he
section
variable {w:World} {l r:List HP} {lg rr:Nat} {R:RefM} {A:LogA} {D:DiskA}
theorem same_c {r1 r2:List HP} [hf:Fo l lgP lg A r1] [hf2:Fo r1 dk A.d D r2] [hf3:Fo r2 rfP rr R r] [hok:okR R r] (heq:A.l=R.l) (hhas:HasL A.pre A.l D) (hs:Sat w l) :
  Ret P F.towpathlaw06_same #[.pointer (some ⟨lg,0,none⟩),.pointer (some ⟨rr,0,none⟩)] w fun vs w'=>vs=[.bool true]∧Sat w' (lgP lg A::dk A.d D::rfP rr R::r) :=
 towpathlaw06_same_calls _ _ <| by
  unfold towpathlaw06_same
  have hs:=hs.perm (hf.perm.trans (.cons _ (hf2.perm.trans (.cons _ hf3.perm))))
  clear hf hf2 hf3
  have hsegs:=hok.segs
  rw [← heq] at hsegs
  have hlen:A.l.length≤1000000:=by rw [heq,R_l_len];exact hok.len
  have hall:(allB A.l).length≤1000000:=by rw [heq,allB_l,List.length_map];exact hok.all
  have hnx:=hsegs.next (Int.le_refl 0)
  refine wp_mid (fun q w'=>q=(false,())∧Sat w' (lgP lg A::dk A.d D::rfP rr R::r)) ?_ ?_
  ·refine wp_ifF ?_ (by simp)
   obtain ⟨M,hM,hs⟩:=lgP_open hs
   have hMl:M.l=A.l:=congrArg LogA.l hM
   have hll:M.l.length=M.SM.length:=List.length_map ..
   refine wp_call (first_c (lg:=lg) hs) fun _ w' hs=>?_
   obtain ⟨rfl,hs⟩:=hs
   refine ret_of ?_
   refine wp_call (rfirst_c (a:=rr) hs) fun _ w' hs=>?_
   obtain ⟨rfl,hs⟩:=hs
   refine ret_of ?_
   refine wp_ifF ?_ (by rw [hMl,heq];simp)
   refine wp_call (lnext_c (lg:=lg) (by rw [← hll,hMl];omega) hs) fun _ w' hs=>?_
   obtain ⟨rfl,hs⟩:=hs
   refine ret_of ?_
   refine wp_call (rnext_c (a:=rr) hs) fun _ w' hs=>?_
   obtain ⟨rfl,hs⟩:=hs
   refine ret_of ?_
   refine wp_ifF ?_ (by rw [hMl,heq];simp)
   have hs:Sat w' (lgQ lg M::dk A.d D::rfP rr R::r):=hs.sub
   have hs:=lgP_close M hs
   rw [hM] at hs
   refine wp_call (lall_c (lg:=lg) (A:=A) (D:=D) hsegs hhas hlen hall hs) fun _ w' hs=>?_
   obtain ⟨z,outs,rfl,hmap,hs⟩:=hs
   refine ret_of ?_
   refine wp_call (rall_c (a:=rr) hs) fun _ w' hs=>?_
   obtain ⟨y,rfl,hs⟩:=hs
   refine ret_of ?_
   have hs:Sat w' (batsP outs::slc T.api_Batch 7 y (R.bs.flatMap encB7)::slc T.api_Batch 7 z (outs.flatMap encB7)::lgP lg A::dk A.d D::rfP rr R::r):=hs.sub
   have hmp:outs.map BatM.p=R.bs.map BatM.p:=by rw [hmap,heq,allB_l]
   have hol:outs.length≤1000000:=by
    have:=congrArg List.length hmp
    simp only [List.length_map] at this
    rw [this];exact hok.all
   have hvo:∀ b ∈ outs,validB b=0:=fun b hb=>by
    have h1:b.p ∈ allB A.l:=by rw [← hmap];exact List.mem_map.2 ⟨b,hb,rfl⟩
    obtain ⟨s,hs,hbs⟩:=List.mem_flatMap.1 h1
    exact ((hsegs.mem s hs).1.bs.valid _ hbs).1
   refine wp_call (dsameall_c z y outs R.bs hmp inferInstance inferInstance (fun b hb=>bats_rd hb) (fun b hb=>by have:=hok.rd b hb;infer_instance) (by omega) (fun b hb=>by have:=(valid_recs (hvo b hb)).1;omega) hs) fun _ w' hs=>?_
   obtain ⟨rfl,hs⟩:=hs
   refine ret_of ?_
   exact wp_lv ⟨rfl,hs.sub⟩
  rintro _ w2 ⟨rfl,hs⟩
  refine wp_ifF ?_ (by simp)
  obtain ⟨M,hM,hs⟩:=lgP_open hs
  have hMl:M.l=A.l:=congrArg LogA.l hM
  have hll:M.l.length=M.SM.length:=List.length_map ..
  refine wp_call (segments_c (lg:=lg) (by rw [← hll,hMl];omega) hs) fun _ w' hs=>?_
  obtain ⟨z,rfl,hs⟩:=hs
  refine ret_of ?_
  obtain ⟨u,hs⟩:=rf_open (hs.pick [3])
  have hls:=hs.slen z (xs:=M.l.map SegA.base) (enc:=encI)
  have hlu:=hs.slen u (xs:=R.SR) (enc:=encSR)
  have hlR:R.l.length=R.SR.length:=R_l_len
  rw [List.length_map,hMl,heq,hlR] at hls
  refine wp_nn ?_
  refine wp_ldO hs ?_
  refine wp_ifF ?_ (by omega)
  have hfin:∀ {w:World},Sat w (pt rr (.cells #[.int .i64 R.seg,.int .i64 R.gap,.slice u.a u.len u.cap] T.towpathref06_Log)::slc T.towpathref06_Segment 3 u (R.SR.flatMap encSR)::HP.all (R.SR.map rsgP)::slc T.int64 1 z ((M.l.map SegA.base).flatMap encI)::lgQ lg M::dk A.d D::r)→Sat w (lgP lg A::dk A.d D::rfP rr R::r):=fun hs=>by
   have hs:=rf_close R hs
   have hs:Sat _ (lgQ lg M::dk A.d D::rfP rr R::r):=hs.sub
   have hs:=lgP_close M hs
   rw [hM] at hs
   exact hs
  refine wp_mid (fun _ w'=>Sat w' (lgP lg A::dk A.d D::rfP rr R::r)) ?_ ?_
  rotate_left
  ·rintro _ w3 hs
   exact ⟨rfl,rfl,hs⟩
  refine wp_loop (fun m v w=>∃ i:Nat,v=((i:Int),())∧i≤R.SR.length∧R.SR.length-i=m∧Sat w (pt rr (.cells #[.int .i64 R.seg,.int .i64 R.gap,.slice u.a u.len u.cap] T.towpathref06_Log)::slc T.towpathref06_Segment 3 u (R.SR.flatMap encSR)::HP.all (R.SR.map rsgP)::slc T.int64 1 z ((M.l.map SegA.base).flatMap encI)::lgQ lg M::dk A.d D::r)) R.SR.length ⟨0,rfl,by omega,rfl,hs⟩ ?_
  clear hs
  rintro m _ w ⟨i,rfl,hi,hm,hs⟩
  refine wp_on ?_
  refine wp_if (fun hcc=>?_) fun hcc=>?_
  rotate_left
  ·exact wp_pass (wp_lv (hfin hs))
  have hln:=hok.len
  have hil:i<R.SR.length:=by omega
  have hil2:i<(M.l.map SegA.base).length:=by rw [List.length_map,hMl,heq,hlR];exact hil
  have hbase:(M.l.map SegA.base)[i]=R.SR[i].base:=by
   have e:M.l=R.l:=hMl.trans heq
   simp only [e,RefM.l,List.map_map,List.getElem_map]
   rfl
  refine wp_lt ?_
  refine wp_tk hs fun w' hs=>?_
  refine wp_ix1 hs (xs:=M.l.map SegA.base) (enc:=encI) i hil2 ?_
  refine wp_nn ?_
  refine wp_ldO hs ?_
  refine wp_ixF hs (xs:=R.SR) (enc:=encSR) i hil ?_
  refine wp_untick ?_
  refine wp_ifF ?_ (by rw [hbase];simp)
  rw [wS (i:=i) (by omega)]
  exact wp_lp (R.SR.length-(i+1)) ⟨i+1,rfl,by omega,rfl,hs⟩
end
section
variable {w:World} {l r:List HP} {lg d:Nat} {D:DiskA} {A:LogA}
theorem one_c (k v:ByteArray) (hs:Sat w l):Ret P F.towpathlaw06_one #[.string k,.string v] w fun vs w'=>∃ x:Sl,vs=[.agg (encB7 (oneB k v x)).toArray]∧Sat w' (slc T.api_Record 4 x ((oneB k v x).rs.flatMap encR)::l) :=
 towpathlaw06_one_calls k v <| by
  unfold towpathlaw06_one
  refine wp_newO hs fun a0 w' hs=>?_
  refine wp_lits hs (enc:=encR) [(⟨k,v,false,0⟩:RecM)] fun x w' hs=>?_
  refine wp_stG hs fun w' hs=>?_
  refine wp_ldG hs ?_
  refine ⟨rfl,x,rfl,?_⟩
  have hs:Sat w' (pt a0 _::slc T.api_Record 4 x ((oneB k v x).rs.flatMap encR)::l):=hs
  exact hs.tail
theorem app1_c (b:BatM) (x:Sl) {r1:List HP} [hf:Fo l lgP lg A r1] [hf2:Fo r1 dk A.d D r] (hlen:A.l.length≤1000000) (hok:SegsOk 0 A.l) (hfl:∀ s ∈ A.l,s.file.length≤500000000)
  (hx:FocR r x 7 ([b].flatMap encB7)) (hb:FocR r b.x 4 (b.rs.flatMap encR)) (hs:Sat w l) :
  Ret P F.seglog_Log_Append #[.pointer (some ⟨lg,0,none⟩),x.v] w fun vs w'=>vs=[.int .i64 (lappA A.pre A.seg A.l D [b]).1.1,.int .i64 (lappA A.pre A.seg A.l D [b]).1.2] ∧
   Sat w' (lgP lg (A.set (lappA A.pre A.seg A.l D [b]).2.1)::dk A.d (lappA A.pre A.seg A.l D [b]).2.2::r) :=
 lappend_c x [b] hlen hok hfl (by show 1≤900;omega) hx (fun c hc=>by
  simp only [List.mem_cons,List.not_mem_nil,or_false] at hc
  subst hc
  exact hb) hs
theorem files_le {l:List SegA} {n:Nat} {ns:List Nat} (h:l.map (fun s=>s.file.length)=ns) (hn:∀ x ∈ ns,x≤n):∀ s ∈ l,s.file.length≤n:=fun s hs=>hn _ (by rw [← h];exact List.mem_map.2 ⟨s,hs,rfl⟩)
set_option maxHeartbeats 1000000 in
theorem awake6_c (hs:Sat w l):Ret P F.towpathlaw06_awake #[] w fun vs w'=>vs=[.bool true]∧Sat w' l :=
 towpathlaw06_awake_calls <| by
  unfold towpathlaw06_awake
  refine wp_call (new_ok 1000 (by omega) hs) fun _ w' hs=>?_
  obtain ⟨d,rfl,hs⟩:=hs
  refine ⟨(some ⟨d,0,none⟩,0,()),rfl,trivial,wp_u2 _ _ ?_⟩
  refine wp_lt ?_
  have hs:Sat w' (dk d aD0::l):=hs
  refine wp_call (lopen_c (d:=d) (D:=aD0) aP 64 1 (by kernel_rfl) ⟨by decide,by decide⟩ rfl hs) fun _ w' hs=>?_
  rw [aw_open] at hs
  rcases hs with ⟨he,-,-⟩|⟨-,lg,rfl,hs⟩
  ·exact absurd rfl he
  refine ⟨(some ⟨lg,0,none⟩,0,()),rfl,trivial,wp_u2 _ _ ?_⟩
  refine wp_lt ?_
  refine wp_ifF ?_ (by simp)
  have hs:Sat w' (lgP lg ⟨d,aP,64,1,[]⟩::dk d aD0::l):=hs
  have step:∀ {w:World} {L:List SegA} {DD:DiskA} {X:List HP} (y x:Sl),Sat w (slc T.api_Batch 7 x ([oneB (ByteArray.mk #[97]) (ByteArray.mk #[120]) y].flatMap encB7)::slc T.api_Record 4 y ((oneB (ByteArray.mk #[97]) (ByteArray.mk #[120]) y).rs.flatMap encR)::lgP lg ⟨d,aP,64,1,L⟩::dk d DD::l)→L.length≤1000000→SegsOk 0 L→(∀ s ∈ L,s.file.length≤500000000) →
    Ret P F.seglog_Log_Append #[.pointer (some ⟨lg,0,none⟩),x.v] w fun vs w'=>vs=[.int .i64 (lappA aP 64 L DD [aB]).1.1,.int .i64 (lappA aP 64 L DD [aB]).1.2]∧Sat w' (lgP lg ⟨d,aP,64,1,(lappA aP 64 L DD [aB]).2.1⟩::dk d (lappA aP 64 L DD [aB]).2.2::l):=by
   intro w L DD X y x hs h1 h2 h3
   have h:=app1_c (lg:=lg) (A:=⟨d,aP,64,1,L⟩) (D:=DD) (oneB (ByteArray.mk #[97]) (ByteArray.mk #[120]) y) x h1 h2 h3 inferInstance (FocR.tail (h:=FocR.head):FocR (slc T.api_Batch 7 x ([oneB (ByteArray.mk #[97]) (ByteArray.mk #[120]) y].flatMap encB7)::slc T.api_Record 4 y ((oneB (ByteArray.mk #[97]) (ByteArray.mk #[120]) y).rs.flatMap encR)::l) y 4 ((oneB (ByteArray.mk #[97]) (ByteArray.mk #[120]) y).rs.flatMap encR)) hs
   have e:lappA aP 64 L DD [oneB (ByteArray.mk #[97]) (ByteArray.mk #[120]) y]=lappA aP 64 L DD [aB]:=by
    rw [← lapp_p,← lapp_p aP 64 L DD [aB]]
    rfl
   refine h.mono fun vs w' ⟨hv,hs⟩=>⟨?_,?_⟩
   ·rw [hv]
    show [Value.int .i64 (lappA aP 64 L DD [oneB (ByteArray.mk #[97]) (ByteArray.mk #[120]) y]).1.1,Value.int .i64 (lappA aP 64 L DD [oneB (ByteArray.mk #[97]) (ByteArray.mk #[120]) y]).1.2]=_
    rw [e]
   ·have hs:Sat w' (lgP lg ⟨d,aP,64,1,(lappA aP 64 L DD [oneB (ByteArray.mk #[97]) (ByteArray.mk #[120]) y]).2.1⟩::dk d (lappA aP 64 L DD [oneB (ByteArray.mk #[97]) (ByteArray.mk #[120]) y]).2.2::slc T.api_Batch 7 x ([oneB (ByteArray.mk #[97]) (ByteArray.mk #[120]) y].flatMap encB7)::slc T.api_Record 4 y ((oneB (ByteArray.mk #[97]) (ByteArray.mk #[120]) y).rs.flatMap encR)::l):=hs
    rw [e] at hs
    exact hs.sub
  refine wp_call (one_c _ _ hs) fun _ w' hs=>?_
  obtain ⟨y1,rfl,hs⟩:=hs
  refine ⟨(0,0,0,0,0,0,y1,()),rfl,trivial,wp_u7 _ _ _ _ _ _ _ ?_⟩
  refine wp_lits hs (enc:=encB7) [oneB (ByteArray.mk #[97]) (ByteArray.mk #[120]) y1] fun x1 w' hs=>?_
  refine wp_call (step (X:=[]) y1 x1 hs (by decide) trivial (fun s hs=>by cases hs)) fun _ w' hs=>?_
  obtain ⟨hv,hs⟩:=hs
  have hv:_=[Value.int .i64 aS1.1.1,Value.int .i64 aS1.1.2]:=hv
  have hs:Sat w' (lgP lg ⟨d,aP,64,1,aS1.2.1⟩::dk d aS1.2.2::l):=hs
  have k1:SegsOk 0 aS1.2.1:=lapp_segs trivial
  rw [aw_1] at hv
  subst hv
  refine ⟨(0,0,()),rfl,trivial,wp_u2 _ _ ?_⟩
  refine wp_lt ?_
  refine wp_lt ?_
  refine wp_call (one_c _ _ hs) fun _ w' hs=>?_
  obtain ⟨y2,rfl,hs⟩:=hs
  refine ⟨(0,0,0,0,0,0,y2,()),rfl,trivial,wp_u7 _ _ _ _ _ _ _ ?_⟩
  refine wp_lits hs (enc:=encB7) [oneB (ByteArray.mk #[97]) (ByteArray.mk #[120]) y2] fun x2 w' hs=>?_
  refine wp_call (step (X:=[]) y2 x2 hs (by rw [aw_l1.1];decide) k1 (files_le aw_l1.2 (by simp))) fun _ w' hs=>?_
  obtain ⟨hv,hs⟩:=hs
  have hv:_=[Value.int .i64 aS2.1.1,Value.int .i64 aS2.1.2]:=hv
  have hs:Sat w' (lgP lg ⟨d,aP,64,1,aS2.2.1⟩::dk d aS2.2.2::l):=hs
  have k2:SegsOk 0 aS2.2.1:=lapp_segs k1
  rw [aw_2] at hv
  subst hv
  refine ⟨(1,0,()),rfl,trivial,wp_u2 _ _ ?_⟩
  refine wp_lt ?_
  refine wp_lt ?_
  refine wp_call (one_c _ _ hs) fun _ w' hs=>?_
  obtain ⟨y3,rfl,hs⟩:=hs
  refine ⟨(0,0,0,0,0,0,y3,()),rfl,trivial,wp_u7 _ _ _ _ _ _ _ ?_⟩
  refine wp_lits hs (enc:=encB7) [oneB (ByteArray.mk #[97]) (ByteArray.mk #[120]) y3] fun x3 w' hs=>?_
  refine wp_call (step (X:=[]) y3 x3 hs (by rw [aw_l2.1];decide) k2 (files_le aw_l2.2 (by simp))) fun _ w' hs=>?_
  obtain ⟨hv,hs⟩:=hs
  have hv:_=[Value.int .i64 aS3.1.1,Value.int .i64 aS3.1.2]:=hv
  have hs:Sat w' (lgP lg ⟨d,aP,64,1,aS3.2.1⟩::dk d aS3.2.2::l):=hs
  rw [aw_3] at hv
  subst hv
  refine ⟨(2,0,()),rfl,trivial,wp_u2 _ _ ?_⟩
  refine wp_lt ?_
  refine wp_lt ?_
  obtain ⟨M,hM,hs⟩:=lgP_open hs
  have hMl:M.l=aS3.2.1:=congrArg LogA.l hM
  have hMd:M.d=d:=congrArg LogA.d hM
  refine wp_call (segments_c (lg:=lg) (by have:=aw_l3;rw [← hMl] at this;have h2:M.l.length=M.SM.length:=List.length_map ..;omega) hs) fun _ w' hs=>?_
  obtain ⟨z,rfl,hs⟩:=hs
  refine ret_of ?_
  rw [hMl,aw_segs] at hs
  have hlz:=hs.slen z (xs:=([0,2]:List Int)) (enc:=encI)
  obtain ⟨p,hp,hpf⟩:∃ p,fileD aS3.2.2.fs (ByteArray.mk #[112,45,48,48,48,48,48,48,48,48,48,48,48,46,108,111,103])=some p∧(p.1.length,p.1[0]?,p.1[4]?)=(53,some 3,some 83):=by
   have:=aw_file
   rw [Option.map_eq_some_iff] at this
   exact this
  simp only [Prod.mk.injEq] at hpf
  obtain ⟨q1,q2,q3⟩:=hpf
  refine wp_call (read_f (d:=d) (D:=aS3.2.2) _ p hp hs) fun _ w' hs=>?_
  obtain ⟨u,rfl,hs⟩:=hs
  refine ⟨(u,0,()),rfl,trivial,wp_u2 _ _ ?_⟩
  refine wp_lt ?_
  have hlu:=hs.slen u (xs:=p.1) (enc:=encU)
  have hq2:(p.1[0]'(by omega))=3:=by
   rw [List.getElem?_eq_getElem (by omega)] at q2;exact Option.some.inj q2
  have hq3:(p.1[4]'(by omega))=83:=by
   rw [List.getElem?_eq_getElem (by omega)] at q3;exact Option.some.inj q3
  refine wp_ix1k hs (xs:=([0,2]:List Int)) (enc:=encI) 1 (by decide) ?_
  refine wp_ix1k hs (xs:=p.1) (enc:=encU) 0 (by omega) ?_ (by omega)
  refine wp_ix1k hs (xs:=p.1) (enc:=encU) 4 (by omega) ?_
  refine wp_lt ?_
  refine ⟨rfl,?_,hs.sub⟩
  rw [hq2,hq3,hlz,hlu,q1]
  rfl
theorem nil_append (x:Sl) (hs:Sat w l):Ret P F.seglog_Log_Append #[.pointer none,x.v] w fun vs w'=>vs=[.int .i64 0,.int .i64 1]∧Sat w' l :=
 seglog_Log_Append_calls _ x <| by
  unfold seglog_Log_Append
  refine wp_ifT ?_ (by rfl)
  exact ⟨rfl,rfl,hs⟩
end
theorem lopen_empty (pre:ByteArray) (n:Nat):lopenA pre ⟨n,-1,false,[]⟩=(0,[],⟨n,-1,false,[]⟩):=rfl
section
variable {w:World} {l r:List HP}
theorem rf_new {a:Nat} {seg gap:Int} (hs:Sat w (pt a (.cells #[.int .i64 seg,.int .i64 gap,.slice none 0 0] T.towpathref06_Log)::l)):Sat w (rfP a ⟨seg,gap,[]⟩::l):=by
 have h1:Sat w (slc T.towpathref06_Segment 3 ⟨none,0,0⟩ (([]:List SegR).flatMap encSR)::HP.all (([]:List SegR).map rsgP)::pt a (.cells #[.int .i64 seg,.int .i64 gap,.slice none 0 0] T.towpathref06_Log)::l):=(Sat.all_nil hs).slc_nil
 exact rf_close ⟨seg,gap,[]⟩ (z:=⟨none,0,0⟩) (h1.pick [2])
end
def InP (pool:List BatM) (R:RefM):Prop:=∀ b ∈ R.bs,∃ c ∈ pool,b.x=c.x∧b.rs=c.rs
structure Grw (pre:ByteArray) (D:DiskA) (l':List SegA) (D':DiskA):Prop where
 cpl:Cpl pre l' D'
 fr:Fr pre D D'
 calm:Calm D'
 used:used D'.fs≤used D.fs+705
 len:D'.fs.length≤D.fs.length+1
theorem bats_put2 {w:World} {l:List HP} {outs:List BatM} {b:BatM} {z:Sl} (hs:Sat w (slc T.api_Record 4 z (b.rs.flatMap encR)::batsP outs::l)):Sat w (batsP (outs++[b.at z])::l):=bats_put (b:=b.at z) hs
theorem InP.rd {pool:List BatM} {R:RefM} {l:List HP} (h:InP pool R):∀ b ∈ R.bs,FocR (batsP pool::l) b.x 4 (b.rs.flatMap encR):=fun b hb=>by
 obtain ⟨c,hc,e1,e2⟩:=h b hb
 rw [e1,e2]
 exact bats_rd hc
theorem InP.more {pool:List BatM} {R:RefM} (h:InP pool R) (x:BatM):InP (pool++[x]) R:=fun b hb=>by
 obtain ⟨c,hc,e⟩:=h b hb
 exact ⟨c,List.mem_append_left _ hc,e⟩
theorem InP.app {pool:List BatM} {R R':RefM} {b0:BatM} {z:Sl} (h:InP pool R) (hR:∀ b ∈ R'.bs,b ∈ R.bs∨(b.x=z∧b.rs=(smallB b0).rs)):InP (pool++[(smallB b0).at z]) R':=fun b hb=>by
 rcases hR b hb with h1|⟨h1,h2⟩
 ·exact h.more _ b h1
 ·exact ⟨(smallB b0).at z,by simp,h1,h2⟩
abbrev qP:ByteArray:=ByteArray.mk #[113]
abbrev qqP:ByteArray:=ByteArray.mk #[113,113]
theorem qP_ok:preS qP=true:=by kernel_rfl
theorem qqP_ok:preS qqP=true:=by kernel_rfl
theorem q_ne:qP≠qqP:=fun h=>by have:=congrArg ByteArray.size h;cases this
structure ApP (s:Int) (k:Nat) (D:DiskA) (R S:RefM) (pool:List BatM):Prop where
 rs:R.seg=s
 ss:S.seg=s
 c1:Cpl qP R.l D
 c2:Cpl qqP S.l D
 calm:Calm D
 room:D.room=1048576
 used:used D.fs≤705*k
 len:D.fs.length≤k
 in1:InP pool R
 in2:InP pool S
theorem ApP.left {s:Int} {k:Nat} {D D':DiskA} {R R' S:RefM} {pool:List BatM} {b0:BatM} {z:Sl} (h:ApP s k D R S pool) (hg:Grw qP D R'.l D') (h1:R'.seg=R.seg) (hR:∀ b ∈ R'.bs,b ∈ R.bs∨(b.x=z∧b.rs=(smallB b0).rs)):ApP s (k+1) D' R' S (pool++[(smallB b0).at z]) :=
 ⟨h1.trans h.rs,h.ss,hg.cpl,h.c2.frame hg.cpl.ok qP_ok qqP_ok q_ne hg.fr,hg.calm,hg.fr.room.trans h.room,by have:=hg.used;have:=h.used;omega,by have:=hg.len;have:=h.len;omega,h.in1.app hR,h.in2.more _⟩
theorem ApP.right {s:Int} {k:Nat} {D D':DiskA} {R S S':RefM} {pool:List BatM} {b0:BatM} {z:Sl} (h:ApP s k D R S pool) (hg:Grw qqP D S'.l D') (h1:S'.seg=S.seg) (hR:∀ b ∈ S'.bs,b ∈ S.bs∨(b.x=z∧b.rs=(smallB b0).rs)):ApP s (k+1) D' R S' (pool++[(smallB b0).at z]) :=
 ⟨h.rs,h1.trans h.ss,h.c1.frame hg.cpl.ok qqP_ok qP_ok q_ne.symm hg.fr,hg.cpl,hg.calm,hg.fr.room.trans h.room,by have:=hg.used;have:=h.used;omega,by have:=hg.len;have:=h.len;omega,h.in1.more _,h.in2.app hR⟩
theorem ApP.free {s:Int} {k:Nat} {D:DiskA} {R S:RefM} {pool:List BatM} (h:ApP s k D R S pool) (hk:k≤100):705≤D.free:=by
 have:=h.used
 have:=h.room
 unfold DiskA.free
 omega
theorem recF_cases (r:RecM):recF r=0∨recF r=2∨recF r=7:=by
 unfold recF
 split
 ·exact .inr (.inr rfl)
 split
 ·exact .inr (.inl rfl)
 ·exact .inl rfl
theorem badF_cases:∀ rs:List RecM,badF rs=0∨badF rs=2∨badF rs=7
 | []=>.inl rfl
 | r::rs=>by
  unfold badF
  split
  ·exact recF_cases r
  ·exact badF_cases rs
theorem validB_cases (b:BatM):validB b=0∨validB b=2∨validB b=7∨validB b=24:=by
 unfold validB
 split
 ·exact .inr (.inl rfl)
 split
 ·exact .inr (.inr (.inl rfl))
 split
 ·have:=badF_cases b.rs
  omega
 split
 ·exact .inr (.inr (.inr rfl))
 ·exact .inl rfl
theorem place_cases:∀ (bs:List BatM) (n:Int),(placeL n bs).1=0∨(placeL n bs).1=2∨(placeL n bs).1=7∨(placeL n bs).1=24
 | [],n=>.inl rfl
 | b::bs,n=>by
  unfold placeL
  split
  ·exact validB_cases _
  split
  ·exact place_cases bs _
  ·exact .inl rfl
def encBo (b:Bool):List Value:=[.bool b]
instance:Enc1 encBo .bool (fun b=>b):=⟨fun _=>rfl⟩
instance:EncN encBo 1:=⟨fun _=>rfl,by decide,by simp [encBo,Value.oneCell']⟩
section
variable {w:World} {l r:List HP} {lg a:Nat} {A:LogA} {D:DiskA} {R:RefM}
structure FilI (s:Int) (k:Nat) (D:DiskA) (l:List SegA) (R:RefM) (pool:List BatM) (n:Nat) (C:Prop):Prop where
 cpl:Cpl qP l D
 syn:SynP qP l D n
 rseg:R.seg=4194304
 segs:SegsOk 0 R.l
 srl:R.SR.length≤k
 brl:R.bs.length≤k
 all:R.bs.map BatM.p=allB l
 next:nextL R.l=nextL l
 rep:l=replay s (allB l)
 room:D.room=1048576
 used:used D.fs≤705*k
 len:D.fs.length≤k
 in1:InP pool R
 calm:C→Calm D
structure FilE (s:Int) (D:DiskA) (l:List SegA) (outs pool:List BatM) (n:Nat) (C:Prop):Prop where
 cpl:Cpl qP l D
 syn:SynP qP l D n
 told:outs.map BatM.p=allB l∨(D.gone=true∧∃ b,outs.map BatM.p=allB l++[b])
 rep:l=replay s (allB l)
 room:D.room=1048576
 used:used D.fs≤14805
 len:D.fs.length≤21
 num:outs.length≤21
 in1:∀ b ∈ outs,∃ c ∈ pool,b.x=c.x∧b.rs=c.rs
 calm:C→Calm D∧outs.map BatM.p=allB l
theorem FilI.free {s:Int} {k n:Nat} {l:List SegA} {pool:List BatM} {C:Prop} (h:FilI s k D l R pool n C) (hk:k≤100):705≤D.free:=by
 have:=h.used
 have:=h.room
 unfold DiskA.free
 omega
theorem FilI.done {s:Int} {k n:Nat} {l:List SegA} {pool:List BatM} {C:Prop} (h:FilI s k D l R pool n C) (hk:k≤20):FilE s D l R.bs pool n C :=
 ⟨h.cpl,h.syn,.inl h.all,h.rep,h.room,by have:=h.used;omega,by have:=h.len;omega,by have:=h.brl;omega,h.in1,fun c=>⟨h.calm c,h.all⟩⟩
theorem FilI.step {s:Int} {k n:Nat} {l:List SegA} {pool:List BatM} {C:Prop} {R':RefM} {b0:BatM} {z z':Sl} (h:FilI s k D l R pool n C) (hk:k≤100)
  (h1:(lappA qP s l D [(smallB b0).at z]).1=(rappA s l [(smallB b0).at z]).1) (h2:(lappA qP s l D [(smallB b0).at z]).2.1=(rappA s l [(smallB b0).at z]).2)
  (r1:R'.seg=R.seg) (r2:R'.l=(rappA R.seg R.l [(smallB b0).at z']).2) (r3:R'.SR.length≤R.SR.length+1) (r4:R'.bs.length≤R.bs.length+1) (r5:∀ b ∈ R'.bs,b ∈ R.bs∨(b.x=z'∧b.rs=(smallB b0).rs)) :
  FilI s (k+1) (lappA qP s l D [(smallB b0).at z]).2.2 (lappA qP s l D [(smallB b0).at z]).2.1 R' (pool++[(smallB b0).at z']) n C:=by
 have hst:=lapp_stp s [(smallB b0).at z] qP_ok h.cpl
 have hsy:=h.syn.app (seg:=s) (bs:=[(smallB b0).at z]) qP_ok h.cpl
 have hsum:=sum_rapp (seg:=s) (l:=l) (bs:=[(smallB b0).at z])
 have hsm:=place_small b0 z (nextL l)
 have hsl:=shL_len (nextL l) 0
 have hR:R'.bs.map BatM.p=allB R'.l:=by rw [allB_l]
 have hRR:R.bs.map BatM.p=allB R.l:=by rw [allB_l]
 have hrall:allB R.l=allB l:=hRR.symm.trans h.all
 have er:rappA R.seg R.l [(smallB b0).at z']=rappA R.seg R.l [(smallB b0).at z]:=rapp_small _ _ _ _ _
 rw [er] at r2
 have hsegR:SegsOk 0 R'.l:=by rw [r2];exact rapp_segs h.segs
 have hallN:allB R'.l=allB (rappA s l [(smallB b0).at z]).2∧nextL R'.l=nextL (rappA s l [(smallB b0).at z]).2∧(rappA s l [(smallB b0).at z]).2=replay s (allB (rappA s l [(smallB b0).at z]).2):=by
  by_cases hp:(placeL (nextL l) [(smallB b0).at z]).1=0
  ·obtain ⟨g1,g2⟩:=rapp_all (seg:=s) h.cpl.segs (by simp) hp
   obtain ⟨g3,g4⟩:=rapp_all (seg:=R.seg) (bs:=[(smallB b0).at z]) h.segs (by simp) (by rw [h.next];exact hp)
   rw [h.next] at g3 g4
   rw [r2]
   refine ⟨by rw [g1,g3,hrall],by rw [g2,g4],?_⟩
   rw [g1,place_one _ _ hp]
   show _=replay s (allB l++[(((smallB b0).at z).to (nextL l)).p])
   rw [replay_snoc,← h.rep,rapp_to]
  ·obtain ⟨g1,-⟩:=rapp_err (seg:=s) (l:=l) (bs:=[(smallB b0).at z]) (.inr hp)
   obtain ⟨g3,-⟩:=rapp_err (seg:=R.seg) (l:=R.l) (bs:=[(smallB b0).at z]) (.inr (by rw [h.next];exact hp))
   rw [r2,g1,g3]
   exact ⟨hrall,h.next,h.rep⟩
 rw [h2] at hst hsy ⊢
 have hu:=hst.2.2.1
 have hl:=hst.2.2.2.1
 have hll:(rappA s l [(smallB b0).at z]).2.length≤l.length+1:=by
  unfold rappA
  split
  ·simp
  split
  ·simp
  ·simp only
   split
   ·rename_i hr
    have hne:l≠[]:=by rintro rfl;cases hr
    obtain ⟨l0,t,rfl⟩:=snoc_of hne
    rw [addLast_snoc];simp
   ·simp
 have hlen2:(lappA qP s l D [(smallB b0).at z]).2.2.fs.length≤D.fs.length+1:=by
  unfold lappA
  split
  ·simp only;omega
  split
  ·simp only;omega
  split
  ·split <;> exact append_len.1
  ·obtain ⟨-,-,-,s4,-⟩:=lsync_all h.cpl
   split
   ·simp only;omega
   split
   ·simp only
    have:=(append_len (A:=(lsyncA qP l D).2) (n:=nameS qP (nextL l) logX) (bs:=shL (nextL l) 0++(placeL (nextL l) [(smallB b0).at z]).2.flatMap frL)).1
    omega
   ·simp only
    have:=(append_len (A:=(lsyncA qP l D).2) (n:=nameS qP (nextL l) logX) (bs:=shL (nextL l) 0++(placeL (nextL l) [(smallB b0).at z]).2.flatMap frL)).1
    omega
 exact ⟨hst.1,hsy,r1.trans h.rseg,hsegR,by have:=h.srl;omega,by have:=h.brl;omega,by rw [hR];exact hallN.1,hallN.2.1,hallN.2.2,hst.2.1.room.trans h.room,by have:=h.used;omega,by have:=h.len;omega,h.in1.app r5,fun c=>hst.2.2.2.2 (h.calm c)⟩
theorem FilI.fail {s:Int} {k n:Nat} {l:List SegA} {pool:List BatM} {C:Prop} {R':RefM} {b0:BatM} {z z':Sl} (h:FilI s k D l R pool n C) (hk:k<20)
  (h1:(lappA qP s l D [(smallB b0).at z]).2.1=l) (h2:(lappA qP s l D [(smallB b0).at z]).2.2.gone=true)
  (r2:R'.l=(rappA R.seg R.l [(smallB b0).at z']).2) (r4:R'.bs.length≤R.bs.length+1) (r5:∀ b ∈ R'.bs,b ∈ R.bs∨(b.x=z'∧b.rs=(smallB b0).rs)) :
  FilE s (lappA qP s l D [(smallB b0).at z]).2.2 l R'.bs (pool++[(smallB b0).at z']) n C:=by
 have hst:=lapp_stp s [(smallB b0).at z] qP_ok h.cpl
 have hsy:=h.syn.app (seg:=s) (bs:=[(smallB b0).at z]) qP_ok h.cpl
 rw [h1] at hst hsy
 have hR:R'.bs.map BatM.p=allB R'.l:=by rw [allB_l]
 have hRR:R.bs.map BatM.p=allB R.l:=by rw [allB_l]
 have hrall:allB R.l=allB l:=hRR.symm.trans h.all
 have hu:=hst.2.2.1
 have hl:=hst.2.2.2.1
 refine ⟨hst.1,hsy,?_,h.rep,hst.2.1.room.trans h.room,by have:=h.used;omega,by have:=h.len;omega,by have:=h.brl;omega,h.in1.app r5,fun c=>?_⟩
 ·by_cases hp:(placeL (nextL R.l) [(smallB b0).at z']).1=0
  ·obtain ⟨g3,-⟩:=rapp_all (seg:=R.seg) (bs:=[(smallB b0).at z']) h.segs (by simp) hp
   refine .inr ⟨h2,?_⟩
   rw [hR,r2,g3,place_one _ _ hp,hrall]
   exact ⟨_,rfl⟩
  ·obtain ⟨g3,-⟩:=rapp_err (seg:=R.seg) (l:=R.l) (bs:=[(smallB b0).at z']) (.inr hp)
   refine .inl ?_
   rw [hR,r2,g3,hrall]
 ·have:=(hst.2.2.2.2 (h.calm c)).gone
  rw [this] at h2;cases h2
end
theorem lapp_le {pre:ByteArray} {seg:Int} {l:List SegA} {D:DiskA} {bs:List BatM} (h:Cpl pre l D) (hu:used D.fs≤D.room):used (lappA pre seg l D bs).2.2.fs≤D.room:=by
 have key:∀ {D:DiskA} {n:ByteArray} {x:List UInt8},okA D→used D.fs≤D.room→used (appendA D n x).2.fs≤D.room:=fun {D n x} hok hu=>by
  by_cases he:(appendA D n x).1=0
  ·obtain ⟨-,-,h3,-,-,h6,-⟩:=append_ok hok he
   unfold DiskA.free at h3
   omega
  ·rw [append_err he];exact hu
 unfold lappA
 split
 ·exact hu
 split
 ·exact hu
 split
 ·split <;> exact key h.ok hu
 ·obtain ⟨s1,s2,s3,s4,-⟩:=lsync_all h
  have h2:used (lsyncA pre l D).2.fs≤D.room:=by omega
  split
  ·exact h2
  ·have:=key (n:=nameS pre (nextL l) logX) (x:=shL (nextL l) 0++(placeL (nextL l) bs).2.flatMap frL) s1.ok (by rw [s2.room];exact h2)
   rw [s2.room] at this
   split <;> exact this
theorem sumF_len:∀ (l:List SegA),l.length*11≤sumF l
 | []=>Nat.le_refl _
 | s::l=>by
  have h1:=sumF_len l
  have h2:=shL_len s.base s.fin
  have h3:=file_len s
  have e2:sumF (s::l)=s.file.length+sumF l:=by simp [sumF]
  rw [e2,List.length_cons]
  omega
structure FulI (s:Int) (n0:Nat) (D:DiskA) (R:RefM) (pool:List BatM):Prop where
 rs:R.seg=s
 cpl:Cpl qP R.l D
 calm:Calm D
 room:D.room=n0
 used:used D.fs=sumF R.l
 le:Dec.used D.fs≤n0
 len:D.fs.length≤R.l.length
 in1:InP pool R
theorem FulI.step {s:Int} {n0:Nat} {D D':DiskA} {R R':RefM} {pool pool':List BatM} (h:FulI s n0 D R pool) (hst:Stp qP R.l D R'.l D') (hle:Dec.used D'.fs≤D.room) (h1:R'.seg=R.seg) (hin:InP pool' R'):FulI s n0 D' R' pool':=by
 obtain ⟨g1,g2,g3,g4,g5⟩:=hst
 exact ⟨h1.trans h.rs,g1,g5 h.calm,g2.room.trans h.room,by have:=h.used;omega,by have:=h.room;omega,by have:=h.len;omega,hin⟩
section
variable {P:Program} {w:World} {l r:List HP} {Q:Post} {S:World→Prop} {T:TypeId} {sz:Nat}
theorem wp_ixA0 {α:Type} {enc:α→List Value} {xs:List α} {x:Sl} {T:TypeId} {m q:Nat} {ii:Int} {g':Prop} {ps:List Pr} {dec:α→HL ps} {k:HL ps→Prog} (hs:Sat w l) [hf:FocR l x sz (xs.flatMap enc)] [hE:EncN enc sz] [hD:EncA enc ps dec] [hT:Agg P T q]
  (n:Nat) (hn:n<xs.length) (h:(k (dec xs[n])).wp P S w Q) (hm:m=n*sz:=by rfl) (hi:ii=n:=by rfl) (hq:Nat.beq sz q=true:=by rfl) :
  (Prog.ex [.adr] (c1 fun a=>(0:Int)≤ii∧ii<((x.len:Nat):Int)∧x.a=some a) (u1 fun a=>.read g' (ld T (Addr.add a m)) (.one (.agg ps)) k)).wp P S w Q:=by
 have hq:=Nat.eq_of_beq_eq_true hq
 subst hm hi hq
 have hr:=hf.rd w hs
 have hl:x.len=xs.length:=hr.len hE.len hE.pos
 obtain ⟨a,ha,he⟩:=hr.el hE.len (by omega)
 refine ⟨(a,()),⟨by omega,by omega,ha⟩,dec xs[n],fun _=>?_,h⟩
 have:=he n hn
 have h2:=At.ldA (P:=P) (T:=T) this (hE.len _)
 rw [hD.ok] at h2
 exact h2
end
section
variable {w:World} {l r:List HP}
set_option maxHeartbeats 1000000 in
theorem full6_law (seg room:Int) (x:Sl) (bs:List BatM) (hx:FocR l x 7 (bs.flatMap encB7)) (hbs:∀ b ∈ bs,FocR l b.x 4 (b.rs.flatMap encR)) (hs:Sat w l) :
  Ret P F.towpathlaw06_SeglogFull #[.int .i64 seg,.int .i64 room,x.v] w fun vs w'=>vs=[.bool true]∧Sat w' l :=
 towpathlaw06_SeglogFull_calls seg room x <| by
  unfold towpathlaw06_SeglogFull
  have hlx:=hs.slen x (xs:=bs) (enc:=encB7)
  refine wp_call (config_c seg 5 hs) fun _ w' hs=>?_
  obtain ⟨s,g,hsr,hgr,rfl,hs⟩:=hs
  refine ⟨(s,g,()),rfl,trivial,wp_u2 _ _ ?_⟩
  have hcfg:okCfg s g:=⟨by omega,by omega⟩
  refine wp_newO hs fun a2 w' hs=>?_
  refine wp_stG hs fun w' hs=>?_
  have hm1 : -600<Int.tmod room 600∧Int.tmod room 600<600:=⟨by have:=Int.lt_tmod_of_pos room (b:=600) (by omega);omega,Int.tmod_lt_of_pos room (by omega)⟩
  generalize Int.tmod room 600=t at *
  refine wp_lt ?_
  refine wp_mid (fun q w'=>∃ n0:Nat,n0≤599∧q=((n0:Int),())∧Sat w' (pt a2 (.cells #[.int .i64 s,.int .i64 g] T.seglog_Config)::l)) ?_ ?_
  ·refine wp_if (fun h=>?_) fun h=>?_
   ·rw [w64 (by omega) (by omega)]
    refine wp_lt ?_
    obtain ⟨n0,hn0⟩:∃ n0:Nat,0-t=(n0:Int):=⟨(0-t).toNat,by omega⟩
    rw [hn0]
    exact wp_lv ⟨n0,by omega,rfl,hs⟩
   ·obtain ⟨n0,hn0⟩:∃ n0:Nat,t=(n0:Int):=⟨t.toNat,by omega⟩
    rw [hn0]
    exact wp_lv ⟨n0,by omega,rfl,hs⟩
  clear hs
  rintro _ w ⟨n0,hn0,rfl,hs⟩
  refine wp_on ?_
  refine wp_call (new_ok n0 (by omega) hs) fun _ w' hs=>?_
  obtain ⟨d,rfl,hs⟩:=hs
  refine ⟨(some ⟨d,0,none⟩,0,()),rfl,trivial,wp_u2 _ _ ?_⟩
  refine wp_lt ?_
  refine wp_ldG hs ?_
  refine wp_call (lopen_c (d:=d) (D:=⟨n0,-1,false,[]⟩) qP s g qP_ok hcfg rfl hs) fun _ w' hs=>?_
  rw [lopen_empty] at hs
  rcases hs with ⟨he,-,-⟩|⟨-,a,rfl,hs⟩
  ·exact absurd rfl he
  have hs:Sat w' (lgP a ⟨d,qP,s,g,[]⟩::dk d ⟨n0,-1,false,[]⟩::pt a2 (.cells #[.int .i64 s,.int .i64 g] T.seglog_Config)::l):=hs
  refine ⟨(some ⟨a,0,none⟩,0,()),rfl,trivial,wp_u2 _ _ ?_⟩
  refine wp_lt ?_
  refine wp_ldO hs ?_
  refine wp_ldO hs ?_
  refine wp_boxO hs fun ra w' hs=>?_
  have hs:=rf_new hs
  refine wp_ifF ?_ (by simp)
  have hs:Sat w' (lgP a ⟨d,qP,s,g,(RefM.mk s g []).l⟩::dk d ⟨n0,-1,false,[]⟩::rfP ra ⟨s,g,[]⟩::batsP []::pt a2 (.cells #[.int .i64 s,.int .i64 g] T.seglog_Config)::l):=(bats_nil hs).pick [2,2,1]
  have hI:FulI s n0 ⟨n0,-1,false,[]⟩ ⟨s,g,[]⟩ []:=⟨rfl,cpl_empty _ _ (by omega),⟨rfl,rfl⟩,rfl,rfl,Nat.zero_le _,Nat.le_refl _,fun b hb=>by cases hb⟩
  refine wp_mid (fun q w'=>∃ (ra:Nat) (D:DiskA) (R:RefM) (pool:List BatM),q=(some ⟨ra,0,none⟩,())∧FulI s n0 D R pool∧Sat w' (lgP a ⟨d,qP,s,g,R.l⟩::dk d D::rfP ra R::batsP pool::pt a2 (.cells #[.int .i64 s,.int .i64 g] T.seglog_Config)::l)) ?_ ?_
  ·refine wp_loop (fun m v w=>∃ (i ra:Nat) (D:DiskA) (R:RefM) (pool:List BatM),v=(some ⟨ra,0,none⟩,((i:Int),()))∧i≤bs.length∧i≤20∧bs.length-i=m∧FulI s n0 D R pool∧Sat w (lgP a ⟨d,qP,s,g,R.l⟩::dk d D::rfP ra R::batsP pool::pt a2 (.cells #[.int .i64 s,.int .i64 g] T.seglog_Config)::l)) bs.length ⟨0,ra,_,_,_,rfl,by omega,by omega,rfl,hI,hs⟩ ?_
   clear hs hI
   rintro m _ w ⟨i,ra,D,R,pool,rfl,hi,hi20,hm,hI,hs⟩
   refine wp_on ?_
   refine wp_if (fun hc=>?_) fun hc=>?_
   rotate_left
   ·exact wp_pass (wp_lv ⟨ra,D,R,pool,rfl,hI,hs⟩)
   have hil:i<bs.length:=by omega
   have hRb:=hbs _ (List.getElem_mem hil)
   obtain ⟨k1,k2,k3⟩:=hI.cpl.len
   have k1':R.SR.length≤128:=by rw [← R_l_len];exact k1
   have k2':R.bs.length≤500000:=by rw [allB_l,List.length_map] at k2;exact k2
   have hsl:=sumF_len R.l
   have hused:=hI.used
   have hle:=hI.le
   have hroom:=hI.room
   have hlen:=hI.len
   refine wp_mid (fun q w'=>∃ (ra:Nat) (D:DiskA) (R:RefM) (pool:List BatM),i<20∧q=(some ⟨ra,0,none⟩,())∧FulI s n0 D R pool∧Sat w' (lgP a ⟨d,qP,s,g,R.l⟩::dk d D::rfP ra R::batsP pool::pt a2 (.cells #[.int .i64 s,.int .i64 g] T.seglog_Config)::l)) ?_ ?_
   rotate_left
   ·rintro _ w2 ⟨ra,D,R,pool,h20,rfl,hI,hs⟩
    refine wp_on ?_
    rw [wS (i:=i) (by omega)]
    exact wp_lp (bs.length-(i+1)) ⟨i+1,ra,D,R,pool,rfl,by omega,by omega,rfl,hI,hs⟩
   refine wp_ixA hs (xs:=bs) (enc:=encB7) i hil ?_
   refine wp_newO hs fun a28 w' hs=>?_
   refine wp_lt ?_
   refine wp_stG hs fun w' hs=>?_
   refine wp_if (fun h20=>?_) fun h20=>?_
   ·have hs:Sat w' (lgP a ⟨d,qP,s,g,R.l⟩::dk d D::rfP ra R::batsP pool::pt a2 (.cells #[.int .i64 s,.int .i64 g] T.seglog_Config)::l):=hs.tail
    exact wp_pass (wp_pass (wp_lv ⟨ra,D,R,pool,rfl,hI,hs⟩))
   refine wp_ldG hs ?_
   refine wp_call (small_c bs[i] hs) fun _ w' hs=>?_
   obtain ⟨z1,rfl,hs⟩:=hs
   refine ⟨(bs[i].base,bs[i].pid,bs[i].epoch,bs[i].seq,bs[i].kind,bs[i].time,z1,()),rfl,trivial,wp_u7 _ _ _ _ _ _ _ ?_⟩
   refine wp_newO hs fun a44 w' hs=>?_
   refine wp_stG hs fun w' hs=>?_
   have hs:Sat w' (pt a44 (.cells (cZ bs[i] z1) T.api_Batch)::slc T.api_Record 4 z1 ((smallB bs[i]).rs.flatMap encR)::lgP a ⟨d,qP,s,g,R.l⟩::dk d D::rfP ra R::batsP pool::pt a2 (.cells #[.int .i64 s,.int .i64 g] T.seglog_Config)::l):=hs.sub
   generalize hb0:bs[i]=b0 at *
   refine wp_call (rcopyL_c (a:=ra) (R:=R) (by omega) (by omega) hs) fun _ w' hs=>?_
   obtain ⟨c,Rc,rfl,rc1,rc2,rc3,rc4,hs⟩:=hs
   refine ret_of ?_
   refine wp_ldG hs ?_
   refine wp_slit1 hs (enc:=encB7) ((smallB b0).at z1) fun y1 w' hs=>?_
   refine wp_call (lappend_c (lg:=a) (A:=⟨d,qP,s,g,R.l⟩) (D:=D) y1 [(smallB b0).at z1] (by show R.l.length≤_;omega) hI.cpl.segs (fun t ht=>by have:=k3 t ht;omega) (by show 1≤900;omega) inferInstance (fun c hc=>by rw [List.mem_singleton.1 hc];show FocR _ z1 4 ((smallB b0).rs.flatMap encR);infer_instance) hs) fun _ w' hs=>?_
   obtain ⟨rfl,hs⟩:=hs
   have hs:Sat w' (lgP a ⟨d,qP,s,g,(lappA qP s R.l D [(smallB b0).at z1]).2.1⟩::dk d (lappA qP s R.l D [(smallB b0).at z1]).2.2::slc T.api_Batch 7 y1 ([(smallB b0).at z1].flatMap encB7)::rfP c Rc::rfP ra R::pt a44 (.cells (cZ b0 z1) T.api_Batch)::slc T.api_Record 4 z1 ((smallB b0).rs.flatMap encR)::batsP pool::pt a2 (.cells #[.int .i64 s,.int .i64 g] T.seglog_Config)::l):=hs
   refine ⟨((lappA qP s R.l D [(smallB b0).at z1]).1.1,(lappA qP s R.l D [(smallB b0).at z1]).1.2,()),rfl,trivial,wp_u2 _ _ ?_⟩
   refine wp_lt ?_
   refine wp_lt ?_
   refine wp_ldG hs ?_
   refine wp_slit1 hs (enc:=encB7) ((smallB b0).at z1) fun y2 w' hs=>?_
   have hok:okR R (batsP pool::pt a2 (.cells #[.int .i64 s,.int .i64 g] T.seglog_Config)::l):=okR_of hI.cpl hI.in1.rd
   have hinc:InP pool Rc:=fun b hb=>hI.in1 b (by rw [← rc4];exact hb)
   have hokc:okR Rc (batsP pool::pt a2 (.cells #[.int .i64 s,.int .i64 g] T.seglog_Config)::l):=okR_of (pre:=qP) (D:=D) (by rw [rc3];exact hI.cpl) hinc.rd
   refine wp_call (rappend_c (a:=ra) (R:=R) y2 [(smallB b0).at z1] (by omega) (by omega) (by rw [hI.rs];omega) (by show 1≤900;omega) inferInstance (fun c hc=>by rw [List.mem_singleton.1 hc];show FocR _ z1 4 ((smallB b0).rs.flatMap encR);infer_instance) hs) fun _ w' hs=>?_
   obtain ⟨rfl,R',q1,q2,q3,q4,q5,q6,-,hs⟩:=hs
   rw [hI.rs] at q3 ⊢
   refine ⟨((rappA s R.l [(smallB b0).at z1]).1.1,(rappA s R.l [(smallB b0).at z1]).1.2,()),rfl,trivial,wp_u2 _ _ ?_⟩
   refine wp_lt ?_
   refine wp_lt ?_
   have q6':∀ b ∈ R'.bs,b ∈ R.bs∨(b.x=z1∧b.rs=(smallB b0).rs):=fun b hb=>by
    rcases q6 b hb with h|⟨c,hc,h1,h2⟩
    ·exact .inl h
    ·rw [List.mem_singleton.1 hc] at h1 h2
     exact .inr ⟨h1,h2⟩
   have hst:=lapp_stp s [(smallB b0).at z1] qP_ok hI.cpl
   have hle2:=lapp_le (seg:=s) (bs:=[(smallB b0).at z1]) hI.cpl (by omega)
   have hpc:=place_cases [(smallB b0).at z1] (nextL R.l)
   have hfst:(rappA s R.l [(smallB b0).at z1]).1.2=(placeL (nextL R.l) [(smallB b0).at z1]).1:=rapp_fst (by simp)
   rcases lapp_full s [(smallB b0).at z1] qP_ok hI.cpl hI.calm with ⟨e1,e2⟩|⟨e1,e2,e3,e4,e5⟩
   ·rw [e1]
    refine wp_ifF ?_ (by rw [hfst];omega)
    rw [e2,← q3] at hst hs
    have hI2:FulI s n0 (lappA qP s R.l D [(smallB b0).at z1]).2.2 R' (pool++[(smallB b0).at z1]):=hI.step hst hle2 q1 (hI.in1.app q6')
    generalize (lappA qP s R.l D [(smallB b0).at z1]).2.2=D2 at hI2 hs
    have hs:Sat w' (slc T.api_Record 4 z1 ((smallB b0).rs.flatMap encR)::batsP pool::lgP a ⟨d,qP,s,g,R'.l⟩::dk d D2::rfP ra R'::pt a2 (.cells #[.int .i64 s,.int .i64 g] T.seglog_Config)::l):=hs.sub
    have hs:=bats_put2 hs
    have hs:Sat w' (lgP a ⟨d,qP,s,g,R'.l⟩::dk d D2::rfP ra R'::batsP (pool++[(smallB b0).at z1])::pt a2 (.cells #[.int .i64 s,.int .i64 g] T.seglog_Config)::l):=hs.sub
    have hok2:okR R' (batsP (pool++[(smallB b0).at z1])::pt a2 (.cells #[.int .i64 s,.int .i64 g] T.seglog_Config)::l):=okR_of hI2.cpl hI2.in1.rd
    refine wp_mid (fun q w'=>q=(false,())∧Sat w' (lgP a ⟨d,qP,s,g,R'.l⟩::dk d D2::rfP ra R'::batsP (pool++[(smallB b0).at z1])::pt a2 (.cells #[.int .i64 s,.int .i64 g] T.seglog_Config)::l)) ?_ ?_
    ·refine wp_ifF ?_ (by simp)
     refine wp_call (same_c (lg:=a) (rr:=ra) (R:=R') (A:=⟨d,qP,s,g,R'.l⟩) (D:=D2) rfl hI2.cpl.has hs) fun _ w' hs=>?_
     obtain ⟨rfl,hs⟩:=hs
     refine ret_of ?_
     exact wp_lv ⟨rfl,hs⟩
    clear hs
    rintro _ w3 ⟨rfl,hs⟩
    refine wp_ifF ?_ (by simp)
    exact wp_lv ⟨ra,D2,R',_,by omega,rfl,hI2,hs⟩
   ·rw [e1]
    refine wp_ifT ?_ (by rw [hfst,e4];simp)
    have hI2:FulI s n0 (lappA qP s R.l D [(smallB b0).at z1]).2.2 Rc pool:=hI.step (by rw [e2] at hst;rw [rc3];exact hst) hle2 rc1 hinc
    rw [e2] at hs
    have hfew:D.fs.length≤54:=by omega
    have hused':used D.fs=sumF Rc.l:=by rw [rc3];exact hused
    generalize (lappA qP s R.l D [(smallB b0).at z1]).2.2=D2 at hI2 hs
    rw [← rc3] at hs e4 e5
    have hs:Sat w' (rfP c Rc::lgP a ⟨d,qP,s,g,Rc.l⟩::dk d D2::pt a44 (.cells (cZ b0 z1) T.api_Batch)::slc T.api_Record 4 z1 ((smallB b0).rs.flatMap encR)::batsP pool::pt a2 (.cells #[.int .i64 s,.int .i64 g] T.seglog_Config)::l):=hs.sub
    obtain ⟨zc,hs⟩:=rf_open hs
    have hlz:=hs.slen zc (xs:=Rc.SR) (enc:=encSR)
    have hcl:Rc.SR.length≤128:=by rw [← R_l_len,rc3];exact k1
    have hcus:sumF Rc.l≤599:=by rw [rc3];omega
    have htake:∀ i,sumF (Rc.l.take i)≤sumF Rc.l:=fun i=>by
     have:sumF Rc.l=sumF (Rc.l.take i)+sumF (Rc.l.drop i):=by
      unfold sumF
      rw [← List.sum_append_nat,← List.map_append,List.take_append_drop]
     omega
    refine wp_nn ?_
    refine wp_ldO hs ?_
    refine wp_mid (fun q w'=>q=(((sumF Rc.l:Nat):Int),())∧Sat w' (pt c (.cells #[.int .i64 Rc.seg,.int .i64 Rc.gap,.slice zc.a zc.len zc.cap] T.towpathref06_Log)::slc T.towpathref06_Segment 3 zc (Rc.SR.flatMap encSR)::HP.all (Rc.SR.map rsgP)::lgP a ⟨d,qP,s,g,Rc.l⟩::dk d D2::pt a44 (.cells (cZ b0 z1) T.api_Batch)::slc T.api_Record 4 z1 ((smallB b0).rs.flatMap encR)::batsP pool::pt a2 (.cells #[.int .i64 s,.int .i64 g] T.seglog_Config)::l)) ?_ ?_
    ·refine wp_loop (fun m v w=>∃ j:Nat,v=(((sumF (Rc.l.take j):Nat):Int),((j:Int),()))∧j≤Rc.SR.length∧Rc.SR.length-j=m∧Sat w (pt c (.cells #[.int .i64 Rc.seg,.int .i64 Rc.gap,.slice zc.a zc.len zc.cap] T.towpathref06_Log)::slc T.towpathref06_Segment 3 zc (Rc.SR.flatMap encSR)::HP.all (Rc.SR.map rsgP)::lgP a ⟨d,qP,s,g,Rc.l⟩::dk d D2::pt a44 (.cells (cZ b0 z1) T.api_Batch)::slc T.api_Record 4 z1 ((smallB b0).rs.flatMap encR)::batsP pool::pt a2 (.cells #[.int .i64 s,.int .i64 g] T.seglog_Config)::l)) Rc.SR.length ⟨0,rfl,by omega,rfl,hs⟩ ?_
     clear hs
     rintro m' _ w ⟨j,rfl,hj,hm',hs⟩
     refine wp_on ?_
     refine wp_if (fun hc=>?_) fun hc=>?_
     rotate_left
     ·refine wp_pass (wp_lv ⟨?_,hs⟩)
      rw [List.take_of_length_le (by rw [R_l_len];omega)]
     have hjl:j<Rc.SR.length:=by omega
     have hmj:=List.getElem_mem hjl
     obtain ⟨v1,v2,v3⟩:=hokc.valid _ hmj
     have hsx:FocR (HP.all (Rc.SR.map rsgP)::lgP a ⟨d,qP,s,g,Rc.l⟩::dk d D2::pt a44 (.cells (cZ b0 z1) T.api_Batch)::slc T.api_Record 4 z1 ((smallB b0).rs.flatMap encR)::batsP pool::pt a2 (.cells #[.int .i64 s,.int .i64 g] T.seglog_Config)::l) Rc.SR[j].x 7 (Rc.SR[j].bs.flatMap encB7):=rsg_rd hmj
     have hx1:sumF (Rc.l.take (j+1))=sumF (Rc.l.take j)+Rc.SR[j].p.file.length:=by
      have hjl2:j<Rc.l.length:=by rw [R_l_len];exact hjl
      rw [List.take_succ_eq_append_getElem hjl2,sumF_snoc]
      simp [RefM.l]
     have ht1:=htake (j+1)
     refine wp_ixA hs (xs:=Rc.SR) (enc:=encSR) j hjl ?_
     refine wp_newO hs fun a80 w' hs=>?_
     refine wp_stG hs fun w' hs=>?_
     refine wp_ldG hs ?_
     refine wp_call (rfile_c Rc.SR[j] v1 (fun b hb=>(v2 b hb).1) (fun b hb=>by have:=(v2 b hb).2;infer_instance) v3 hs) fun _ w' hs=>?_
     obtain ⟨y,rfl,hs⟩:=hs
     refine ret_of ?_
     have hly:=hs.slen y (xs:=Rc.SR[j].p.file) (enc:=encU)
     rw [hly,w64 (by omega) (by omega)]
     refine wp_lt ?_
     rw [wS (i:=j) (by omega)]
     refine wp_lp (Rc.SR.length-(j+1)) ⟨j+1,?_,by omega,rfl,hs.tail.tail⟩
     rw [hx1]
     refine Prod.ext ?_ rfl
     show _=(((sumF (Rc.l.take j)+Rc.SR[j].p.file.length:Nat)):Int)
     omega
    clear hs
    rintro _ w3 ⟨rfl,hs⟩
    refine wp_on ?_
    refine wp_ldG hs ?_
    refine wp_slit1 hs (enc:=encB7) ((smallB b0).at z1) fun y3 w' hs=>?_
    refine wp_call (rplacedV_c (R:=Rc) (z:=zc) (a:=c) y3 [(smallB b0).at z1] inferInstance (fun s hs=>rsg_rd hs) (by show 1≤100000;omega) inferInstance (fun c hc=>by rw [List.mem_singleton.1 hc];show FocR _ z1 4 ((smallB b0).rs.flatMap encR);infer_instance) hs) fun _ w' hs=>?_
    rcases hs with ⟨he,-,-⟩|⟨-,y4,rfl,hs⟩
    ·exact absurd e4 he
    rw [place_one _ _ e4] at hs e5
    refine ⟨(y4,0,()),rfl,trivial,wp_u2 _ _ ?_⟩
    refine wp_lt ?_
    have hv1:validB (((smallB b0).at z1).to (nextL Rc.l))=0:=by
     have:=(placeL_ok e4).2.1
     rw [place_one _ _ e4] at this
     exact (this _ (List.mem_singleton.2 rfl)).1
    have hbl:=small_len b0 (nextL Rc.l) z1
    have hfl:=frL_len hv1
    have hshl:=shL_len (nextL Rc.l) 0
    have hnx:=hI2.cpl.segs.next (Int.le_refl 0)
    have hlow:¬ ((sumF Rc.l:Nat):Int)+((frL (((smallB b0).at z1).to (nextL Rc.l))).length:Nat)+((shL (nextL Rc.l) 0).length:Nat)≤(n0:Int):=by
     have e6:([((smallB b0).at z1).to (nextL Rc.l)].flatMap frL).length=(frL (((smallB b0).at z1).to (nextL Rc.l))).length:=by simp
     rw [e6] at e5
     unfold DiskA.free at e5
     rcases e5 with e5|e5
     ·omega
     ·omega
    refine wp_mid (fun q w'=>q=(false,())∧Sat w' (lgP a ⟨d,qP,s,g,Rc.l⟩::dk d D2::rfP c Rc::batsP pool::pt a2 (.cells #[.int .i64 s,.int .i64 g] T.seglog_Config)::l)) ?_ ?_
    ·have hq1:FocR (slc T.api_Batch 7 y4 ([((smallB b0).at z1).to (nextL Rc.l)].flatMap encB7)::slc T.api_Batch 7 y3 ([(smallB b0).at z1].flatMap encB7)::pt c (.cells #[.int .i64 Rc.seg,.int .i64 Rc.gap,.slice zc.a zc.len zc.cap] T.towpathref06_Log)::slc T.towpathref06_Segment 3 zc (Rc.SR.flatMap encSR)::HP.all (Rc.SR.map rsgP)::lgP a ⟨d,qP,s,g,Rc.l⟩::dk d D2::pt a44 (.cells (cZ b0 z1) T.api_Batch)::slc T.api_Record 4 z1 ((smallB b0).rs.flatMap encR)::batsP pool::pt a2 (.cells #[.int .i64 s,.int .i64 g] T.seglog_Config)::l) (((smallB b0).at z1).to (nextL Rc.l)).x 4 ((((smallB b0).at z1).to (nextL Rc.l)).rs.flatMap encR):=by
      show FocR _ z1 4 ((smallB b0).rs.flatMap encR)
      infer_instance
     refine wp_ixA0 hs (xs:=[((smallB b0).at z1).to (nextL Rc.l)]) (enc:=encB7) 0 (by show 0<1;omega) ?_
     refine wp_call (rsize_c (((smallB b0).at z1).to (nextL Rc.l)) hv1 hs) fun _ w' hs=>?_
     obtain ⟨rfl,hs⟩:=hs
     refine ret_of ?_
     refine wp_call (rnextV_c (R:=Rc) (z:=zc) (a:=c) inferInstance (fun s hs=>rsg_rd hs) hs) fun _ w' hs=>?_
     obtain ⟨rfl,hs⟩:=hs
     refine ret_of ?_
     refine wp_call (dhead_c (nextL Rc.l) 0 (by omega) (by omega) hs) fun _ w' hs=>?_
     obtain ⟨y5,rfl,hs⟩:=hs
     refine ret_of ?_
     have hl5:=hs.slen y5 (xs:=shL (nextL Rc.l) 0) (enc:=encU)
     have ew:IntKind.wrap .i64 (((sumF Rc.l:Nat):Int)+((frL (((smallB b0).at z1).to (nextL Rc.l))).length:Nat))=((sumF Rc.l:Nat):Int)+((frL (((smallB b0).at z1).to (nextL Rc.l))).length:Nat):=w64 (by omega) (by omega)
     rw [hl5,ew,w64 (by omega) (by omega)]
     refine wp_ifF ?_ hlow
     have hs:=rf_close Rc (z:=zc) (hs.pick [3,3,3])
     refine wp_call (same_c (lg:=a) (rr:=c) (R:=Rc) (A:=⟨d,qP,s,g,Rc.l⟩) (D:=D2) rfl hI2.cpl.has hs) fun _ w' hs=>?_
     obtain ⟨rfl,hs⟩:=hs
     refine ret_of ?_
     have hs:Sat w' (lgP a ⟨d,qP,s,g,Rc.l⟩::dk d D2::rfP c Rc::_):=hs
     exact wp_lv ⟨rfl,hs.sub⟩
    clear hs
    rintro _ w4 ⟨rfl,hs⟩
    refine wp_ifF ?_ (by simp)
    exact wp_lv ⟨c,D2,Rc,pool,by omega,rfl,hI2,hs⟩
  clear hs hI
  rintro _ w ⟨ra,D,R,pool,rfl,hI,hs⟩
  refine wp_on ?_
  have hok:okR R (batsP pool::pt a2 (.cells #[.int .i64 s,.int .i64 g] T.seglog_Config)::l):=okR_of hI.cpl hI.in1.rd
  refine wp_ldG hs ?_
  refine wp_call (lopen_c (d:=d) (D:=D) qP s g qP_ok hcfg hI.calm.gone hs) fun _ w' hs=>?_
  rw [hI.cpl.opened] at hs
  rcases hs with ⟨he,-,-⟩|⟨-,a',rfl,hs⟩
  ·exact absurd rfl he
  refine ⟨(some ⟨a',0,none⟩,0,()),rfl,trivial,wp_u2 _ _ ?_⟩
  have hs:Sat w' (lgP a' ⟨d,qP,s,g,R.l⟩::dk d D::rfP ra R::batsP pool::pt a2 (.cells #[.int .i64 s,.int .i64 g] T.seglog_Config)::l):=(show Sat w' (lgP a' ⟨d,qP,s,g,R.l⟩::dk d D::_) from hs).sub
  refine wp_lt ?_
  refine wp_mid (fun q w'=>q=(true,())∧Sat w' l) ?_ ?_
  rotate_left
  ·rintro _ w2 ⟨rfl,hs⟩
   exact ⟨rfl,rfl,hs⟩
  refine wp_ifT ?_ (by simp)
  refine wp_call (same_c (lg:=a') (rr:=ra) (R:=R) (A:=⟨d,qP,s,g,R.l⟩) (D:=D) rfl hI.cpl.has hs) fun _ w' hs=>?_
  obtain ⟨rfl,hs⟩:=hs
  refine ret_of ?_
  refine wp_ifT ?_ (by simp)
  have hs:Sat w' (lgP a' ⟨d,qP,s,g,R.l⟩::dk d D::rfP ra R::batsP pool::pt a2 (.cells #[.int .i64 s,.int .i64 g] T.seglog_Config)::l):=hs
  refine wp_call (room_ok (d:=d) (A:=D) 65536 (by omega) hs) fun _ w' hs=>?_
  obtain ⟨rfl,hs⟩:=hs
  refine ret_of ?_
  refine wp_ifT ?_ (by simp)
  have hs:Sat w' l:=hs.sub
  refine wp_call (awake6_c hs) fun _ _ hs=>?_
  obtain ⟨rfl,hs⟩:=hs
  refine ret_of ?_
  refine wp_lt ?_
  exact wp_lv ⟨rfl,hs⟩
end
open Go.ChangeShapes Go.WideShapes Go.RowKit Go.Deep
section
variable {H:Type} {enc:TypeId × Value→H} {P:Program} {w:World} {base:Nat} {spare:Nat→Bool} {held:Bool}
theorem trod_fields {t:TypeId} {fs:Array Field} {n C:Nat} {cs:List Value} {y:DataW H × List MemPlace} (ht:P.underlying t=some (.struct fs)) (hd:DataW.trod enc P w base spare held n t cs=some y) (hC:P.cellsOf t=C) :
  cs.length=C∧∃ n',∀ (j:Nat) (f:Field),fs[j]? = some f→∃ y,DataW.trod enc P w base spare held n' f.type ((cs.drop f.offset).take (P.cellsOf f.type))=some y:=by
 obtain ⟨ys,n',hn',hy,hlen,hyl,hf⟩:=DataW.trod_struct ht hd
 refine ⟨by rw [hlen,hC],n',fun j f hj=>?_⟩
 have hjl:j<fs.size:=(Array.getElem?_eq_some_iff.1 hj).1
 have h1:=hf j f hj
 rw [List.getElem?_eq_getElem (by omega)] at h1
 exact ⟨_,h1⟩
theorem read_rec {t:TypeId} {f0 f1 f2 f3:Field} {n:Nat} {cs:List Value} {y:DataW H × List MemPlace} (ht:P.underlying t=some (.struct #[f0,f1,f2,f3])) (hC:P.cellsOf t=4) (k0:P.underlying f0.type=some .string) (k1:P.underlying f1.type=some .string) (k2:P.underlying f2.type=some .bool) (k3:P.underlying f3.type=some (.int .i64))
  (o0:f0.offset=0) (o1:f1.offset=1) (o2:f2.offset=2) (o3:f3.offset=3) (c0:P.cellsOf f0.type=1) (c1:P.cellsOf f1.type=1) (c2:P.cellsOf f2.type=1) (c3:P.cellsOf f3.type=1)
  (hd:DataW.trod enc P w base spare held n t cs=some y):∃ r:RecM,cs=encR r∧True:=by
 obtain ⟨hl,n',hf⟩:=trod_fields ht hd hC
 match cs,hl with
 | [v0,v1,v2,v3],_ =>
  obtain ⟨y0,h0⟩:=hf 0 f0 rfl
  obtain ⟨y1,h1⟩:=hf 1 f1 rfl
  obtain ⟨y2,h2⟩:=hf 2 f2 rfl
  obtain ⟨y3,h3⟩:=hf 3 f3 rfl
  rw [o0,c0] at h0
  rw [o1,c1] at h1
  rw [o2,c2] at h2
  rw [o3,c3] at h3
  obtain ⟨s0,q0,-,-⟩:=DataW.trod_string k0 h0
  obtain ⟨s1,q1,-,-⟩:=DataW.trod_string k1 h1
  obtain ⟨b2,q2,-⟩:=DataW.trod_bool k2 h2
  obtain ⟨n3,q3,-,-⟩:=DataW.trod_int k3 h3
  simp at q0 q1 q2 q3
  subst q0 q1 q2 q3
  exact ⟨⟨s0,s1,b2,n3⟩,rfl,trivial⟩
theorem read_b7 {t tr:TypeId} {b0 b1 b2 b3 b4 b5 b6:Field} {n:Nat} {cs:List Value} {y:DataW H × List MemPlace} (ht:P.underlying t=some (.struct #[b0,b1,b2,b3,b4,b5,b6])) (hC:P.cellsOf t=7)
  (hone:oneCellFields P #[b0,b1,b2,b3,b4,b5,b6]=true) (l0:P.underlying b0.type=some (.int .i64)) (l1:P.underlying b1.type=some (.int .i64)) (l2:P.underlying b2.type=some (.int .i64)) (l3:P.underlying b3.type=some (.int .i64)) (l4:P.underlying b4.type=some (.int .i64)) (l5:P.underlying b5.type=some (.int .i64))
  (l6:P.underlying b6.type=some (.slice tr)) (hR:P.cellsOf tr=4) (hrec:∀ (n:Nat) (cs:List Value) (y:DataW H × List MemPlace),cs.length=4→DataW.trod enc P w base spare held n tr cs=some y→∃ r:RecM,cs=encR r∧True)
  (hd:DataW.trod enc P w base spare held n t cs=some y):∃ b:BatM,cs=encB7 b∧Rd w 4 b.x (b.rs.flatMap encR)∧(-9223372036854775808≤b.base∧b.base<9223372036854775808):=by
 obtain ⟨hl,m,hg⟩:=trod_fields ht hd hC
 match cs,hl with
 | [v1,v2,v3,v4,v5,v6,v7],_ =>
  have one:∀ (j:Nat) (f:Field) (u:Value),#[b0,b1,b2,b3,b4,b5,b6][j]? = some f→[v1,v2,v3,v4,v5,v6,v7][j]? = some u→∃ y,DataW.trod enc P w base spare held m f.type [u]=some y:=fun j f u hj hu=>by
   obtain ⟨ho,hk⟩:=hone_of hone j f hj
   obtain ⟨y,h1⟩:=hg j f hj
   rw [ho,hk] at h1
   obtain ⟨hjl,rfl⟩:=List.getElem?_eq_some_iff.1 hu
   have hone':([v1,v2,v3,v4,v5,v6,v7].drop j).take 1=[[v1,v2,v3,v4,v5,v6,v7][j]]:=by
    rw [List.drop_eq_getElem_cons hjl];rfl
   rw [hone'] at h1
   exact ⟨y,h1⟩
  obtain ⟨z0,e0⟩:=one 0 b0 v1 rfl rfl
  obtain ⟨z1,e1⟩:=one 1 b1 v2 rfl rfl
  obtain ⟨z2,e2⟩:=one 2 b2 v3 rfl rfl
  obtain ⟨z3,e3⟩:=one 3 b3 v4 rfl rfl
  obtain ⟨z4,e4⟩:=one 4 b4 v5 rfl rfl
  obtain ⟨z5,e5⟩:=one 5 b5 v6 rfl rfl
  obtain ⟨z6,e6⟩:=one 6 b6 v7 rfl rfl
  obtain ⟨m0,p0,-,w0⟩:=DataW.trod_int l0 e0
  obtain ⟨m1,p1,-,-⟩:=DataW.trod_int l1 e1
  obtain ⟨m2,p2,-,-⟩:=DataW.trod_int l2 e2
  obtain ⟨m3,p3,-,-⟩:=DataW.trod_int l3 e3
  obtain ⟨m4,p4,-,-⟩:=DataW.trod_int l4 e4
  obtain ⟨m5,p5,-,-⟩:=DataW.trod_int l5 e5
  obtain ⟨x,rs,p6,-,-,-,-,hrd⟩:=trod_rows l6 hR (by decide) hrec e6
  simp at p0 p1 p2 p3 p4 p5
  subst p0 p1 p2 p3 p4 p5 p6
  exact ⟨⟨m0,m1,m2,m3,m4,m5,x,rs⟩,rfl,hrd,wf64 w0⟩
theorem trod_of {t e:TypeId} {r:Reach} {b0:Nat} {v:Value} {d:DataW H} {ps:List MemPlace} (ht:P.underlying t=some (.slice e)) (hval:Value.okWide P w r b0 t v) (hd:DataW.Trod enc P w base spare held t v d ps):∃ (fuel:Nat) (y:DataW H × List MemPlace),DataW.trod enc P w base spare held fuel t [v]=some y:=by
 obtain ⟨a0,len0,cap0,rfl⟩:=okWide_slice ht hval
 obtain ⟨fuel,hf⟩:=hd
 exact ⟨fuel,_,hf⟩
theorem foc_whole {W:World} {sz:Nat} {x:Sl} {cs:List Value} (h:Rd W sz x cs):FocR [whole W] x sz cs:=⟨fun w hs=>rd_keep hs.of_whole.1 h⟩
end
end Go.Dec
