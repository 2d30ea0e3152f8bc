/- What the claim of this folder leans on: our own texts, joined, without what it does not use. -/
import Derived.Test.YtfnldnodhfkojaaGreatRows
import Derived.WalkKit
import Derived.ProofKit
import Derived.OpenShut
import Derived.RowKit3
import Derived.OrdersHeld
import Derived.Scope
import Derived.KernelRfl
import Derived.Laws.Sem
import Derived.Laws.StructEq
import Derived.Deep.AppendSrc
import Derived.Laws.BytesArg
import Derived.Laws.RangeString
import Derived.Maps.RangeRun
import Derived.Lib.ConvBytes
import Derived.Lib.SlBytesConst
import Derived.ChangeSlices
import Derived.ChangeMaps5
import Derived.ChangeSame
import Derived.Deep.Slices
import Derived.Deep.Fields
import Derived.Test.YtfnldnodhfkojaaGreatProg
import Derived.Laws.MakeOwn
import Derived.Sort.MapsRangeIn
import Derived.Sort.KeysCollected
import Derived.RangeFuncNested
import Derived.RangeFuncBound
import Derived.RangeFuncCalls
import Derived.RangeFuncLeaves
import Derived.RangeFuncBox
import Derived.OwnWalkIn
import Derived.TacticsInMore
import Derived.RegionIn
import Derived.LoopNIn
import Derived.LoopIn
import Derived.Maps.AppendAt
import Derived.Shelf.Abstract
import Derived.Test.YtfnldnodhfkojaaGreatQApart1
import Derived.Test.YtfnldnodhfkojaaGreatQApart2
import Derived.Test.YtfnldnodhfkojaaGreatQApart3
import Derived.Test.YtfnldnodhfkojaaGreatQApart4
import Derived.Test.YtfnldnodhfkojaaGreatQApart5
import Derived.Test.YtfnldnodhfkojaaGreatQApart6
namespace Go.Dec
set_option linter.unusedVariables false
set_option linter.unusedSimpArgs false
def smallT (t:ByteArray):ByteArray:=if t.size>30 then t.extract 0 30 else t
def smallR (r:RecM):RecM:=⟨smallT r.key,smallT r.value,r.gone,r.time⟩
def smallB (b:BatM):BatM:=⟨b.base,b.pid,b.epoch,b.seq,b.kind,b.time,noSl,(b.rs.take 6).map smallR⟩
theorem smallT_size (t:ByteArray):(smallT t).size≤30:=by
 unfold smallT
 split
 ·rw [ByteArray.size_extract];omega
 ·omega
theorem small_len (b:BatM) (n:Int) (z:Sl):2≤(batL (((smallB b).at z).to n)).length∧(batL (((smallB b).at z).to n)).length≤668:=by
 have h:=batL_le (b:=((smallB b).at z).to n) (n:=60) fun r hr=>by
  obtain ⟨q,-,rfl⟩:=List.mem_map.1 (show r ∈ (b.rs.take 6).map smallR from hr)
  have h1:=smallT_size q.key
  have h2:=smallT_size q.value
  show (smallT q.key).size+(smallT q.value).size≤60
  omega
 have h3:(((smallB b).at z).to n).rs.length≤6:=by
  show ((b.rs.take 6).map smallR).length≤6
  rw [List.length_map,List.length_take];omega
 omega
abbrev cZ (b:BatM) (z:Sl):Array Value:=#[.int .i64 b.base,.int .i64 b.pid,.int .i64 b.epoch,.int .i64 b.seq,.int .i64 b.kind,.int .i64 b.time,.slice z.a z.len z.cap]
section
variable {w:World} {l r:List HP}
theorem config_c (seg gap:Int) (hs:Sat w l):Ret P F.towpathlaw06_config #[.int .i64 seg,.int .i64 gap] w fun vs w'=>∃ s g:Int,(64≤s∧s≤463)∧(1≤g∧g≤100)∧vs=[.agg #[.int .i64 s,.int .i64 g]]∧Sat w' l :=
 towpathlaw06_config_calls seg gap <| by
  unfold towpathlaw06_config
  have hm1 : -400<Int.tmod seg 400∧Int.tmod seg 400<400:=⟨by have:=Int.lt_tmod_of_pos seg (b:=400) (by omega);omega,Int.tmod_lt_of_pos seg (by omega)⟩
  have hm2 : -100<Int.tmod gap 100∧Int.tmod gap 100<100:=⟨by have:=Int.lt_tmod_of_pos gap (b:=100) (by omega);omega,Int.tmod_lt_of_pos gap (by omega)⟩
  generalize Int.tmod seg 400=s at *
  generalize Int.tmod gap 100=g at *
  refine wp_newO hs fun a0 w' hs=>?_
  refine wp_lt ?_
  refine wp_lt ?_
  refine wp_mid (fun q w'=>∃ s:Int,(0≤s∧s<400)∧q=(s,())∧Sat w' (pt a0 (.cells [.int .i64 0,.int .i64 0].toArray T.seglog_Config)::l)) ?_ ?_
  ·refine wp_if (fun h=>?_) fun h=>?_
   ·rw [w64 (by omega) (by omega)]
    refine wp_lt ?_
    exact wp_lv ⟨0-s,by omega,rfl,hs⟩
   ·exact wp_lv ⟨s,by omega,rfl,hs⟩
  clear hs
  rintro _ w ⟨s,hm1,rfl,hs⟩
  refine wp_on ?_
  refine wp_mid (fun q w'=>∃ g:Int,(0≤g∧g<100)∧q=(g,())∧Sat w' (pt a0 (.cells [.int .i64 0,.int .i64 0].toArray T.seglog_Config)::l)) ?_ ?_
  ·refine wp_if (fun h=>?_) fun h=>?_
   ·rw [w64 (by omega) (by omega)]
    refine wp_lt ?_
    exact wp_lv ⟨0-g,by omega,rfl,hs⟩
   ·exact wp_lv ⟨g,by omega,rfl,hs⟩
  clear hs
  rintro _ w ⟨g,hm2,rfl,hs⟩
  refine wp_on ?_
  rw [w64 (by omega) (by omega),w64 (by omega) (by omega)]
  refine wp_stG hs fun w' hs=>?_
  refine wp_ldG hs ?_
  exact ⟨rfl,64+s,1+g,by omega,by omega,rfl,hs.tail⟩
theorem small_c (b:BatM) [hb:FocR l b.x 4 (b.rs.flatMap encR)] (hs:Sat w l):Ret P F.towpathlaw06_Small #[.agg (encB7 b).toArray] w fun vs w'=>∃ z:Sl,vs=[.agg (encB7 ((smallB b).at z)).toArray]∧Sat w' (slc T.api_Record 4 z ((smallB b).rs.flatMap encR)::l) :=
 towpathlaw06_Small_calls b.base b.pid b.epoch b.seq b.kind b.time b.x <| by
  unfold towpathlaw06_Small
  have hl:=hs.slen b.x (xs:=b.rs) (enc:=encR)
  refine wp_boxO hs fun a0 w' hs=>?_
  refine wp_newO hs fun a1 w' hs=>?_
  refine wp_ldG hs ?_
  refine wp_newO hs fun a9 w' hs=>?_
  refine wp_stG hs fun w' hs=>?_
  refine wp_stO hs fun w' hs=>?_
  refine wp_ldO hs ?_
  have hs:Sat w' (slc T.api_Record 4 ⟨none,0,0⟩ (([]:List RecM).flatMap encR)::pt a9 (.cells (cZ b ⟨none,0,0⟩) T.api_Batch)::pt a1 (.cells #[.int .i64 0,.int .i64 0,.int .i64 0,.int .i64 0,.int .i64 0,.int .i64 0,.slice none 0 0] T.api_Batch)::l):=by
   have h1:Sat w' (pt a9 (.cells (cZ b ⟨none,0,0⟩) T.api_Batch)::pt a1 (.cells #[.int .i64 0,.int .i64 0,.int .i64 0,.int .i64 0,.int .i64 0,.int .i64 0,.slice none 0 0] T.api_Batch)::l):=hs.sub
   exact h1.slc_nil
  refine wp_mid (fun _ w'=>∃ z:Sl,Sat w' (slc T.api_Record 4 z ((smallB b).rs.flatMap encR)::pt a9 (.cells (cZ b z) T.api_Batch)::pt a1 (.cells #[.int .i64 0,.int .i64 0,.int .i64 0,.int .i64 0,.int .i64 0,.int .i64 0,.slice none 0 0] T.api_Batch)::l)) ?_ ?_
  rotate_left
  ·rintro _ w2 ⟨z,hs⟩
   refine wp_on ?_
   refine wp_ldG hs ?_
   refine wp_stG hs fun w' hs=>?_
   refine wp_ldG hs ?_
   exact ⟨rfl,z,rfl,hs.sub⟩
  refine wp_loop (fun m v w=>∃ (i:Nat) (z:Sl),v=((i:Int),())∧i≤b.rs.length∧i≤6∧b.rs.length-i=m∧Sat w (slc T.api_Record 4 z (((b.rs.take i).map smallR).flatMap encR)::pt a9 (.cells (cZ b z) T.api_Batch)::pt a1 (.cells #[.int .i64 0,.int .i64 0,.int .i64 0,.int .i64 0,.int .i64 0,.int .i64 0,.slice none 0 0] T.api_Batch)::l)) b.rs.length ⟨0,⟨none,0,0⟩,rfl,by omega,by omega,rfl,hs⟩ ?_
  clear hs
  rintro m _ w ⟨i,z,rfl,hi,hi6,hm,hs⟩
  refine wp_on ?_
  refine wp_if (fun hc=>?_) fun hc=>?_
  rotate_left
  ·refine wp_pass (wp_lv ⟨z,?_⟩)
   have e:b.rs.take i=b.rs.take 6:=by rw [List.take_of_length_le (by omega),List.take_of_length_le (by omega)]
   rw [e] at hs
   exact hs
  have hil:i<b.rs.length:=by omega
  refine wp_ixA hs (xs:=b.rs) (enc:=encR) i hil ?_
  refine wp_newO hs fun a18 w' hs=>?_
  refine wp_lt ?_
  refine wp_stG hs fun w' hs=>?_
  refine wp_if (fun h6=>?_) fun h6=>?_
  ·have:i=6:=by omega
   subst this
   exact wp_pass (wp_lv ⟨z,hs.tail⟩)
  have hx:(b.rs.take (i+1)).map smallR=(b.rs.take i).map smallR++[smallR b.rs[i]]:=by rw [List.take_succ_eq_append_getElem hil,List.map_append];rfl
  generalize b.rs[i]=q at hx hs ⊢
  refine wp_ldO hs ?_
  refine wp_mid (fun _ w'=>Sat w' (pt a18 (.cells #[.string (smallT q.key),.string q.value,.bool q.gone,.int .i64 q.time] T.api_Record)::slc T.api_Record 4 z (((b.rs.take i).map smallR).flatMap encR)::pt a9 (.cells (cZ b z) T.api_Batch)::pt a1 (.cells #[.int .i64 0,.int .i64 0,.int .i64 0,.int .i64 0,.int .i64 0,.int .i64 0,.slice none 0 0] T.api_Batch)::l)) ?_ ?_
  ·unfold smallT
   refine wp_if (fun h=>?_) fun h=>?_
   ·refine wp_ldO hs ?_
    refine wp_must (by omega) ?_
    refine wp_stO hs fun w' hs=>?_
    refine wp_lv ?_
    rw [if_pos (by omega)]
    exact hs
   ·refine wp_lv ?_
    rw [if_neg (by omega)]
    exact hs
  clear hs
  rintro _ w hs
  refine wp_on ?_
  refine wp_ldO hs ?_
  refine wp_mid (fun _ w'=>Sat w' (pt a18 (.cells #[.string (smallT q.key),.string (smallT q.value),.bool q.gone,.int .i64 q.time] T.api_Record)::slc T.api_Record 4 z (((b.rs.take i).map smallR).flatMap encR)::pt a9 (.cells (cZ b z) T.api_Batch)::pt a1 (.cells #[.int .i64 0,.int .i64 0,.int .i64 0,.int .i64 0,.int .i64 0,.int .i64 0,.slice none 0 0] T.api_Batch)::l)) ?_ ?_
  ·generalize smallT q.key=k0 at hs ⊢
   unfold smallT
   refine wp_if (fun h=>?_) fun h=>?_
   ·refine wp_ldO hs ?_
    refine wp_must (by omega) ?_
    refine wp_stO hs fun w' hs=>?_
    refine wp_lv ?_
    rw [if_pos (by omega)]
    exact hs
   ·refine wp_lv ?_
    rw [if_neg (by omega)]
    exact hs
  clear hs
  rintro _ w hs
  refine wp_on ?_
  refine wp_ldO hs ?_
  refine wp_ldG hs ?_
  refine wp_slit1 hs (enc:=encR) (smallR q) fun y w' hs=>?_
  refine wp_app' (xs:=(b.rs.take i).map smallR) (ys:=[smallR q]) (enc:=encR) hs (fun z' w' hs=>?_) (by simp only [List.length_map,List.length_take,List.length_cons,List.length_nil];omega)
  refine wp_stO hs fun w' hs=>?_
  rw [show IntKind.wrap .i64 ((i:Int)+1)=((i+1:Nat):Int) by rw [w64 (by omega) (by omega)];omega]
  refine wp_lp (b.rs.length-(i+1)) ⟨i+1,z',rfl,by omega,by omega,rfl,?_⟩
  rw [hx]
  have hs:Sat w' (pt a9 (.cells (cZ b z') T.api_Batch)::slc T.api_Record 4 z' (((b.rs.take i).map smallR++[smallR q]).flatMap encR)::slc T.api_Record 4 y _::pt a18 _::pt a1 (.cells #[.int .i64 0,.int .i64 0,.int .i64 0,.int .i64 0,.int .i64 0,.int .i64 0,.slice none 0 0] T.api_Batch)::l):=hs
  exact hs.sub
end
set_option linter.unusedVariables false
set_option linter.unusedSimpArgs false
theorem sum_names {nm:SegA→ByteArray}:∀ {fs:List FileA} {l:List SegA},fs.map (·.name)=l.map nm→(∀ f ∈ fs,∀ s ∈ l,f.name=nm s→f.b=s.file)→used fs=sumF l
 | [],[],_,_=>rfl
 | [],s::l,h,_=>by simp at h
 | f::fs,[],h,_=>by simp at h
 | f::fs,s::l,h,hh=>by
  rw [List.map_cons,List.map_cons,List.cons.injEq] at h
  have h1:=hh f (List.mem_cons_self ..) s (List.mem_cons_self ..) h.1
  have h2:=sum_names h.2 fun f hf s hs=>hh f (List.mem_cons_of_mem _ hf) s (List.mem_cons_of_mem _ hs)
  rw [used_cons,h2,h1]
  simp [sumF]
theorem Cpl.sizes {pre:ByteArray} {l:List SegA} {D:DiskA} (h:Cpl pre l D):l.length≤D.fs.length∧sumF l≤used D.fs:=by
 have hn:=h.names
 have e:(D.fs.filter fun f=>(bl (dashN pre)).isPrefixOf (bl f.name)).map (·.name)=l.map fun s=>nameS pre s.base logX:=by
  rw [← hn]
  unfold namesF
  rw [List.filter_map]
  congr 1
  apply List.filter_congr
  intro f _
  show _=Go.Proofs.YtfnldnodhfkojaaGreat.preF (dashN pre) f.name
  rw [preF_bl]
 have hs:=sum_names e fun f hf s hs hfs=>by
  have h1:=fileD_mem (names_nodup h.ok.sorted) (List.mem_filter.1 hf).1
  obtain ⟨k,hk⟩:=h.has s hs
  rw [hfs,hk] at h1
  simp only [Option.some.injEq,Prod.mk.injEq] at h1
  exact h1.1.symm
 have hl:=congrArg List.length e
 rw [List.length_map,List.length_map] at hl
 exact ⟨by rw [← hl];exact List.length_filter_le _ _,by rw [← hs];exact used_sub List.filter_sublist⟩
theorem sumF_bs:∀ {n:Int} {l:List SegA},SegsOk n l→(allB l).length*10≤sumF l
 | _,[],_=>Nat.le_refl _
 | n,s::l,⟨h1,h2,h3⟩=>by
  have h4:=sumF_bs h3
  have h5:=file_bs h2
  have e1:allB (s::l)=s.bs++allB l:=by simp [allB]
  have e2:sumF (s::l)=s.file.length+sumF l:=by simp [sumF]
  rw [e1,e2,List.length_append]
  omega
theorem Cpl.len {pre:ByteArray} {l:List SegA} {D:DiskA} (h:Cpl pre l D):l.length≤128∧(allB l).length≤500000∧∀ s ∈ l,s.file.length≤4194304:=by
 obtain ⟨h1,h2⟩:=h.sizes
 have h3:=sumF_bs h.segs
 have h4:=h.ok.many
 have h5:=h.ok.used
 refine ⟨by omega,by omega,fun s hs=>?_⟩
 obtain ⟨k,hk⟩:=h.has s hs
 exact Nat.le_trans (used_file hk) h5
theorem okR_of {pre:ByteArray} {D:DiskA} {R:RefM} {L:List HP} (h:Cpl pre R.l D) (hrd:∀ b ∈ R.bs,FocR L b.x 4 (b.rs.flatMap encR)):okR R L:=by
 obtain ⟨h1,h2,-⟩:=h.len
 refine ⟨h.segs,hrd,?_,?_⟩
 ·rw [R_l_len] at h1;omega
 ·rw [allB_l,List.length_map] at h2;omega
theorem place_small (b:BatM) (z:Sl) (n:Int):((placeL n [(smallB b).at z]).2.flatMap frL).length≤676:=by
 unfold placeL
 split
 ·exact Nat.zero_le _
 ·rename_i hv
  have hv:=Decidable.not_not.1 hv
  split
  ·exact Nat.zero_le _
  ·show ((((smallB b).at z).to n)::(placeL _ []).2 |>.flatMap frL).length≤676
   have h1:=small_len b n z
   have h2:=frL_len hv
   simp only [placeL,List.flatMap_cons,List.flatMap_nil,List.append_nil]
   omega
theorem sum_rapp {seg:Int} {l:List SegA} {bs:List BatM}:sumF (rappA seg l bs).2≤sumF l+((placeL (nextL l) bs).2.flatMap frL).length+29:=by
 unfold rappA
 split
 ·simp only;omega
 split
 ·simp only;omega
 simp only
 split
 ·rename_i hr
  have hne:l≠[]:=by rintro rfl;cases hr
  obtain ⟨l0,s,rfl⟩:=snoc_of hne
  rw [addLast_snoc,sumF_snoc,sumF_snoc,file_add,List.length_append]
  omega
 ·have:=shL_len (nextL l) 0
  rw [sumF_snoc,shL_file,List.length_append]
  omega
theorem rapp_small (seg:Int) (l:List SegA) (b:BatM) (z1 z2:Sl):rappA seg l [(smallB b).at z1]=rappA seg l [(smallB b).at z2]:=by
 rw [← rapp_p,← rapp_p seg l [(smallB b).at z2]]
 rfl
theorem lapp_small {pre:ByteArray} (seg:Int) {l:List SegA} {D:DiskA} (b:BatM) (z:Sl) (hp:preS pre=true) (h:Cpl pre l D) (hc:Calm D) (hf:705≤D.free) (hl:D.fs.length<128) :
  (lappA pre seg l D [(smallB b).at z]).1=(rappA seg l [(smallB b).at z]).1∧(lappA pre seg l D [(smallB b).at z]).2.1=(rappA seg l [(smallB b).at z]).2 ∧
  used (lappA pre seg l D [(smallB b).at z]).2.2.fs≤used D.fs+705∧(lappA pre seg l D [(smallB b).at z]).2.2.fs.length≤D.fs.length+1:=by
 have h1:=place_small b z (nextL l)
 have h2:=shL_len (nextL l) 0
 have h3:=lapp_stp seg [(smallB b).at z] hp h
 have h4:=sum_rapp (seg:=seg) (l:=l) (bs:=[(smallB b).at z])
 rcases lapp_full seg [(smallB b).at z] hp h hc with ⟨e1,e2⟩|⟨-,-,-,-,h5|h5⟩
 ·refine ⟨e1,e2,?_,?_⟩
  ·have:=h3.2.2.1
   rw [e2] at this
   omega
  ·unfold lappA
   split
   ·simp only;omega
   split
   ·simp only;omega
   split
   ·split <;> exact append_len.1
   ·obtain ⟨-,-,-,s4,-⟩:=lsync_all h
    split
    ·simp only;omega
    split
    ·simp only
     have:=(append_len (A:=(lsyncA pre l D).2) (n:=nameS pre (nextL l) logX) (bs:=shL (nextL l) 0++(placeL (nextL l) [(smallB b).at z]).2.flatMap frL)).1
     omega
    ·simp only
     have:=(append_len (A:=(lsyncA pre l D).2) (n:=nameS pre (nextL l) logX) (bs:=shL (nextL l) 0++(placeL (nextL l) [(smallB b).at z]).2.flatMap frL)).1
     omega
 ·omega
 ·omega
set_option linter.unusedVariables false
set_option linter.unusedSimpArgs false
section
variable {w:World} {l r:List HP} {lg rr:Nat} {R:RefM} {A:LogA} {D:DiskA}
theorem same_c {r1 r2:List HP} [hf:Fo l lgP lg A r1] [hf2:Fo r1 dk A.d D r2] [hf3:Fo r2 rfP rr R r] [hok:okR R r] (heq:A.l=R.l) (hhas:HasL A.pre A.l D) (hs:Sat w l) :
  Ret P F.towpathlaw06_same #[.pointer (some ⟨lg,0,none⟩),.pointer (some ⟨rr,0,none⟩)] w fun vs w'=>vs=[.bool true]∧Sat w' (lgP lg A::dk A.d D::rfP rr R::r) :=
 towpathlaw06_same_calls _ _ <| by
  unfold towpathlaw06_same
  have hs:=hs.perm (hf.perm.trans (.cons _ (hf2.perm.trans (.cons _ hf3.perm))))
  clear hf hf2 hf3
  have hsegs:=hok.segs
  rw [← heq] at hsegs
  have hlen:A.l.length≤1000000:=by rw [heq,R_l_len];exact hok.len
  have hall:(allB A.l).length≤1000000:=by rw [heq,allB_l,List.length_map];exact hok.all
  have hnx:=hsegs.next (Int.le_refl 0)
  refine wp_mid (fun q w'=>q=(false,())∧Sat w' (lgP lg A::dk A.d D::rfP rr R::r)) ?_ ?_
  ·refine wp_ifF ?_ (by simp)
   obtain ⟨M,hM,hs⟩:=lgP_open hs
   have hMl:M.l=A.l:=congrArg LogA.l hM
   have hll:M.l.length=M.SM.length:=List.length_map ..
   refine wp_call (first_c (lg:=lg) hs) fun _ w' hs=>?_
   obtain ⟨rfl,hs⟩:=hs
   refine ret_of ?_
   refine wp_call (rfirst_c (a:=rr) hs) fun _ w' hs=>?_
   obtain ⟨rfl,hs⟩:=hs
   refine ret_of ?_
   refine wp_ifF ?_ (by rw [hMl,heq];simp)
   refine wp_call (lnext_c (lg:=lg) (by rw [← hll,hMl];omega) hs) fun _ w' hs=>?_
   obtain ⟨rfl,hs⟩:=hs
   refine ret_of ?_
   refine wp_call (rnext_c (a:=rr) hs) fun _ w' hs=>?_
   obtain ⟨rfl,hs⟩:=hs
   refine ret_of ?_
   refine wp_ifF ?_ (by rw [hMl,heq];simp)
   have hs:Sat w' (lgQ lg M::dk A.d D::rfP rr R::r):=hs.sub
   have hs:=lgP_close M hs
   rw [hM] at hs
   refine wp_call (lall_c (lg:=lg) (A:=A) (D:=D) hsegs hhas hlen hall hs) fun _ w' hs=>?_
   obtain ⟨z,outs,rfl,hmap,hs⟩:=hs
   refine ret_of ?_
   refine wp_call (rall_c (a:=rr) hs) fun _ w' hs=>?_
   obtain ⟨y,rfl,hs⟩:=hs
   refine ret_of ?_
   have hs:Sat w' (batsP outs::slc T.api_Batch 7 y (R.bs.flatMap encB7)::slc T.api_Batch 7 z (outs.flatMap encB7)::lgP lg A::dk A.d D::rfP rr R::r):=hs.sub
   have hmp:outs.map BatM.p=R.bs.map BatM.p:=by rw [hmap,heq,allB_l]
   have hol:outs.length≤1000000:=by
    have:=congrArg List.length hmp
    simp only [List.length_map] at this
    rw [this];exact hok.all
   have hvo:∀ b ∈ outs,validB b=0:=fun b hb=>by
    have h1:b.p ∈ allB A.l:=by rw [← hmap];exact List.mem_map.2 ⟨b,hb,rfl⟩
    obtain ⟨s,hs,hbs⟩:=List.mem_flatMap.1 h1
    exact ((hsegs.mem s hs).1.bs.valid _ hbs).1
   refine wp_call (dsameall_c z y outs R.bs hmp inferInstance inferInstance (fun b hb=>bats_rd hb) (fun b hb=>by have:=hok.rd b hb;infer_instance) (by omega) (fun b hb=>by have:=(valid_recs (hvo b hb)).1;omega) hs) fun _ w' hs=>?_
   obtain ⟨rfl,hs⟩:=hs
   refine ret_of ?_
   exact wp_lv ⟨rfl,hs.sub⟩
  rintro _ w2 ⟨rfl,hs⟩
  refine wp_ifF ?_ (by simp)
  obtain ⟨M,hM,hs⟩:=lgP_open hs
  have hMl:M.l=A.l:=congrArg LogA.l hM
  have hll:M.l.length=M.SM.length:=List.length_map ..
  refine wp_call (segments_c (lg:=lg) (by rw [← hll,hMl];omega) hs) fun _ w' hs=>?_
  obtain ⟨z,rfl,hs⟩:=hs
  refine ret_of ?_
  obtain ⟨u,hs⟩:=rf_open (hs.pick [3])
  have hls:=hs.slen z (xs:=M.l.map SegA.base) (enc:=encI)
  have hlu:=hs.slen u (xs:=R.SR) (enc:=encSR)
  have hlR:R.l.length=R.SR.length:=R_l_len
  rw [List.length_map,hMl,heq,hlR] at hls
  refine wp_nn ?_
  refine wp_ldO hs ?_
  refine wp_ifF ?_ (by omega)
  have hfin:∀ {w:World},Sat w (pt rr (.cells #[.int .i64 R.seg,.int .i64 R.gap,.slice u.a u.len u.cap] T.towpathref06_Log)::slc T.towpathref06_Segment 3 u (R.SR.flatMap encSR)::HP.all (R.SR.map rsgP)::slc T.int64 1 z ((M.l.map SegA.base).flatMap encI)::lgQ lg M::dk A.d D::r)→Sat w (lgP lg A::dk A.d D::rfP rr R::r):=fun hs=>by
   have hs:=rf_close R hs
   have hs:Sat _ (lgQ lg M::dk A.d D::rfP rr R::r):=hs.sub
   have hs:=lgP_close M hs
   rw [hM] at hs
   exact hs
  refine wp_mid (fun _ w'=>Sat w' (lgP lg A::dk A.d D::rfP rr R::r)) ?_ ?_
  rotate_left
  ·rintro _ w3 hs
   exact ⟨rfl,rfl,hs⟩
  refine wp_loop (fun m v w=>∃ i:Nat,v=((i:Int),())∧i≤R.SR.length∧R.SR.length-i=m∧Sat w (pt rr (.cells #[.int .i64 R.seg,.int .i64 R.gap,.slice u.a u.len u.cap] T.towpathref06_Log)::slc T.towpathref06_Segment 3 u (R.SR.flatMap encSR)::HP.all (R.SR.map rsgP)::slc T.int64 1 z ((M.l.map SegA.base).flatMap encI)::lgQ lg M::dk A.d D::r)) R.SR.length ⟨0,rfl,by omega,rfl,hs⟩ ?_
  clear hs
  rintro m _ w ⟨i,rfl,hi,hm,hs⟩
  refine wp_on ?_
  refine wp_if (fun hcc=>?_) fun hcc=>?_
  rotate_left
  ·exact wp_pass (wp_lv (hfin hs))
  have hln:=hok.len
  have hil:i<R.SR.length:=by omega
  have hil2:i<(M.l.map SegA.base).length:=by rw [List.length_map,hMl,heq,hlR];exact hil
  have hbase:(M.l.map SegA.base)[i]=R.SR[i].base:=by
   have e:M.l=R.l:=hMl.trans heq
   simp only [e,RefM.l,List.map_map,List.getElem_map]
   rfl
  refine wp_lt ?_
  refine wp_tk hs fun w' hs=>?_
  refine wp_ix1 hs (xs:=M.l.map SegA.base) (enc:=encI) i hil2 ?_
  refine wp_nn ?_
  refine wp_ldO hs ?_
  refine wp_ixF hs (xs:=R.SR) (enc:=encSR) i hil ?_
  refine wp_untick ?_
  refine wp_ifF ?_ (by rw [hbase];simp)
  rw [show IntKind.wrap .i64 ((i:Int)+1)=((i+1:Nat):Int) by rw [w64 (by omega) (by omega)];omega]
  exact wp_lp (R.SR.length-(i+1)) ⟨i+1,rfl,by omega,rfl,hs⟩
end
set_option linter.unusedVariables false
set_option linter.unusedSimpArgs false
section
variable {w:World} {l r:List HP} {lg d:Nat} {D:DiskA} {A:LogA}
theorem one_c (k v:ByteArray) (hs:Sat w l):Ret P F.towpathlaw06_one #[.string k,.string v] w fun vs w'=>∃ x:Sl,vs=[.agg (encB7 (oneB k v x)).toArray]∧Sat w' (slc T.api_Record 4 x ((oneB k v x).rs.flatMap encR)::l) :=
 towpathlaw06_one_calls k v <| by
  unfold towpathlaw06_one
  refine wp_newO hs fun a0 w' hs=>?_
  refine wp_lits hs (enc:=encR) [(⟨k,v,false,0⟩:RecM)] fun x w' hs=>?_
  refine wp_stG hs fun w' hs=>?_
  refine wp_ldG hs ?_
  refine ⟨rfl,x,rfl,?_⟩
  have hs:Sat w' (pt a0 _::slc T.api_Record 4 x ((oneB k v x).rs.flatMap encR)::l):=hs
  exact hs.tail
theorem app1_c (b:BatM) (x:Sl) {r1:List HP} [hf:Fo l lgP lg A r1] [hf2:Fo r1 dk A.d D r] (hlen:A.l.length≤1000000) (hok:SegsOk 0 A.l) (hfl:∀ s ∈ A.l,s.file.length≤500000000)
  (hx:FocR r x 7 ([b].flatMap encB7)) (hb:FocR r b.x 4 (b.rs.flatMap encR)) (hs:Sat w l) :
  Ret P F.seglog_Log_Append #[.pointer (some ⟨lg,0,none⟩),x.v] w fun vs w'=>vs=[.int .i64 (lappA A.pre A.seg A.l D [b]).1.1,.int .i64 (lappA A.pre A.seg A.l D [b]).1.2] ∧
   Sat w' (lgP lg (A.set (lappA A.pre A.seg A.l D [b]).2.1)::dk A.d (lappA A.pre A.seg A.l D [b]).2.2::r) :=
 lappend_c x [b] hlen hok hfl (by show 1≤900;omega) hx (fun c hc=>by
  simp only [List.mem_cons,List.not_mem_nil,or_false] at hc
  subst hc
  exact hb) hs
theorem files_le {l:List SegA} {n:Nat} {ns:List Nat} (h:l.map (fun s=>s.file.length)=ns) (hn:∀ x ∈ ns,x≤n):∀ s ∈ l,s.file.length≤n:=fun s hs=>hn _ (by rw [← h];exact List.mem_map.2 ⟨s,hs,rfl⟩)
set_option maxHeartbeats 1000000 in
theorem awake6_c (hs:Sat w l):Ret P F.towpathlaw06_awake #[] w fun vs w'=>vs=[.bool true]∧Sat w' l :=
 towpathlaw06_awake_calls <| by
  unfold towpathlaw06_awake
  refine wp_call (new_ok 1000 (by omega) hs) fun _ w' hs=>?_
  obtain ⟨d,rfl,hs⟩:=hs
  refine ⟨(some ⟨d,0,none⟩,0,()),rfl,trivial,wp_u2 _ _ ?_⟩
  refine wp_lt ?_
  have hs:Sat w' (dk d aD0::l):=hs
  refine wp_call (lopen_c (d:=d) (D:=aD0) aP 64 1 (by kernel_rfl) ⟨by decide,by decide⟩ rfl hs) fun _ w' hs=>?_
  rw [aw_open] at hs
  rcases hs with ⟨he,-,-⟩|⟨-,lg,rfl,hs⟩
  ·exact absurd rfl he
  refine ⟨(some ⟨lg,0,none⟩,0,()),rfl,trivial,wp_u2 _ _ ?_⟩
  refine wp_lt ?_
  refine wp_ifF ?_ (by simp)
  have hs:Sat w' (lgP lg ⟨d,aP,64,1,[]⟩::dk d aD0::l):=hs
  have step:∀ {w:World} {L:List SegA} {DD:DiskA} {X:List HP} (y x:Sl),Sat w (slc T.api_Batch 7 x ([oneB (ByteArray.mk #[97]) (ByteArray.mk #[120]) y].flatMap encB7)::slc T.api_Record 4 y ((oneB (ByteArray.mk #[97]) (ByteArray.mk #[120]) y).rs.flatMap encR)::lgP lg ⟨d,aP,64,1,L⟩::dk d DD::l)→L.length≤1000000→SegsOk 0 L→(∀ s ∈ L,s.file.length≤500000000) →
    Ret P F.seglog_Log_Append #[.pointer (some ⟨lg,0,none⟩),x.v] w fun vs w'=>vs=[.int .i64 (lappA aP 64 L DD [aB]).1.1,.int .i64 (lappA aP 64 L DD [aB]).1.2]∧Sat w' (lgP lg ⟨d,aP,64,1,(lappA aP 64 L DD [aB]).2.1⟩::dk d (lappA aP 64 L DD [aB]).2.2::l):=by
   intro w L DD X y x hs h1 h2 h3
   have h:=app1_c (lg:=lg) (A:=⟨d,aP,64,1,L⟩) (D:=DD) (oneB (ByteArray.mk #[97]) (ByteArray.mk #[120]) y) x h1 h2 h3 inferInstance (FocR.tail (h:=FocR.head):FocR (slc T.api_Batch 7 x ([oneB (ByteArray.mk #[97]) (ByteArray.mk #[120]) y].flatMap encB7)::slc T.api_Record 4 y ((oneB (ByteArray.mk #[97]) (ByteArray.mk #[120]) y).rs.flatMap encR)::l) y 4 ((oneB (ByteArray.mk #[97]) (ByteArray.mk #[120]) y).rs.flatMap encR)) hs
   have e:lappA aP 64 L DD [oneB (ByteArray.mk #[97]) (ByteArray.mk #[120]) y]=lappA aP 64 L DD [aB]:=by
    rw [← lapp_p,← lapp_p aP 64 L DD [aB]]
    rfl
   refine h.mono fun vs w' ⟨hv,hs⟩=>⟨?_,?_⟩
   ·rw [hv]
    show [Value.int .i64 (lappA aP 64 L DD [oneB (ByteArray.mk #[97]) (ByteArray.mk #[120]) y]).1.1,Value.int .i64 (lappA aP 64 L DD [oneB (ByteArray.mk #[97]) (ByteArray.mk #[120]) y]).1.2]=_
    rw [e]
   ·have hs:Sat w' (lgP lg ⟨d,aP,64,1,(lappA aP 64 L DD [oneB (ByteArray.mk #[97]) (ByteArray.mk #[120]) y]).2.1⟩::dk d (lappA aP 64 L DD [oneB (ByteArray.mk #[97]) (ByteArray.mk #[120]) y]).2.2::slc T.api_Batch 7 x ([oneB (ByteArray.mk #[97]) (ByteArray.mk #[120]) y].flatMap encB7)::slc T.api_Record 4 y ((oneB (ByteArray.mk #[97]) (ByteArray.mk #[120]) y).rs.flatMap encR)::l):=hs
    rw [e] at hs
    exact hs.sub
  refine wp_call (one_c _ _ hs) fun _ w' hs=>?_
  obtain ⟨y1,rfl,hs⟩:=hs
  refine ⟨(0,0,0,0,0,0,y1,()),rfl,trivial,wp_u7 _ _ _ _ _ _ _ ?_⟩
  refine wp_lits hs (enc:=encB7) [oneB (ByteArray.mk #[97]) (ByteArray.mk #[120]) y1] fun x1 w' hs=>?_
  refine wp_call (step (X:=[]) y1 x1 hs (by decide) trivial (fun s hs=>by cases hs)) fun _ w' hs=>?_
  obtain ⟨hv,hs⟩:=hs
  have hv:_=[Value.int .i64 aS1.1.1,Value.int .i64 aS1.1.2]:=hv
  have hs:Sat w' (lgP lg ⟨d,aP,64,1,aS1.2.1⟩::dk d aS1.2.2::l):=hs
  have k1:SegsOk 0 aS1.2.1:=lapp_segs trivial
  rw [aw_1] at hv
  subst hv
  refine ⟨(0,0,()),rfl,trivial,wp_u2 _ _ ?_⟩
  refine wp_lt ?_
  refine wp_lt ?_
  refine wp_call (one_c _ _ hs) fun _ w' hs=>?_
  obtain ⟨y2,rfl,hs⟩:=hs
  refine ⟨(0,0,0,0,0,0,y2,()),rfl,trivial,wp_u7 _ _ _ _ _ _ _ ?_⟩
  refine wp_lits hs (enc:=encB7) [oneB (ByteArray.mk #[97]) (ByteArray.mk #[120]) y2] fun x2 w' hs=>?_
  refine wp_call (step (X:=[]) y2 x2 hs (by rw [aw_l1.1];decide) k1 (files_le aw_l1.2 (by simp))) fun _ w' hs=>?_
  obtain ⟨hv,hs⟩:=hs
  have hv:_=[Value.int .i64 aS2.1.1,Value.int .i64 aS2.1.2]:=hv
  have hs:Sat w' (lgP lg ⟨d,aP,64,1,aS2.2.1⟩::dk d aS2.2.2::l):=hs
  have k2:SegsOk 0 aS2.2.1:=lapp_segs k1
  rw [aw_2] at hv
  subst hv
  refine ⟨(1,0,()),rfl,trivial,wp_u2 _ _ ?_⟩
  refine wp_lt ?_
  refine wp_lt ?_
  refine wp_call (one_c _ _ hs) fun _ w' hs=>?_
  obtain ⟨y3,rfl,hs⟩:=hs
  refine ⟨(0,0,0,0,0,0,y3,()),rfl,trivial,wp_u7 _ _ _ _ _ _ _ ?_⟩
  refine wp_lits hs (enc:=encB7) [oneB (ByteArray.mk #[97]) (ByteArray.mk #[120]) y3] fun x3 w' hs=>?_
  refine wp_call (step (X:=[]) y3 x3 hs (by rw [aw_l2.1];decide) k2 (files_le aw_l2.2 (by simp))) fun _ w' hs=>?_
  obtain ⟨hv,hs⟩:=hs
  have hv:_=[Value.int .i64 aS3.1.1,Value.int .i64 aS3.1.2]:=hv
  have hs:Sat w' (lgP lg ⟨d,aP,64,1,aS3.2.1⟩::dk d aS3.2.2::l):=hs
  rw [aw_3] at hv
  subst hv
  refine ⟨(2,0,()),rfl,trivial,wp_u2 _ _ ?_⟩
  refine wp_lt ?_
  refine wp_lt ?_
  obtain ⟨M,hM,hs⟩:=lgP_open hs
  have hMl:M.l=aS3.2.1:=congrArg LogA.l hM
  have hMd:M.d=d:=congrArg LogA.d hM
  refine wp_call (segments_c (lg:=lg) (by have:=aw_l3;rw [← hMl] at this;have h2:M.l.length=M.SM.length:=List.length_map ..;omega) hs) fun _ w' hs=>?_
  obtain ⟨z,rfl,hs⟩:=hs
  refine ret_of ?_
  rw [hMl,aw_segs] at hs
  have hlz:=hs.slen z (xs:=([0,2]:List Int)) (enc:=encI)
  obtain ⟨p,hp,hpf⟩:∃ p,fileD aS3.2.2.fs (ByteArray.mk #[112,45,48,48,48,48,48,48,48,48,48,48,48,46,108,111,103])=some p∧(p.1.length,p.1[0]?,p.1[4]?)=(53,some 3,some 83):=by
   have:=aw_file
   rw [Option.map_eq_some_iff] at this
   exact this
  simp only [Prod.mk.injEq] at hpf
  obtain ⟨q1,q2,q3⟩:=hpf
  refine wp_call (read_f (d:=d) (D:=aS3.2.2) _ p hp hs) fun _ w' hs=>?_
  obtain ⟨u,rfl,hs⟩:=hs
  refine ⟨(u,0,()),rfl,trivial,wp_u2 _ _ ?_⟩
  refine wp_lt ?_
  have hlu:=hs.slen u (xs:=p.1) (enc:=encU)
  have hq2:(p.1[0]'(by omega))=3:=by
   rw [List.getElem?_eq_getElem (by omega)] at q2;exact Option.some.inj q2
  have hq3:(p.1[4]'(by omega))=83:=by
   rw [List.getElem?_eq_getElem (by omega)] at q3;exact Option.some.inj q3
  refine wp_ix1k hs (xs:=([0,2]:List Int)) (enc:=encI) 1 (by decide) ?_
  refine wp_ix1k hs (xs:=p.1) (enc:=encU) 0 (by omega) ?_ (by omega)
  refine wp_ix1k hs (xs:=p.1) (enc:=encU) 4 (by omega) ?_
  refine wp_lt ?_
  refine ⟨rfl,?_,hs.sub⟩
  rw [hq2,hq3,hlz,hlu,q1]
  rfl
theorem nil_append (x:Sl) (hs:Sat w l):Ret P F.seglog_Log_Append #[.pointer none,x.v] w fun vs w'=>vs=[.int .i64 0,.int .i64 1]∧Sat w' l :=
 seglog_Log_Append_calls _ x <| by
  unfold seglog_Log_Append
  refine wp_ifT ?_ (by rfl)
  exact ⟨rfl,rfl,hs⟩
end
set_option linter.unusedVariables false
set_option linter.unusedSimpArgs false
theorem lopen_empty (pre:ByteArray) (n:Nat):lopenA pre ⟨n,-1,false,[]⟩=(0,[],⟨n,-1,false,[]⟩):=rfl
section
variable {w:World} {l r:List HP}
theorem rf_new {a:Nat} {seg gap:Int} (hs:Sat w (pt a (.cells #[.int .i64 seg,.int .i64 gap,.slice none 0 0] T.towpathref06_Log)::l)):Sat w (rfP a ⟨seg,gap,[]⟩::l):=by
 have h1:Sat w (slc T.towpathref06_Segment 3 ⟨none,0,0⟩ (([]:List SegR).flatMap encSR)::HP.all (([]:List SegR).map rsgP)::pt a (.cells #[.int .i64 seg,.int .i64 gap,.slice none 0 0] T.towpathref06_Log)::l):=(Sat.all_nil hs).slc_nil
 exact rf_close ⟨seg,gap,[]⟩ (z:=⟨none,0,0⟩) (h1.pick [2])
end
set_option linter.unusedVariables false
set_option linter.unusedSimpArgs false
def InP (pool:List BatM) (R:RefM):Prop:=∀ b ∈ R.bs,∃ c ∈ pool,b.x=c.x∧b.rs=c.rs
structure Grw (pre:ByteArray) (D:DiskA) (l':List SegA) (D':DiskA):Prop where
 cpl:Cpl pre l' D'
 fr:Fr pre D D'
 calm:Calm D'
 used:used D'.fs≤used D.fs+705
 len:D'.fs.length≤D.fs.length+1
theorem bats_put2 {w:World} {l:List HP} {outs:List BatM} {b:BatM} {z:Sl} (hs:Sat w (slc T.api_Record 4 z (b.rs.flatMap encR)::batsP outs::l)):Sat w (batsP (outs++[b.at z])::l):=bats_put (b:=b.at z) hs
theorem InP.rd {pool:List BatM} {R:RefM} {l:List HP} (h:InP pool R):∀ b ∈ R.bs,FocR (batsP pool::l) b.x 4 (b.rs.flatMap encR):=fun b hb=>by
 obtain ⟨c,hc,e1,e2⟩:=h b hb
 rw [e1,e2]
 exact bats_rd hc
theorem InP.more {pool:List BatM} {R:RefM} (h:InP pool R) (x:BatM):InP (pool++[x]) R:=fun b hb=>by
 obtain ⟨c,hc,e⟩:=h b hb
 exact ⟨c,List.mem_append_left _ hc,e⟩
theorem InP.app {pool:List BatM} {R R':RefM} {b0:BatM} {z:Sl} (h:InP pool R) (hR:∀ b ∈ R'.bs,b ∈ R.bs∨(b.x=z∧b.rs=(smallB b0).rs)):InP (pool++[(smallB b0).at z]) R':=fun b hb=>by
 rcases hR b hb with h1|⟨h1,h2⟩
 ·exact h.more _ b h1
 ·exact ⟨(smallB b0).at z,by simp,h1,h2⟩
section
variable {w:World} {l r:List HP} {lg a:Nat} {A:LogA} {D:DiskA} {R:RefM}
theorem apnd_c (y z:Sl) (b:BatM) {r1:List HP} [hf:Fo l lgP lg A r1] [hf2:Fo r1 dk A.d D r] (hp:preS A.pre=true) (hcpl:Cpl A.pre A.l D) (hc:Calm D) (hfr:705≤D.free) (hl:D.fs.length<128)
  (hy:FocR r y 7 ([(smallB b).at z].flatMap encB7)) (hz:FocR r z 4 ((smallB b).rs.flatMap encR)) (hs:Sat w l) :
  Ret P F.seglog_Log_Append #[.pointer (some ⟨lg,0,none⟩),y.v] w fun vs w'=>vs=[.int .i64 (rappA A.seg A.l [(smallB b).at z]).1.1,.int .i64 (rappA A.seg A.l [(smallB b).at z]).1.2] ∧
   ∃ D',Grw A.pre D (rappA A.seg A.l [(smallB b).at z]).2 D'∧Sat w' (lgP lg (A.set (rappA A.seg A.l [(smallB b).at z]).2)::dk A.d D'::r):=by
 obtain ⟨h1,h2,h3⟩:=hcpl.len
 obtain ⟨e1,e2,e3,e4⟩:=lapp_small A.seg b z hp hcpl hc hfr hl
 have h4:=lapp_stp A.seg [(smallB b).at z] hp hcpl
 refine (lappend_c (lg:=lg) (A:=A) (D:=D) y [(smallB b).at z] (by omega) hcpl.segs (fun s hs=>by have:=h3 s hs;omega) (by show 1≤900;omega) hy (fun c hc=>?_) hs).mono fun vs w' h=>?_
 ·rw [List.mem_singleton.1 hc];exact hz
 ·obtain ⟨h5,h6⟩:=h
  rw [e1] at h5
  rw [e2] at h6 h4
  exact ⟨h5,_,⟨h4.1,h4.2.1,h4.2.2.2.2 hc,e3,e4⟩,h6⟩
theorem rapnd_c (y z:Sl) (b:BatM) {pre:ByteArray} [hf:Fo l rfP a R r] [hok:okR R r] (hcpl:Cpl pre R.l D) (hseg:0≤R.seg∧R.seg≤4194304)
  (hy:FocR r y 7 ([(smallB b).at z].flatMap encB7)) (hz:FocR r z 4 ((smallB b).rs.flatMap encR)) (hs:Sat w l) :
  Ret P F.towpathref06_Log_Append #[.pointer (some ⟨a,0,none⟩),y.v] w fun vs w'=>vs=[.int .i64 (rappA R.seg R.l [(smallB b).at z]).1.1,.int .i64 (rappA R.seg R.l [(smallB b).at z]).1.2] ∧
   ∃ R':RefM,R'.seg=R.seg∧R'.gap=R.gap∧R'.l=(rappA R.seg R.l [(smallB b).at z]).2∧(∀ c ∈ R'.bs,c ∈ R.bs∨(c.x=z∧c.rs=(smallB b).rs))∧Sat w' (rfP a R'::r):=by
 obtain ⟨h1,h2,-⟩:=hcpl.len
 rw [R_l_len] at h1
 rw [allB_l,List.length_map] at h2
 refine (rappend_c (a:=a) (R:=R) y [(smallB b).at z] (by omega) (by omega) (by omega) (by show 1≤900;omega) hy (fun c hc=>?_) hs).mono fun vs w' h=>?_
 ·rw [List.mem_singleton.1 hc];exact hz
 ·obtain ⟨h5,R',g1,g2,g3,-,-,g6,-,g8⟩:=h
  refine ⟨h5,R',g1,g2,g3,fun c hc=>?_,g8⟩
  rcases g6 c hc with g|⟨d,hd,e1,e2⟩
  ·exact .inl g
  ·rw [List.mem_singleton.1 hd] at e1 e2
   exact .inr ⟨e1,e2⟩
end
set_option linter.unusedVariables false
set_option linter.unusedSimpArgs false
abbrev qP:ByteArray:=ByteArray.mk #[113]
abbrev qqP:ByteArray:=ByteArray.mk #[113,113]
theorem qP_ok:preS qP=true:=by kernel_rfl
theorem qqP_ok:preS qqP=true:=by kernel_rfl
theorem q_ne:qP≠qqP:=fun h=>by have:=congrArg ByteArray.size h;cases this
structure ApP (s:Int) (k:Nat) (D:DiskA) (R S:RefM) (pool:List BatM):Prop where
 rs:R.seg=s
 ss:S.seg=s
 c1:Cpl qP R.l D
 c2:Cpl qqP S.l D
 calm:Calm D
 room:D.room=1048576
 used:used D.fs≤705*k
 len:D.fs.length≤k
 in1:InP pool R
 in2:InP pool S
theorem ApP.left {s:Int} {k:Nat} {D D':DiskA} {R R' S:RefM} {pool:List BatM} {b0:BatM} {z:Sl} (h:ApP s k D R S pool) (hg:Grw qP D R'.l D') (h1:R'.seg=R.seg) (hR:∀ b ∈ R'.bs,b ∈ R.bs∨(b.x=z∧b.rs=(smallB b0).rs)):ApP s (k+1) D' R' S (pool++[(smallB b0).at z]) :=
 ⟨h1.trans h.rs,h.ss,hg.cpl,h.c2.frame hg.cpl.ok qP_ok qqP_ok q_ne hg.fr,hg.calm,hg.fr.room.trans h.room,by have:=hg.used;have:=h.used;omega,by have:=hg.len;have:=h.len;omega,h.in1.app hR,h.in2.more _⟩
theorem ApP.right {s:Int} {k:Nat} {D D':DiskA} {R S S':RefM} {pool:List BatM} {b0:BatM} {z:Sl} (h:ApP s k D R S pool) (hg:Grw qqP D S'.l D') (h1:S'.seg=S.seg) (hR:∀ b ∈ S'.bs,b ∈ S.bs∨(b.x=z∧b.rs=(smallB b0).rs)):ApP s (k+1) D' R S' (pool++[(smallB b0).at z]) :=
 ⟨h.rs,h1.trans h.ss,h.c1.frame hg.cpl.ok qqP_ok qP_ok q_ne.symm hg.fr,hg.cpl,hg.calm,hg.fr.room.trans h.room,by have:=hg.used;have:=h.used;omega,by have:=hg.len;have:=h.len;omega,h.in1.more _,h.in2.app hR⟩
theorem ApP.wk {s:Int} {k:Nat} {D:DiskA} {R S:RefM} {pool:List BatM} (h:ApP s k D R S pool) {k':Nat} (hk:k≤k'):ApP s k' D R S pool :=
 ⟨h.rs,h.ss,h.c1,h.c2,h.calm,h.room,by have:=h.used;omega,by have:=h.len;omega,h.in1,h.in2⟩
theorem ApP.free {s:Int} {k:Nat} {D:DiskA} {R S:RefM} {pool:List BatM} (h:ApP s k D R S pool) (hk:k≤100):705≤D.free:=by
 have:=h.used
 have:=h.room
 unfold DiskA.free
 omega
section
variable {w:World} {l r:List HP}
set_option maxHeartbeats 1000000 in
theorem apart6_law (seg:Int) (x y:Sl) (bs cs:List BatM) (hx:FocR l x 7 (bs.flatMap encB7)) (hy:FocR l y 7 (cs.flatMap encB7)) (hbs:∀ b ∈ bs,FocR l b.x 4 (b.rs.flatMap encR)) (hcs:∀ b ∈ cs,FocR l b.x 4 (b.rs.flatMap encR)) (hs:Sat w l) :
  Ret P F.towpathlaw06_SeglogApart #[.int .i64 seg,x.v,y.v] w fun vs w'=>vs=[.bool true]∧Sat w' l :=
 towpathlaw06_SeglogApart_calls seg x y <| by
  unfold towpathlaw06_SeglogApart
  have hlx:=hs.slen x (xs:=bs) (enc:=encB7)
  have hly:=hs.slen y (xs:=cs) (enc:=encB7)
  refine wp_call (config_c seg 5 hs) fun _ w' hs=>?_
  obtain ⟨s,g,hsr,hgr,rfl,hs⟩:=hs
  refine ⟨(s,g,()),rfl,trivial,wp_u2 _ _ ?_⟩
  have hcfg:okCfg s g:=⟨by omega,by omega⟩
  refine wp_newO hs fun a2 w' hs=>?_
  refine wp_stG hs fun w' hs=>?_
  refine wp_call (new_ok 1048576 (by omega) hs) fun _ w' hs=>?_
  obtain ⟨d,rfl,hs⟩:=hs
  refine ⟨(some ⟨d,0,none⟩,0,()),rfl,trivial,wp_u2 _ _ ?_⟩
  refine wp_lt ?_
  refine wp_ldG hs ?_
  refine wp_call (lopen_c (d:=d) (D:=⟨1048576,-1,false,[]⟩) qP s g qP_ok hcfg rfl hs) fun _ w' hs=>?_
  rw [lopen_empty] at hs
  rcases hs with ⟨he,-,-⟩|⟨-,a,rfl,hs⟩
  ·exact absurd rfl he
  have hs:Sat w' (lgP a ⟨d,qP,s,g,[]⟩::dk d ⟨1048576,-1,false,[]⟩::pt a2 (.cells #[.int .i64 s,.int .i64 g] T.seglog_Config)::l):=hs
  refine ⟨(some ⟨a,0,none⟩,0,()),rfl,trivial,wp_u2 _ _ ?_⟩
  refine wp_lt ?_
  refine wp_ldG hs ?_
  refine wp_call (lopen_c (d:=d) (D:=⟨1048576,-1,false,[]⟩) qqP s g qqP_ok hcfg rfl hs) fun _ w' hs=>?_
  rw [lopen_empty] at hs
  rcases hs with ⟨he,-,-⟩|⟨-,b,rfl,hs⟩
  ·exact absurd rfl he
  have hs:Sat w' (lgP b ⟨d,qqP,s,g,[]⟩::dk d ⟨1048576,-1,false,[]⟩::lgP a ⟨d,qP,s,g,[]⟩::pt a2 (.cells #[.int .i64 s,.int .i64 g] T.seglog_Config)::l):=hs
  refine ⟨(some ⟨b,0,none⟩,0,()),rfl,trivial,wp_u2 _ _ ?_⟩
  refine wp_lt ?_
  refine wp_mid (fun q w'=>∃ ra rb:Nat,q=(some ⟨ra,0,none⟩,some ⟨rb,0,none⟩,())∧Sat w' (rfP ra ⟨s,g,[]⟩::rfP rb ⟨s,g,[]⟩::lgP b ⟨d,qqP,s,g,[]⟩::dk d ⟨1048576,-1,false,[]⟩::lgP a ⟨d,qP,s,g,[]⟩::pt a2 (.cells #[.int .i64 s,.int .i64 g] T.seglog_Config)::l)) ?_ ?_
  ·refine wp_tk hs fun w' hs=>?_
   refine wp_hdO hs ?_
   refine wp_hdO hs ?_
   refine wp_hdO hs ?_
   refine wp_hdO hs ?_
   refine wp_both ?_ ?_
   ·refine wp_boxO hs fun ra w' hs=>?_
    refine wp_boxO hs fun rb w' hs=>?_
    refine wp_untick ?_
    have hs:=rf_new hs
    have hs:=rf_new (hs.pick [1])
    exact wp_lv ⟨ra,rb,rfl,hs⟩
   ·refine wp_boxO hs fun rb w' hs=>?_
    refine wp_boxO hs fun ra w' hs=>?_
    refine wp_untick ?_
    have hs:=rf_new hs
    have hs:=rf_new (hs.pick [1])
    exact wp_lv ⟨ra,rb,rfl,hs.pick [1]⟩
  clear hs
  rintro _ w ⟨ra,rb,rfl,hs⟩
  refine wp_on ?_
  refine wp_ifF ?_ (by simp)
  have hs:Sat w (lgP a ⟨d,qP,s,g,(RefM.mk s g []).l⟩::dk d ⟨1048576,-1,false,[]⟩::rfP ra ⟨s,g,[]⟩::lgP b ⟨d,qqP,s,g,(RefM.mk s g []).l⟩::rfP rb ⟨s,g,[]⟩::batsP []::pt a2 (.cells #[.int .i64 s,.int .i64 g] T.seglog_Config)::l):=(bats_nil hs).pick [5,4,1,2,1]
  have hI:ApP s 0 ⟨1048576,-1,false,[]⟩ ⟨s,g,[]⟩ ⟨s,g,[]⟩ []:=⟨rfl,rfl,cpl_empty _ _ (by omega),cpl_empty _ _ (by omega),⟨rfl,rfl⟩,rfl,Nat.le_refl _,Nat.le_refl _,(fun b hb=>by cases hb),fun b hb=>by cases hb⟩
  refine wp_mid (fun _ w'=>∃ (k:Nat) (D:DiskA) (R S:RefM) (pool:List BatM),k≤40∧ApP s k D R S pool∧Sat w' (lgP a ⟨d,qP,s,g,R.l⟩::dk d D::rfP ra R::lgP b ⟨d,qqP,s,g,S.l⟩::rfP rb S::batsP pool::pt a2 (.cells #[.int .i64 s,.int .i64 g] T.seglog_Config)::l)) ?_ ?_
  ·refine wp_loop (fun m v w=>∃ (i:Nat) (D:DiskA) (R S:RefM) (pool:List BatM),v=((i:Int),())∧i≤20∧20-i=m∧ApP s (2*i) D R S pool∧Sat w (lgP a ⟨d,qP,s,g,R.l⟩::dk d D::rfP ra R::lgP b ⟨d,qqP,s,g,S.l⟩::rfP rb S::batsP pool::pt a2 (.cells #[.int .i64 s,.int .i64 g] T.seglog_Config)::l)) 20 ⟨0,_,_,_,_,rfl,by omega,rfl,hI,hs⟩ ?_
   clear hs hI
   rintro m _ w ⟨i,D,R,S,pool,rfl,hi,hm,hI,hs⟩
   refine wp_on ?_
   refine wp_if (fun hc=>?_) fun hc=>?_
   rotate_left
   ·exact wp_pass (wp_lv ⟨2*i,D,R,S,pool,by omega,hI,hs⟩)
   refine wp_mid (fun _ w'=>∃ (D:DiskA) (R:RefM) (pool:List BatM),ApP s (2*i+1) D R S pool∧Sat w' (lgP a ⟨d,qP,s,g,R.l⟩::dk d D::rfP ra R::lgP b ⟨d,qqP,s,g,S.l⟩::rfP rb S::batsP pool::pt a2 (.cells #[.int .i64 s,.int .i64 g] T.seglog_Config)::l)) ?_ ?_
   ·refine wp_if (fun hc2=>?_) fun hc2=>?_
    rotate_left
    ·exact wp_lv ⟨D,R,pool,hI.wk (by omega),hs⟩
    have hil:i<bs.length:=by omega
    have hR:=hbs _ (List.getElem_mem hil)
    refine wp_ixA hs (xs:=bs) (enc:=encB7) i hil ?_
    refine wp_call (small_c bs[i] hs) fun _ w' hs=>?_
    obtain ⟨z1,rfl,hs⟩:=hs
    refine ⟨(bs[i].base,bs[i].pid,bs[i].epoch,bs[i].seq,bs[i].kind,bs[i].time,z1,()),rfl,trivial,wp_u7 _ _ _ _ _ _ _ ?_⟩
    refine wp_slit1 hs (enc:=encB7) ((smallB bs[i]).at z1) fun y1 w' hs=>?_
    refine wp_call (apnd_c (lg:=a) (A:=⟨d,qP,s,g,R.l⟩) (D:=D) y1 z1 bs[i] qP_ok hI.c1 hI.calm (hI.free (by omega)) (by have:=hI.len;omega) inferInstance inferInstance hs) fun _ w' hs=>?_
    obtain ⟨rfl,D',hg,hs⟩:=hs
    have hg:Grw qP D (rappA s R.l [(smallB bs[i]).at z1]).2 D':=hg
    have hs:Sat w' (lgP a ⟨d,qP,s,g,(rappA s R.l [(smallB bs[i]).at z1]).2⟩::dk d D'::slc T.api_Batch 7 y1 ([(smallB bs[i]).at z1].flatMap encB7)::slc T.api_Record 4 z1 ((smallB bs[i]).rs.flatMap encR)::rfP ra R::lgP b ⟨d,qqP,s,g,S.l⟩::rfP rb S::batsP pool::pt a2 (.cells #[.int .i64 s,.int .i64 g] T.seglog_Config)::l):=hs
    refine ⟨((rappA s R.l [(smallB bs[i]).at z1]).1.1,(rappA s R.l [(smallB bs[i]).at z1]).1.2,()),rfl,trivial,wp_u2 _ _ ?_⟩
    refine wp_ixA hs (xs:=bs) (enc:=encB7) i hil ?_
    refine wp_call (small_c bs[i] hs) fun _ w' hs=>?_
    obtain ⟨z2,rfl,hs⟩:=hs
    refine ⟨(bs[i].base,bs[i].pid,bs[i].epoch,bs[i].seq,bs[i].kind,bs[i].time,z2,()),rfl,trivial,wp_u7 _ _ _ _ _ _ _ ?_⟩
    refine wp_slit1 hs (enc:=encB7) ((smallB bs[i]).at z2) fun y2 w' hs=>?_
    have hok:okR R (batsP pool::pt a2 (.cells #[.int .i64 s,.int .i64 g] T.seglog_Config)::l):=okR_of hI.c1 hI.in1.rd
    refine wp_call (rapnd_c (a:=ra) (R:=R) (D:=D) y2 z2 bs[i] hI.c1 (by rw [hI.rs];omega) inferInstance inferInstance hs) fun _ w' hs=>?_
    obtain ⟨rfl,R',r1,r2,r3,r4,hs⟩:=hs
    refine ⟨((rappA R.seg R.l [(smallB bs[i]).at z2]).1.1,(rappA R.seg R.l [(smallB bs[i]).at z2]).1.2,()),rfl,trivial,wp_u2 _ _ ?_⟩
    rw [hI.rs,rapp_small s R.l bs[i] z2 z1] at r3
    rw [← r3] at hg hs
    have hs:Sat w' (slc T.api_Record 4 z2 ((smallB bs[i]).rs.flatMap encR)::batsP pool::lgP a ⟨d,qP,s,g,R'.l⟩::dk d D'::rfP ra R'::lgP b ⟨d,qqP,s,g,S.l⟩::rfP rb S::pt a2 (.cells #[.int .i64 s,.int .i64 g] T.seglog_Config)::l):=hs.sub
    have hs:=bats_put2 hs
    exact wp_lv ⟨D',R',pool++[(smallB bs[i]).at z2],hI.left hg r1 r4,hs.sub⟩
   clear hs hI
   rintro _ w ⟨D,R,pool,hI,hs⟩
   refine wp_on ?_
   refine wp_mid (fun _ w'=>∃ (D:DiskA) (S:RefM) (pool:List BatM),ApP s (2*(i+1)) D R S pool∧Sat w' (lgP a ⟨d,qP,s,g,R.l⟩::dk d D::rfP ra R::lgP b ⟨d,qqP,s,g,S.l⟩::rfP rb S::batsP pool::pt a2 (.cells #[.int .i64 s,.int .i64 g] T.seglog_Config)::l)) ?_ ?_
   ·refine wp_if (fun hc2=>?_) fun hc2=>?_
    rotate_left
    ·exact wp_lv ⟨D,S,pool,hI.wk (by omega),hs⟩
    have hil:i<cs.length:=by omega
    have hR:=hcs _ (List.getElem_mem hil)
    refine wp_ixA hs (xs:=cs) (enc:=encB7) i hil ?_
    refine wp_call (small_c cs[i] hs) fun _ w' hs=>?_
    obtain ⟨z1,rfl,hs⟩:=hs
    refine ⟨(cs[i].base,cs[i].pid,cs[i].epoch,cs[i].seq,cs[i].kind,cs[i].time,z1,()),rfl,trivial,wp_u7 _ _ _ _ _ _ _ ?_⟩
    refine wp_slit1 hs (enc:=encB7) ((smallB cs[i]).at z1) fun y1 w' hs=>?_
    refine wp_call (apnd_c (lg:=b) (A:=⟨d,qqP,s,g,S.l⟩) (D:=D) y1 z1 cs[i] qqP_ok hI.c2 hI.calm (hI.free (by omega)) (by have:=hI.len;omega) inferInstance inferInstance hs) fun _ w' hs=>?_
    obtain ⟨rfl,D',hg,hs⟩:=hs
    have hg:Grw qqP D (rappA s S.l [(smallB cs[i]).at z1]).2 D':=hg
    have hs:Sat w' (lgP b ⟨d,qqP,s,g,(rappA s S.l [(smallB cs[i]).at z1]).2⟩::dk d D'::slc T.api_Batch 7 y1 ([(smallB cs[i]).at z1].flatMap encB7)::slc T.api_Record 4 z1 ((smallB cs[i]).rs.flatMap encR)::lgP a ⟨d,qP,s,g,R.l⟩::rfP ra R::rfP rb S::batsP pool::pt a2 (.cells #[.int .i64 s,.int .i64 g] T.seglog_Config)::l):=hs
    refine ⟨((rappA s S.l [(smallB cs[i]).at z1]).1.1,(rappA s S.l [(smallB cs[i]).at z1]).1.2,()),rfl,trivial,wp_u2 _ _ ?_⟩
    refine wp_ixA hs (xs:=cs) (enc:=encB7) i hil ?_
    refine wp_call (small_c cs[i] hs) fun _ w' hs=>?_
    obtain ⟨z2,rfl,hs⟩:=hs
    refine ⟨(cs[i].base,cs[i].pid,cs[i].epoch,cs[i].seq,cs[i].kind,cs[i].time,z2,()),rfl,trivial,wp_u7 _ _ _ _ _ _ _ ?_⟩
    refine wp_slit1 hs (enc:=encB7) ((smallB cs[i]).at z2) fun y2 w' hs=>?_
    have hok:okR S (batsP pool::pt a2 (.cells #[.int .i64 s,.int .i64 g] T.seglog_Config)::l):=okR_of hI.c2 hI.in2.rd
    refine wp_call (rapnd_c (a:=rb) (R:=S) (D:=D) y2 z2 cs[i] hI.c2 (by rw [hI.ss];omega) inferInstance inferInstance hs) fun _ w' hs=>?_
    obtain ⟨rfl,S',r1,r2,r3,r4,hs⟩:=hs
    refine ⟨((rappA S.seg S.l [(smallB cs[i]).at z2]).1.1,(rappA S.seg S.l [(smallB cs[i]).at z2]).1.2,()),rfl,trivial,wp_u2 _ _ ?_⟩
    rw [hI.ss,rapp_small s S.l cs[i] z2 z1] at r3
    rw [← r3] at hg hs
    have hs:Sat w' (slc T.api_Record 4 z2 ((smallB cs[i]).rs.flatMap encR)::batsP pool::lgP a ⟨d,qP,s,g,R.l⟩::dk d D'::rfP ra R::lgP b ⟨d,qqP,s,g,S'.l⟩::rfP rb S'::pt a2 (.cells #[.int .i64 s,.int .i64 g] T.seglog_Config)::l):=hs.sub
    have hs:=bats_put2 hs
    exact wp_lv ⟨D',S',pool++[(smallB cs[i]).at z2],(hI.right hg r1 r4).wk (by omega),hs.sub⟩
   clear hs hI
   rintro _ w ⟨D,S,pool,hI,hs⟩
   refine wp_on ?_
   have hok1:okR R (batsP pool::pt a2 (.cells #[.int .i64 s,.int .i64 g] T.seglog_Config)::l):=okR_of hI.c1 hI.in1.rd
   have hok2:okR S (batsP pool::pt a2 (.cells #[.int .i64 s,.int .i64 g] T.seglog_Config)::l):=okR_of hI.c2 hI.in2.rd
   refine wp_mid (fun q w'=>q=(false,())∧Sat w' (lgP a ⟨d,qP,s,g,R.l⟩::dk d D::rfP ra R::lgP b ⟨d,qqP,s,g,S.l⟩::rfP rb S::batsP pool::pt a2 (.cells #[.int .i64 s,.int .i64 g] T.seglog_Config)::l)) ?_ ?_
   ·refine wp_call (same_c (lg:=a) (rr:=ra) (R:=R) (A:=⟨d,qP,s,g,R.l⟩) (D:=D) rfl hI.c1.has hs) fun _ w' hs=>?_
    obtain ⟨rfl,hs⟩:=hs
    refine ret_of ?_
    refine wp_ifF ?_ (by simp)
    refine wp_call (same_c (lg:=b) (rr:=rb) (R:=S) (A:=⟨d,qqP,s,g,S.l⟩) (D:=D) rfl hI.c2.has hs) fun _ w' hs=>?_
    obtain ⟨rfl,hs⟩:=hs
    refine ret_of ?_
    have hs:Sat w' (lgP b ⟨d,qqP,s,g,S.l⟩::dk d D::rfP rb S::lgP a ⟨d,qP,s,g,R.l⟩::rfP ra R::batsP pool::pt a2 (.cells #[.int .i64 s,.int .i64 g] T.seglog_Config)::l):=hs
    exact wp_lv ⟨rfl,hs.sub⟩
   clear hs
   rintro _ w ⟨rfl,hs⟩
   refine wp_ifF ?_ (by simp)
   refine wp_ltx (y:=((i+1:Nat):Int)) ?_ (by rw [w64 (by omega) (by omega)];omega)
   exact wp_lp (20-(i+1)) ⟨i+1,D,R,S,pool,rfl,by omega,rfl,hI,hs⟩
  clear hs hI
  rintro _ w ⟨k,D,R,S,pool,hk,hI,hs⟩
  refine wp_on ?_
  have hok1:okR R (batsP pool::pt a2 (.cells #[.int .i64 s,.int .i64 g] T.seglog_Config)::l):=okR_of hI.c1 hI.in1.rd
  have hok2:okR S (batsP pool::pt a2 (.cells #[.int .i64 s,.int .i64 g] T.seglog_Config)::l):=okR_of hI.c2 hI.in2.rd
  refine wp_ldG hs ?_
  refine wp_call (lopen_c (d:=d) (D:=D) qP s g qP_ok hcfg hI.calm.gone hs) fun _ w' hs=>?_
  rw [hI.c1.opened] at hs
  rcases hs with ⟨he,-,-⟩|⟨-,a',rfl,hs⟩
  ·exact absurd rfl he
  refine ⟨(some ⟨a',0,none⟩,0,()),rfl,trivial,wp_u2 _ _ ?_⟩
  have hs:Sat w' (lgP a' ⟨d,qP,s,g,R.l⟩::dk d D::rfP ra R::rfP rb S::batsP pool::pt a2 (.cells #[.int .i64 s,.int .i64 g] T.seglog_Config)::l):=(show Sat w' (lgP a' ⟨d,qP,s,g,R.l⟩::dk d D::_) from hs).sub
  refine wp_lt ?_
  refine wp_ldG hs ?_
  refine wp_call (lopen_c (d:=d) (D:=D) qqP s g qqP_ok hcfg hI.calm.gone hs) fun _ w' hs=>?_
  rw [hI.c2.opened] at hs
  rcases hs with ⟨he,-,-⟩|⟨-,b',rfl,hs⟩
  ·exact absurd rfl he
  refine ⟨(some ⟨b',0,none⟩,0,()),rfl,trivial,wp_u2 _ _ ?_⟩
  have hs:Sat w' (lgP b' ⟨d,qqP,s,g,S.l⟩::dk d D::lgP a' ⟨d,qP,s,g,R.l⟩::rfP ra R::rfP rb S::batsP pool::pt a2 (.cells #[.int .i64 s,.int .i64 g] T.seglog_Config)::l):=hs
  refine wp_lt ?_
  refine wp_mid (fun q w'=>q=(true,())∧Sat w' l) ?_ ?_
  rotate_left
  ·rintro _ w2 ⟨rfl,hs⟩
   exact ⟨rfl,rfl,hs⟩
  refine wp_ifT ?_ (by simp)
  refine wp_call (same_c (lg:=a') (rr:=ra) (R:=R) (A:=⟨d,qP,s,g,R.l⟩) (D:=D) rfl hI.c1.has hs) fun _ w' hs=>?_
  obtain ⟨rfl,hs⟩:=hs
  refine ret_of ?_
  refine wp_ifT ?_ (by simp)
  refine wp_call (same_c (lg:=b') (rr:=rb) (R:=S) (A:=⟨d,qqP,s,g,S.l⟩) (D:=D) rfl hI.c2.has hs) fun _ w' hs=>?_
  obtain ⟨rfl,hs⟩:=hs
  refine ret_of ?_
  refine wp_ifT ?_ (by simp)
  have hs:Sat w' (lgP b' ⟨d,qqP,s,g,S.l⟩::dk d D::rfP rb S::lgP a' ⟨d,qP,s,g,R.l⟩::rfP ra R::batsP pool::pt a2 (.cells #[.int .i64 s,.int .i64 g] T.seglog_Config)::l):=hs
  have hs:Sat w' l:=hs.sub
  refine wp_call (awake6_c hs) fun _ _ hs=>?_
  obtain ⟨rfl,hs⟩:=hs
  refine ret_of ?_
  refine wp_lt ?_
  exact wp_lv ⟨rfl,hs⟩
end
open Go.ChangeShapes Go.WideShapes Go.RowKit Go.Deep
set_option linter.unusedVariables false
section
variable {H:Type} {enc:TypeId × Value→H} {P:Program} {w:World} {base:Nat} {spare:Nat→Bool} {held:Bool}
theorem trod_fields {t:TypeId} {fs:Array Field} {n C:Nat} {cs:List Value} {y:DataW H × List MemPlace} (ht:P.underlying t=some (.struct fs)) (hd:DataW.trod enc P w base spare held n t cs=some y) (hC:P.cellsOf t=C) :
  cs.length=C∧∃ n',∀ (j:Nat) (f:Field),fs[j]? = some f→∃ y,DataW.trod enc P w base spare held n' f.type ((cs.drop f.offset).take (P.cellsOf f.type))=some y:=by
 obtain ⟨ys,n',hn',hy,hlen,hyl,hf⟩:=DataW.trod_struct ht hd
 refine ⟨by rw [hlen,hC],n',fun j f hj=>?_⟩
 have hjl:j<fs.size:=(Array.getElem?_eq_some_iff.1 hj).1
 have h1:=hf j f hj
 rw [List.getElem?_eq_getElem (by omega)] at h1
 exact ⟨_,h1⟩
theorem read_rec {t:TypeId} {f0 f1 f2 f3:Field} {n:Nat} {cs:List Value} {y:DataW H × List MemPlace} (ht:P.underlying t=some (.struct #[f0,f1,f2,f3])) (hC:P.cellsOf t=4) (k0:P.underlying f0.type=some .string) (k1:P.underlying f1.type=some .string) (k2:P.underlying f2.type=some .bool) (k3:P.underlying f3.type=some (.int .i64))
  (o0:f0.offset=0) (o1:f1.offset=1) (o2:f2.offset=2) (o3:f3.offset=3) (c0:P.cellsOf f0.type=1) (c1:P.cellsOf f1.type=1) (c2:P.cellsOf f2.type=1) (c3:P.cellsOf f3.type=1)
  (hd:DataW.trod enc P w base spare held n t cs=some y):∃ r:RecM,cs=encR r∧True:=by
 obtain ⟨hl,n',hf⟩:=trod_fields ht hd hC
 match cs,hl with
 | [v0,v1,v2,v3],_ =>
  obtain ⟨y0,h0⟩:=hf 0 f0 rfl
  obtain ⟨y1,h1⟩:=hf 1 f1 rfl
  obtain ⟨y2,h2⟩:=hf 2 f2 rfl
  obtain ⟨y3,h3⟩:=hf 3 f3 rfl
  rw [o0,c0] at h0
  rw [o1,c1] at h1
  rw [o2,c2] at h2
  rw [o3,c3] at h3
  obtain ⟨s0,q0,-,-⟩:=DataW.trod_string k0 h0
  obtain ⟨s1,q1,-,-⟩:=DataW.trod_string k1 h1
  obtain ⟨b2,q2,-⟩:=DataW.trod_bool k2 h2
  obtain ⟨n3,q3,-,-⟩:=DataW.trod_int k3 h3
  simp at q0 q1 q2 q3
  subst q0 q1 q2 q3
  exact ⟨⟨s0,s1,b2,n3⟩,rfl,trivial⟩
theorem read_b7 {t tr:TypeId} {b0 b1 b2 b3 b4 b5 b6:Field} {n:Nat} {cs:List Value} {y:DataW H × List MemPlace} (ht:P.underlying t=some (.struct #[b0,b1,b2,b3,b4,b5,b6])) (hC:P.cellsOf t=7)
  (hone:oneCellFields P #[b0,b1,b2,b3,b4,b5,b6]=true) (l0:P.underlying b0.type=some (.int .i64)) (l1:P.underlying b1.type=some (.int .i64)) (l2:P.underlying b2.type=some (.int .i64)) (l3:P.underlying b3.type=some (.int .i64)) (l4:P.underlying b4.type=some (.int .i64)) (l5:P.underlying b5.type=some (.int .i64))
  (l6:P.underlying b6.type=some (.slice tr)) (hR:P.cellsOf tr=4) (hrec:∀ (n:Nat) (cs:List Value) (y:DataW H × List MemPlace),cs.length=4→DataW.trod enc P w base spare held n tr cs=some y→∃ r:RecM,cs=encR r∧True)
  (hd:DataW.trod enc P w base spare held n t cs=some y):∃ b:BatM,cs=encB7 b∧Rd w 4 b.x (b.rs.flatMap encR)∧(-9223372036854775808≤b.base∧b.base<9223372036854775808):=by
 obtain ⟨hl,m,hg⟩:=trod_fields ht hd hC
 match cs,hl with
 | [v1,v2,v3,v4,v5,v6,v7],_ =>
  have one:∀ (j:Nat) (f:Field) (u:Value),#[b0,b1,b2,b3,b4,b5,b6][j]? = some f→[v1,v2,v3,v4,v5,v6,v7][j]? = some u→∃ y,DataW.trod enc P w base spare held m f.type [u]=some y:=fun j f u hj hu=>by
   obtain ⟨ho,hk⟩:=hone_of hone j f hj
   obtain ⟨y,h1⟩:=hg j f hj
   rw [ho,hk] at h1
   obtain ⟨hjl,rfl⟩:=List.getElem?_eq_some_iff.1 hu
   have hone':([v1,v2,v3,v4,v5,v6,v7].drop j).take 1=[[v1,v2,v3,v4,v5,v6,v7][j]]:=by
    rw [List.drop_eq_getElem_cons hjl];rfl
   rw [hone'] at h1
   exact ⟨y,h1⟩
  obtain ⟨z0,e0⟩:=one 0 b0 v1 rfl rfl
  obtain ⟨z1,e1⟩:=one 1 b1 v2 rfl rfl
  obtain ⟨z2,e2⟩:=one 2 b2 v3 rfl rfl
  obtain ⟨z3,e3⟩:=one 3 b3 v4 rfl rfl
  obtain ⟨z4,e4⟩:=one 4 b4 v5 rfl rfl
  obtain ⟨z5,e5⟩:=one 5 b5 v6 rfl rfl
  obtain ⟨z6,e6⟩:=one 6 b6 v7 rfl rfl
  obtain ⟨m0,p0,-,w0⟩:=DataW.trod_int l0 e0
  obtain ⟨m1,p1,-,-⟩:=DataW.trod_int l1 e1
  obtain ⟨m2,p2,-,-⟩:=DataW.trod_int l2 e2
  obtain ⟨m3,p3,-,-⟩:=DataW.trod_int l3 e3
  obtain ⟨m4,p4,-,-⟩:=DataW.trod_int l4 e4
  obtain ⟨m5,p5,-,-⟩:=DataW.trod_int l5 e5
  obtain ⟨x,rs,p6,-,-,-,-,hrd⟩:=trod_rows l6 hR (by decide) hrec e6
  simp at p0 p1 p2 p3 p4 p5
  subst p0 p1 p2 p3 p4 p5 p6
  exact ⟨⟨m0,m1,m2,m3,m4,m5,x,rs⟩,rfl,hrd,wf64 w0⟩
theorem trod_of {t e:TypeId} {r:Reach} {b0:Nat} {v:Value} {d:DataW H} {ps:List MemPlace} (ht:P.underlying t=some (.slice e)) (hval:Value.okWide P w r b0 t v) (hd:DataW.Trod enc P w base spare held t v d ps):∃ (fuel:Nat) (y:DataW H × List MemPlace),DataW.trod enc P w base spare held fuel t [v]=some y:=by
 obtain ⟨a0,len0,cap0,rfl⟩:=okWide_slice ht hval
 obtain ⟨fuel,hf⟩:=hd
 exact ⟨fuel,_,hf⟩
theorem foc_whole {W:World} {sz:Nat} {x:Sl} {cs:List Value} (h:Rd W sz x cs):FocR [whole W] x sz cs:=⟨fun w hs=>rd_keep hs.of_whole.1 h⟩
end
end Go.Dec
