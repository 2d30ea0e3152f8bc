/- What the claim of this folder leans on: our own texts, joined, without what it does not use. -/
import Derived.Test.YtfnldnodhfkojaaGreatRows
import Derived.WalkKit
import Derived.ProofKit
import Derived.OpenShut
import Derived.RowKit3
import Derived.OrdersHeld
import Derived.Scope
import Derived.KernelRfl
import Derived.Laws.Sem
import Derived.Laws.StructEq
import Derived.Deep.AppendSrc
import Derived.Laws.BytesArg
import Derived.Laws.RangeString
import Derived.Maps.RangeRun
import Derived.Lib.ConvBytes
import Derived.Lib.SlBytesConst
import Derived.ChangeSlices
import Derived.ChangeMaps5
import Derived.ChangeSame
import Derived.Deep.Slices
import Derived.Deep.Fields
import Derived.Test.YtfnldnodhfkojaaGreatProg
import Derived.Laws.MakeOwn
import Derived.Sort.MapsRangeIn
import Derived.Sort.KeysCollected
import Derived.RangeFuncNested
import Derived.RangeFuncBound
import Derived.RangeFuncCalls
import Derived.RangeFuncLeaves
import Derived.RangeFuncBox
import Derived.OwnWalkIn
import Derived.TacticsInMore
import Derived.RegionIn
import Derived.LoopNIn
import Derived.LoopIn
import Derived.Maps.AppendAt
import Derived.Shelf.Abstract
import Derived.Test.YtfnldnodhfkojaaGreatQTimes1
import Derived.Test.YtfnldnodhfkojaaGreatQTimes2
import Derived.Test.YtfnldnodhfkojaaGreatQTimes3
import Derived.Test.YtfnldnodhfkojaaGreatQTimes4
import Derived.Test.YtfnldnodhfkojaaGreatQTimes5
namespace Go.Dec
set_option linter.unusedVariables false
set_option linter.unusedSimpArgs false
theorem SegsOk.mem:∀ {n:Int} {l:List SegA},SegsOk n l→∀ s ∈ l,SegOk s∧n≤s.base
 | _,a::l,⟨h1,h2,h3⟩,s,hs=>by
  rcases List.mem_cons.1 hs with rfl|hs
  ·exact ⟨h2,h1⟩
  ·have:=h3.mem s hs
   exact ⟨this.1,by omega⟩
def lsyncA (pre:ByteArray) (l:List SegA) (D:DiskA):Int × DiskA:=match l.getLast? with
 | none=>(0,D)
 | some s=>syncA D [nameS pre s.base logX]
def BatM.to (b:BatM) (n:Int):BatM:=⟨n,b.pid,b.epoch,b.seq,b.kind,b.time,b.x,b.rs⟩
def placeL:Int→List BatM→Int × List BatM
 | _,[]=>(0,[])
 | n,b::bs=>if validB (b.to n)≠0 then (validB (b.to n),[]) else if (placeL (n+spanB b) bs).1≠0 then ((placeL (n+spanB b) bs).1,[]) else (0,b.to n::(placeL (n+spanB b) bs).2)
def frP (p:Sl × List UInt8):HP:=slc T.uint8 1 p.1 (p.2.flatMap encU)
theorem placeL_ok:∀ {bs:List BatM} {n:Int},(placeL n bs).1=0→(placeL n bs).2.length=bs.length∧(∀ b ∈ (placeL n bs).2,validB b=0∧∃ c ∈ bs,b.x=c.x∧b.rs=c.rs)∧∀ b,(placeL n bs).2.head? = some b→b.base=n
 | [],n,_=>⟨rfl,(fun _ h=>by cases h),(fun _ h=>by cases h)⟩
 | b::bs,n,h=>by
  unfold placeL at h ⊢
  by_cases h1:validB (b.to n)≠0
  ·rw [if_pos h1] at h;exact absurd h h1
  rw [if_neg h1] at h ⊢
  by_cases h2:(placeL (n+spanB b) bs).1≠0
  ·rw [if_pos h2] at h;exact absurd h h2
  rw [if_neg h2]
  obtain ⟨i1,i2,-⟩:=placeL_ok (Decidable.not_not.1 h2)
  refine ⟨by simp [i1],fun c hc=>?_,fun c hc=>?_⟩
  ·rcases List.mem_cons.1 hc with rfl|hc
   ·exact ⟨Decidable.not_not.1 h1,b,List.mem_cons_self ..,rfl,rfl⟩
   ·obtain ⟨v,d,hd,e⟩:=i2 c hc
    exact ⟨v,d,List.mem_cons_of_mem _ hd,e⟩
  ·simp at hc;subst hc;rfl
theorem bat_sum:∀ {bs:List BatM},(∀ b ∈ bs,validB b=0)→(bs.flatMap frL).length≤bs.length*262152
 | [],_=>by simp
 | b::bs,h=>by
  have h1:=frL_len (h b (List.mem_cons_self ..))
  have h2:=batL_len (h b (List.mem_cons_self ..))
  have h3:=bat_sum fun x hx=>h x (List.mem_cons_of_mem _ hx)
  rw [List.flatMap_cons,List.length_append,List.length_cons]
  omega
section
variable {w:World} {l r:List HP} {lg:Nat} {M:LogM} {D:DiskA} {gap:Int} {a:Nat} {t:SegM}
theorem all_rd {fs:List (Sl × List UInt8)} {p:Sl × List UInt8} (hp:p ∈ fs) [hf:Foc l (HP.all (fs.map frP)) r]:FocR l p.1 1 (p.2.flatMap encU):=⟨fun w hs=>by
 obtain ⟨L,hs⟩:=(hs.perm hf.perm).all_mem hp
 exact Sat.rd hs⟩
theorem rdAll_of:∀ {fs gs:List (Sl × List UInt8)},(∀ p ∈ gs,FocR l p.1 1 (p.2.flatMap encU))→RdAll l (gs.map Prod.fst) (gs.map Prod.snd)
 | _,[],_=>trivial
 | fs,p::gs,h=>⟨(h p (List.mem_cons_self ..)).rd,rdAll_of (fs:=fs) fun q hq=>h q (List.mem_cons_of_mem _ hq)⟩
theorem lsync_c {r1:List HP} [hf:Fo l lgQ lg M r1] [hf2:Fo r1 dk M.d D r] (hlen:M.SM.length≤1000000000) (hok:SegsOk 0 M.l) (hs:Sat w l) :
  Ret P F.seglog_Log_Sync #[.pointer (some ⟨lg,0,none⟩)] w fun vs w'=>vs=[.int .i64 (lsyncA M.pre M.l D).1]∧Sat w' (lgQ lg M::dk M.d (lsyncA M.pre M.l D).2::r) :=
 seglog_Log_Sync_calls _ <| by
  unfold seglog_Log_Sync
  have hs:=hs.perm (hf.perm.trans (.cons _ hf2.perm))
  refine wp_ifF ?_ (by simp)
  refine wp_call (last_c (lg:=lg) hlen hs) fun _ w' hs=>?_
  obtain ⟨rfl,hs⟩:=hs
  refine ret_of ?_
  by_cases h0:M.SM=[]
  ·have e:lsyncA M.pre M.l D=(0,D):=by unfold LogM.l lsyncA;rw [h0];rfl
   rw [e,h0]
   refine wp_ifF ?_ (by simp [ptrO])
   exact ⟨rfl,rfl,hs⟩
  have hp:=List.length_pos_iff.2 h0
  have hsz:M.SM.length-1<M.SM.length:=by omega
  have e1:M.SM.getLast? = some (M.SM[M.SM.length-1]'hsz):=by
   rw [List.getLast?_eq_getElem?,List.getElem?_eq_getElem (by omega)]
  have e:lsyncA M.pre M.l D=syncA D [nameS M.pre (M.SM[M.SM.length-1]'hsz).2.s.base logX]:=by
   unfold LogM.l lsyncA
   rw [getLast_map,e1]
   rfl
  have hmem:(M.SM[M.SM.length-1]'hsz).2.s ∈ M.l:=List.mem_map.2 ⟨_,List.getElem_mem hsz,rfl⟩
  have hbase:=(hok.mem _ hmem).1.base
  rw [e,e1]
  obtain ⟨hokm,hs⟩:=lgQ_open hs
  have hpre:M.pre.size≤100:=by
   have:=hokm.pre
   unfold preS at this
   rw [Bool.and_eq_true,decide_eq_true_eq] at this
   omega
  refine wp_ifT ?_ (by simp [ptrO])
  have hs:=seg_open (seg_at (hs.pick [2]) hsz)
  refine wp_mid (fun q w'=>q=((syncA D [nameS M.pre (M.SM[M.SM.length-1]'hsz).2.s.base logX]).1,())∧Sat w' (lgQ lg M::dk M.d (syncA D [nameS M.pre (M.SM[M.SM.length-1]'hsz).2.s.base logX]).2::r)) ?_ ?_
  rotate_left
  ·rintro _ w2 ⟨rfl,hs⟩
   exact ⟨rfl,rfl,hs⟩
  refine wp_tk hs fun w' hs=>?_
  refine wp_nn ?_
  refine wp_hdO hs ?_
  refine wp_nn ?_
  refine wp_ldO hs ?_
  refine wp_call (name_c0 (lg:=lg) _ (by omega) (ByteArray.mk #[46,108,111,103]) (by decide) M.pre hpre hs) fun _ w' hs=>?_
  obtain ⟨rfl,hs⟩:=hs
  refine ret_of ?_ (by first|trivial|(repeat (first|exact trivial|exact fun _=>run_ldO hs|exact fun _=>run_ldG hs|refine And.intro ?_ ?_)))
  refine wp_litS hs (enc:=encT) [nameS M.pre (M.SM[M.SM.length-1]'hsz).2.s.base logX] fun y w' hs=>⟨(by first|trivial|(repeat (first|exact trivial|exact fun _=>run_ldO hs|exact fun _=>run_ldG hs|refine And.intro ?_ ?_))),?_⟩
  refine wp_untick ?_
  refine wp_call (sync_c (d:=M.d) y [nameS M.pre (M.SM[M.SM.length-1]'hsz).2.s.base logX] (by show 1≤100000;omega) hs) fun _ w' hs=>?_
  obtain ⟨rfl,hs⟩:=hs
  refine ret_of ?_
  refine wp_lt ?_
  refine wp_untick ?_
  refine wp_lv ⟨rfl,?_⟩
  replace hs:Sat _ (segP M.gap _ _::_):=seg_close (M.SM[M.SM.length-1]'hsz).2 (hs.pick [2,2])
  have hs:=seg_back hsz (hs.pick [0,2])
  exact (lgQ_close M hokm (hs.pick [3,3])).sub
theorem placed_c (x:Sl) (bs:List BatM) [hf:Fo l lgQ lg M r] (hlen:M.SM.length≤1000000000) (hbl:bs.length≤100000) (hx:FocR r x 7 (bs.flatMap encB7)) (hbs:∀ b ∈ bs,FocR r b.x 4 (b.rs.flatMap encR)) (hs:Sat w l) :
  Ret P F.seglog_Log_placed #[.pointer (some ⟨lg,0,none⟩),x.v] w fun vs w' =>
   ((placeL (nextL M.l) bs).1≠0∧vs=[.slice none 0 0,.slice none 0 0,.int .i64 (placeL (nextL M.l) bs).1]∧Sat w' (lgQ lg M::r)) ∨
   ((placeL (nextL M.l) bs).1=0∧∃ (z1 z2:Sl) (fs:List (Sl × List UInt8)),vs=[z1.v,z2.v,.int .i64 0]∧fs.map Prod.snd=(placeL (nextL M.l) bs).2.map frL ∧
    Sat w' (slc T.api_Batch 7 z1 ((placeL (nextL M.l) bs).2.flatMap encB7)::slc T.s_uint8 1 z2 ((fs.map Prod.fst).flatMap encSl)::HP.all (fs.map frP)::lgQ lg M::r)) :=
 seglog_Log_placed_calls _ x <| by
  unfold seglog_Log_placed
  have hs:=hs.perm hf.perm
  have hl:=hs.slen x (xs:=bs) (enc:=encB7)
  refine wp_call (lnext_c (lg:=lg) hlen hs) fun _ w' hs=>?_
  obtain ⟨rfl,hs⟩:=hs
  refine ret_of ?_
  refine wp_lt ?_
  generalize nextL M.l=n0
  refine wp_mid (fun q w'=>∃ (z1 z2:Sl) (fs:List (Sl × List UInt8)),(placeL n0 bs).1=0∧q=(z1,z2,())∧fs.map Prod.snd=(placeL n0 bs).2.map frL ∧
    Sat w' (slc T.api_Batch 7 z1 ((placeL n0 bs).2.flatMap encB7)::slc T.s_uint8 1 z2 ((fs.map Prod.fst).flatMap encSl)::HP.all (fs.map frP)::lgQ lg M::r)) ?_ ?_
  rotate_left
  ·rintro _ w2 ⟨z1,z2,fs,h1,rfl,h2,hs⟩
   exact ⟨rfl,.inr ⟨h1,z1,z2,fs,rfl,h2,hs⟩⟩
  have h0:Sat w' (slc T.api_Batch 7 ⟨none,0,0⟩ (([]:List BatM).flatMap encB7)::slc T.s_uint8 1 ⟨none,0,0⟩ (((([]:List (Sl × List UInt8))).map Prod.fst).flatMap encSl)::HP.all ((([]:List (Sl × List UInt8))).map frP)::lgQ lg M::r):=(Sat.all_nil hs).slc_nil.slc_nil
  refine wp_loop (fun m v w=>∃ (i:Nat) (n:Int) (done:List BatM) (z1 z2:Sl) (fs:List (Sl × List UInt8)),v=(n,z1,z2,(i:Int),())∧i≤bs.length∧bs.length-i=m∧done.length=i∧fs.length=i ∧
   placeL n0 bs=(if (placeL n (bs.drop i)).1≠0 then ((placeL n (bs.drop i)).1,[]) else (0,done++(placeL n (bs.drop i)).2))∧fs.map Prod.snd=done.map frL ∧
   Sat w (slc T.api_Batch 7 z1 (done.flatMap encB7)::slc T.s_uint8 1 z2 ((fs.map Prod.fst).flatMap encSl)::HP.all (fs.map frP)::lgQ lg M::r)) bs.length
   ⟨0,n0,[],⟨none,0,0⟩,⟨none,0,0⟩,[],rfl,by omega,rfl,rfl,rfl,?_,rfl,h0⟩ ?_
  ·rw [List.drop_zero,List.nil_append]
   by_cases h:(placeL n0 bs).1≠0
   ·rw [if_pos h]
    have:∀ {bs:List BatM} {n:Int},(placeL n bs).1≠0→(placeL n bs).2=[]:=by
     intro bs
     induction bs with
     | nil=>intro n h;exact absurd rfl h
     | cons b bs ih =>
      intro n h
      unfold placeL at h ⊢
      split
      ·rfl
      ·split
       ·rfl
       ·rename_i h1 h2
        rw [if_neg h1,if_neg h2] at h
        exact absurd rfl h
    rw [← this h]
   ·rw [if_neg h]
    have h:=Decidable.not_not.1 h
    rw [← h]
  clear hs h0
  rintro m _ w ⟨i,n,done,z1,z2,fs,rfl,hi,hm,hdl,hfl,hpl,hfs,hs⟩
  refine wp_on ?_
  refine wp_if (fun hc=>?_) fun hc=>?_
  rotate_left
  ·have e:bs.drop i=[]:=List.drop_eq_nil_of_le (by omega)
   rw [e] at hpl
   simp only [placeL,List.append_nil] at hpl
   have hpl:placeL n0 bs=(0,done):=by rw [hpl];rfl
   refine wp_pass (wp_lv ⟨z1,z2,fs,by rw [hpl],rfl,by rw [hpl];exact hfs,?_⟩)
   rw [hpl]
   exact hs
  have hil:i<bs.length:=by omega
  have hdrop:bs.drop i=bs[i]::bs.drop (i+1):=List.drop_eq_getElem_cons hil
  rw [hdrop] at hpl
  have hR:=hbs bs[i] (List.getElem_mem hil)
  refine wp_ixA hs (xs:=bs) (enc:=encB7) i hil ?_
  refine wp_newO hs fun a w' hs=>?_
  refine wp_stG hs fun w' hs=>?_
  refine wp_stO hs fun w' hs=>?_
  refine wp_ldG hs ?_
  have hRt:FocR r (bs[i].to n).x 4 ((bs[i].to n).rs.flatMap encR):=hR
  refine wp_call (encode_c (bs[i].to n) hs) fun _ w' hs=>?_
  have hunf:placeL n (bs[i]::bs.drop (i+1))=if validB (bs[i].to n)≠0 then (validB (bs[i].to n),[]) else if (placeL (n+spanB bs[i]) (bs.drop (i+1))).1≠0 then ((placeL (n+spanB bs[i]) (bs.drop (i+1))).1,[]) else (0,bs[i].to n::(placeL (n+spanB bs[i]) (bs.drop (i+1))).2):=rfl
  rcases hs with ⟨hv,rfl,hs⟩|⟨hv,y,rfl,hs⟩
  ·refine ret_of ?_
   refine wp_lt ?_
   refine wp_ifT ?_ hv
   refine wp_lt ?_
   rw [if_pos hv] at hunf
   have hpl:placeL n0 bs=(validB (bs[i].to n),[]):=by rw [hpl,hunf,if_pos hv]
   refine wp_pass (wp_pass ⟨rfl,.inl ⟨by rw [hpl];exact hv,by rw [hpl],hs.sub⟩⟩)
  ·refine ret_of ?_
   refine wp_lt ?_
   refine wp_ifF ?_ (by simp)
   rw [if_neg (by rw [hv];simp)] at hunf
   have hbl2:=batL_len hv
   have hfrl:=frL_len hv
   refine wp_ldG hs ?_
   refine wp_ap0 (xs:=done) (enc:=encB7) (y:=bs[i].to n) hs (fun z1' w' hs=>?_) rfl (by omega)
   refine wp_litx hs (enc:=encSl) [y] fun y2 w' hs=>?_
   refine wp_call (fseal1_c y2 y (batL (bs[i].to n)) (by omega) hs) fun _ w' hs=>?_
   obtain ⟨y3,rfl,hs⟩:=hs
   refine ret_of ?_
   refine wp_ap0 (xs:=fs.map Prod.fst) (enc:=encSl) (y:=y3) hs (fun z2' w' hs=>?_) rfl (by rw [List.length_map];omega)
   refine wp_ldG hs ?_
   refine wp_call (next_c_ (bs[i].to n) hs) fun _ w' hs=>?_
   obtain ⟨rfl,hs⟩:=hs
   refine ret_of ?_
   refine wp_lt ?_
   rw [show IntKind.wrap .i64 ((i:Int)+1)=((i+1:Nat):Int) by rw [w64 (by omega) (by omega)];omega]
   have en:nextB (bs[i].to n)=n+spanB bs[i]:=by
    unfold nextB
    rw [if_neg (by rw [hv];simp)]
    rfl
   rw [en]
   refine wp_lp (bs.length-(i+1)) ⟨i+1,n+spanB bs[i],done++[bs[i].to n],z1',z2',fs++[(y3,frL (bs[i].to n))],rfl,by omega,rfl,by simp [hdl],by simp [hfl],?_,by simp [hfs],?_⟩
   ·rw [hpl,hunf]
    by_cases h2:(placeL (n+spanB bs[i]) (bs.drop (i+1))).1≠0
    ·rw [if_pos h2,if_pos h2,if_pos h2]
    ·rw [if_neg h2,if_neg h2,if_neg (by simp),List.append_assoc]
     rfl
   ·have e2:(fs++[(y3,frL (bs[i].to n))]).map Prod.fst=fs.map Prod.fst++[y3]:=by simp
    rw [e2]
    have hs:Sat w' (slc T.s_uint8 1 z2' ((fs.map Prod.fst++[y3]).flatMap encSl)::slc T.uint8 1 y3 ((frL (bs[i].to n)).flatMap encU)::slc T.s_uint8 1 y2 (([y]:List Sl).flatMap encSl)::slc T.api_Batch 7 z1' ((done++[bs[i].to n]).flatMap encB7)::_):=hs
    have hs:Sat w' (frP (y3,frL (bs[i].to n))::HP.all (fs.map frP)::slc T.api_Batch 7 z1' ((done++[bs[i].to n]).flatMap encB7)::slc T.s_uint8 1 z2' ((fs.map Prod.fst++[y3]).flatMap encSl)::lgQ lg M::r):=by
     have h3:Sat w' (slc T.uint8 1 y3 ((frL (bs[i].to n)).flatMap encU)::HP.all (fs.map frP)::slc T.api_Batch 7 z1' ((done++[bs[i].to n]).flatMap encB7)::slc T.s_uint8 1 z2' ((fs.map Prod.fst++[y3]).flatMap encSl)::lgQ lg M::r):=hs.sub
     exact h3
    have h4:Sat w' (HP.all (((y3,frL (bs[i].to n))::fs).map frP)::_):=hs.all_put
    have h5:=h4.all_perm ((List.perm_append_comm (l₁:=[(y3,frL (bs[i].to n))]) (l₂:=fs)).map frP)
    exact h5.pick [1,1]
end
set_option linter.unusedVariables false
set_option linter.unusedSimpArgs false
def baseL (l:List SegA):Int:=match l.getLast? with
 | none=>0
 | some s=>s.base
def addLast (l:List SegA) (bs:List BatM):List SegA:=match l.getLast? with
 | none=>l
 | some s=>l.dropLast++[s.add bs]
def lappA (pre:ByteArray) (seg:Int) (l:List SegA) (D:DiskA) (bs:List BatM):(Int × Int) × List SegA × DiskA :=
 if bs=[] then ((0,3),l,D) else
 if (placeL (nextL l) bs).1≠0 then ((0,(placeL (nextL l) bs).1),l,D) else
 if roomy seg l ((placeL (nextL l) bs).2.flatMap frL).length then
  if (appendA D (nameS pre (baseL l) logX) ((placeL (nextL l) bs).2.flatMap frL)).1≠0 then ((0,(appendA D (nameS pre (baseL l) logX) ((placeL (nextL l) bs).2.flatMap frL)).1),l,(appendA D (nameS pre (baseL l) logX) ((placeL (nextL l) bs).2.flatMap frL)).2)
  else ((nextL l,0),addLast l (placeL (nextL l) bs).2,(appendA D (nameS pre (baseL l) logX) ((placeL (nextL l) bs).2.flatMap frL)).2)
 else
  if (lsyncA pre l D).1≠0 then ((0,(lsyncA pre l D).1),l,(lsyncA pre l D).2) else
  if (appendA (lsyncA pre l D).2 (nameS pre (nextL l) logX) (shL (nextL l) 0++(placeL (nextL l) bs).2.flatMap frL)).1≠0 then ((0,(appendA (lsyncA pre l D).2 (nameS pre (nextL l) logX) (shL (nextL l) 0++(placeL (nextL l) bs).2.flatMap frL)).1),l,(appendA (lsyncA pre l D).2 (nameS pre (nextL l) logX) (shL (nextL l) 0++(placeL (nextL l) bs).2.flatMap frL)).2)
  else ((nextL l,0),l++[(⟨nextL l,0,[]⟩:SegA).add (placeL (nextL l) bs).2],(appendA (lsyncA pre l D).2 (nameS pre (nextL l) logX) (shL (nextL l) 0++(placeL (nextL l) bs).2.flatMap frL)).2)
def LogA.set (A:LogA) (l:List SegA):LogA:=⟨A.d,A.pre,A.seg,A.gap,l⟩
theorem SegsOk.next:∀ {n:Int} {l:List SegA},0≤n→SegsOk n l→0≤nextL l∧nextL l≤1099511627777
 | _,[],_,_=>⟨by decide,by decide⟩
 | n,[s],hn,⟨h1,h2,_⟩=>by
  have:=reach_le h2
  have:=h2.base
  show 0≤s.reach∧s.reach≤_
  omega
 | n,s::t::l,hn,⟨h1,h2,h3⟩=>by
  have:=h2.base
  have:=SegsOk.next (by omega) h3
  exact this
instance:EncF encB7 0 (.int .i64) (fun b=>b.base):=⟨fun _=>rfl⟩
section
variable {w:World} {l r:List HP} {lg:Nat} {M:LogM} {A:LogA} {D:DiskA} {gap:Int} {a:Nat} {t:SegM}
theorem lgQ_last_open {SM0:List (Nat × SegM)} (h:M.SM=SM0++[(a,t)]) (hs:Sat w (lgQ lg M::l)):okM M.gap M.seg M.pre ∧
  Sat w (segP M.gap a t::pt lg (.cells #[.pointer (some ⟨M.d,0,none⟩),.string M.pre,.int .i64 M.seg,.int .i64 M.gap,.slice M.z.a M.z.len M.z.cap] T.seglog_Log)::slc T.p_seglog_segment 1 M.z ((SM0.map Prod.fst++[a]).flatMap encP)::HP.all (SM0.map fun t=>segP M.gap t.1 t.2)::l):=by
 obtain ⟨hok,hs⟩:=lgQ_open hs
 rw [h] at hs
 have h1:=(hs.pick [2]).all_perm ((List.perm_append_comm (l₁:=SM0) (l₂:=[(a,t)])).map fun t=>segP M.gap t.1 t.2)
 have h2:Sat w (segP M.gap a t::HP.all (SM0.map fun t=>segP M.gap t.1 t.2)::_):=h1.all_cons
 rw [List.map_append] at h2
 exact ⟨hok,h2.pick [0,1,1]⟩
theorem lgQ_last_close (M:LogM) {SM0:List (Nat × SegM)} (hok:okM M.gap M.seg M.pre) (hs:Sat w (segP M.gap a t::pt lg (.cells #[.pointer (some ⟨M.d,0,none⟩),.string M.pre,.int .i64 M.seg,.int .i64 M.gap,.slice M.z.a M.z.len M.z.cap] T.seglog_Log)::slc T.p_seglog_segment 1 M.z ((SM0.map Prod.fst++[a]).flatMap encP)::HP.all (SM0.map fun t=>segP M.gap t.1 t.2)::l)) :
  Sat w (lgQ lg { M with SM:=SM0++[(a,t)] }::l):=by
 have h1:Sat w (HP.all (((a,t)::SM0).map fun t=>segP M.gap t.1 t.2)::_):=(hs.pick [0,2]).all_put
 have h2:=h1.all_perm ((List.perm_append_comm (l₁:=[(a,t)]) (l₂:=SM0)).map fun t=>segP M.gap t.1 t.2)
 refine lgQ_close { M with SM:=SM0++[(a,t)] } hok ?_
 show Sat w (pt lg _::slc T.p_seglog_segment 1 M.z (((SM0++[(a,t)]).map Prod.fst).flatMap encP)::HP.all ((SM0++[(a,t)]).map fun t=>segP M.gap t.1 t.2)::l)
 rw [List.map_append]
 exact h2.pick [1,1]
theorem snoc_of {α:Type} {l:List α} (h:l≠[]):∃ (l0:List α) (x:α),l=l0++[x]:=⟨l.dropLast,l.getLast h,(List.dropLast_concat_getLast h).symm⟩
theorem rdAll_fs {fs:List (Sl × List UInt8)} (h:∀ p ∈ fs,FocR l p.1 1 (p.2.flatMap encU)):RdAll l (fs.map Prod.fst) (fs.map Prod.snd):=rdAll_of (fs:=fs) h
theorem okM.size {g s:Int} {p:ByteArray} (h:okM g s p):p.size≤100:=by
 have:=h.pre
 unfold preS at this
 rw [Bool.and_eq_true,decide_eq_true_eq] at this
 omega
set_option maxHeartbeats 1000000 in
theorem lappend_c (x:Sl) (bs:List BatM) {r1:List HP} [hf:Fo l lgP lg A r1] [hf2:Fo r1 dk A.d D r] (hlen:A.l.length≤1000000) (hok:SegsOk 0 A.l) (hfl:∀ s ∈ A.l,s.file.length≤500000000) (hbl:bs.length≤900)
  (hx:FocR r x 7 (bs.flatMap encB7)) (hbs:∀ b ∈ bs,FocR r b.x 4 (b.rs.flatMap encR)) (hs:Sat w l) :
  Ret P F.seglog_Log_Append #[.pointer (some ⟨lg,0,none⟩),x.v] w fun vs w'=>vs=[.int .i64 (lappA A.pre A.seg A.l D bs).1.1,.int .i64 (lappA A.pre A.seg A.l D bs).1.2] ∧
   Sat w' (lgP lg (A.set (lappA A.pre A.seg A.l D bs).2.1)::dk A.d (lappA A.pre A.seg A.l D bs).2.2::r) :=
 seglog_Log_Append_calls _ x <| by
  unfold seglog_Log_Append
  have hs:=hs.perm (hf.perm.trans (.cons _ hf2.perm))
  clear hf hf2
  obtain ⟨M,rfl,hs⟩:=lgP_open hs
  have hlxs:=hs.slen x (xs:=bs) (enc:=encB7)
  have hMl:M.A.l=M.l:=rfl
  have hMpre:M.A.pre=M.pre:=rfl
  have hMseg:M.A.seg=M.seg:=rfl
  have hMd:M.A.d=M.d:=rfl
  rw [hMl] at hlen hok hfl ⊢
  rw [hMpre,hMseg,hMd]
  rw [hMd] at hs
  have hll:M.l.length=M.SM.length:=List.length_map ..
  have hnx:=hok.next (Int.le_refl 0)
  have hsame:∀ {w:World} {D':DiskA},Sat w (lgQ lg M::dk M.d D'::r)→Sat w (lgP lg (M.A.set M.l)::dk M.d D'::r):=fun hs=>lgP_close M hs
  unfold lappA
  refine wp_ifF ?_ (by simp)
  refine wp_if (fun h=>?_) fun h=>?_
  ·have:bs=[]:=List.length_eq_zero_iff.1 (by omega)
   rw [if_pos this]
   exact ⟨rfl,rfl,hsame hs⟩
  rw [if_neg (by rintro rfl;simp at hlxs;omega)]
  have hx':FocR (dk M.d D::r) x 7 (bs.flatMap encB7):=inferInstance
  refine wp_call (placed_c (lg:=lg) x bs (by omega) (by omega) inferInstance (fun b hb=>by have:=hbs b hb;infer_instance) hs) fun _ w' hs=>?_
  have hplo:=placeL_ok (bs:=bs) (n:=nextL M.l)
  rcases hs with ⟨he,rfl,hs⟩|⟨he,z1,z2,fs,rfl,hfs,hs⟩
  ·refine ret_of ?_
   refine wp_lt ?_
   refine wp_ifT ?_ he
   refine wp_lt ?_
   rw [if_pos he]
   exact ⟨rfl,rfl,hsame hs⟩
  refine ret_of ?_
  refine wp_lt ?_
  refine wp_ifF ?_ (by simp)
  rw [if_neg (by rw [he];simp)]
  obtain ⟨hp1,hp2,hp3⟩:=hplo he
  have hbl0:0<bs.length:=by
   apply Nat.pos_of_ne_zero
   intro h0
   rw [h0] at hlxs
   omega
  generalize hn0:nextL M.l=n0 at *
  generalize hPL:placeL n0 bs=PL at *
  obtain ⟨e0,q⟩:=PL
  have he:e0=0:=he
  subst he
  dsimp only at hp1 hp2 hp3 hfs hs ⊢
  have hsum:=bat_sum fun b hb=>(hp2 b hb).1
  have hfsl:fs.length=q.length:=by have:=congrArg List.length hfs;simpa using this
  have hfl1:=hs.slen z2 (xs:=fs.map Prod.fst) (enc:=encSl)
  rw [List.length_map] at hfl1
  have hfget:∀ (i:Nat) (h:i<fs.length),fs[i].2=frL (q[i]'(by omega)):=fun i h=>by
   have:=List.getElem_of_eq hfs (i:=i) (by rw [List.length_map];exact h)
   simpa using this
  have hfsum:∀ i,((q.take i).flatMap frL).length≤(q.flatMap frL).length:=fun i=>by
   have:(q.flatMap frL)=(q.take i).flatMap frL++(q.drop i).flatMap frL:=by rw [← List.flatMap_append,List.take_append_drop]
   rw [this,List.length_append];omega
  refine wp_mid (fun v w'=>v=(((q.flatMap frL).length:Int),())∧Sat w' (slc T.api_Batch 7 z1 (q.flatMap encB7)::slc T.s_uint8 1 z2 ((fs.map Prod.fst).flatMap encSl)::HP.all (fs.map frP)::lgQ lg M::dk M.d D::r)) ?_ ?_
  ·refine wp_loop (fun m v w=>∃ i:Nat,v=((((q.take i).flatMap frL).length:Int),((i:Int),()))∧i≤q.length∧q.length-i=m∧Sat w (slc T.api_Batch 7 z1 (q.flatMap encB7)::slc T.s_uint8 1 z2 ((fs.map Prod.fst).flatMap encSl)::HP.all (fs.map frP)::lgQ lg M::dk M.d D::r)) q.length ⟨0,rfl,by omega,rfl,hs⟩ ?_
   clear hs
   rintro m _ w ⟨i,rfl,hi,hm,hs⟩
   refine wp_on ?_
   refine wp_if (fun hc=>?_) fun hc=>?_
   rotate_left
   ·refine wp_pass (wp_lv ⟨?_,hs⟩)
    rw [List.take_of_length_le (by omega)]
   have hil:i<q.length:=by omega
   have hil2:i<fs.length:=by omega
   refine wp_ix1 hs (xs:=fs.map Prod.fst) (enc:=encSl) i (by rw [List.length_map];omega) ?_
   have e1:(fs.map Prod.fst)[i]'(by rw [List.length_map];omega)=fs[i].1:=by simp
   rw [e1]
   have hR:FocR (HP.all (fs.map frP)::lgQ lg M::dk M.d D::r) fs[i].1 1 (fs[i].2.flatMap encU):=all_rd (List.getElem_mem hil2)
   have hl2:=hs.slen fs[i].1 (xs:=fs[i].2) (enc:=encU)
   rw [hfget i hil2] at hl2
   have hfi:((q.take (i+1)).flatMap frL).length=((q.take i).flatMap frL).length+(frL q[i]).length:=by
    rw [List.take_succ_eq_append_getElem hil,List.flatMap_append,List.length_append];simp
   have:=hfsum (i+1)
   rw [hl2,w64 (by omega) (by omega)]
   refine wp_lt ?_
   rw [show IntKind.wrap .i64 ((i:Int)+1)=((i+1:Nat):Int) by rw [w64 (by omega) (by omega)];omega]
   have ec:(((q.take i).flatMap frL).length:Int)+((frL q[i]).length:Nat)=(((q.take (i+1)).flatMap frL).length:Int):=by rw [hfi];omega
   rw [ec]
   exact wp_lp (q.length-(i+1)) ⟨i+1,rfl,by omega,rfl,hs⟩
  clear hs
  rintro _ w ⟨rfl,hs⟩
  refine wp_on ?_
  refine wp_call (last_c (lg:=lg) (by omega) hs) fun _ w' hs=>?_
  obtain ⟨rfl,hs⟩:=hs
  refine ret_of ?_
  refine wp_call (fits_l (lg:=lg) (q.flatMap frL).length (by omega) (by omega) (fun s hs'=>by have:=hfl s hs';omega) hs) fun _ w' hs=>?_
  obtain ⟨rfl,hs⟩:=hs
  refine ret_of ?_
  generalize hF:q.flatMap frL=Fr at *
  have hbsl:fs.map Prod.snd=q.map frL:=hfs
  have hflat:(fs.map Prod.snd).flatten=Fr:=by rw [hfs,← hF,List.flatMap]
  have hlbound:∀ p ∈ fs,p.2.length≤262152:=fun p hp=>by
   obtain ⟨i,hi,rfl⟩:=List.mem_iff_getElem.1 hp
   rw [hfget i hi]
   have:=frL_len (hp2 _ (List.getElem_mem (show i<q.length by omega))).1
   have:=batL_len (hp2 _ (List.getElem_mem (show i<q.length by omega))).1
   omega
  refine wp_mid (fun v w'=>∃ (M1:LogM) (SM0:List (Nat × SegM)) (a:Nat) (t:SegM) (D1:DiskA),v=(some ⟨a,0,none⟩,())∧M1.SM=SM0++[(a,t)]∧t.s.file.length≤600000000 ∧
    (if roomy M.seg M.l Fr.length then
     if (appendA D (nameS M.pre (baseL M.l) logX) Fr).1≠0 then ((0,(appendA D (nameS M.pre (baseL M.l) logX) Fr).1),M.l,(appendA D (nameS M.pre (baseL M.l) logX) Fr).2)
     else ((n0,(0:Int)),addLast M.l q,(appendA D (nameS M.pre (baseL M.l) logX) Fr).2)
    else
     if (lsyncA M.pre M.l D).1≠0 then ((0,(lsyncA M.pre M.l D).1),M.l,(lsyncA M.pre M.l D).2) else
     if (appendA (lsyncA M.pre M.l D).2 (nameS M.pre n0 logX) (shL n0 0++Fr)).1≠0 then ((0,(appendA (lsyncA M.pre M.l D).2 (nameS M.pre n0 logX) (shL n0 0++Fr)).1),M.l,(appendA (lsyncA M.pre M.l D).2 (nameS M.pre n0 logX) (shL n0 0++Fr)).2)
     else ((n0,0),M.l++[(⟨n0,0,[]⟩:SegA).add q],(appendA (lsyncA M.pre M.l D).2 (nameS M.pre n0 logX) (shL n0 0++Fr)).2))=((n0,0),(SM0.map fun t=>t.2.s)++[t.s.add q],D1) ∧
    (M1.d=M.d∧M1.pre=M.pre∧M1.seg=M.seg∧M1.gap=M.gap) ∧
    Sat w' (lgQ lg M1::dk M.d D1::slc T.api_Batch 7 z1 (q.flatMap encB7)::slc T.s_uint8 1 z2 ((fs.map Prod.fst).flatMap encSl)::HP.all (fs.map frP)::r)) ?_ ?_
  ·refine wp_if (fun hr=>?_) fun hr=>?_
   ·
    have hr:roomy M.seg M.l Fr.length=false:=by simpa using hr
    rw [if_neg (by rw [hr];simp)]
    have hs:Sat w' (lgQ lg M::slc T.api_Batch 7 z1 (q.flatMap encB7)::slc T.s_uint8 1 z2 ((fs.map Prod.fst).flatMap encSl)::HP.all (fs.map frP)::dk M.d D::r):=hs
    refine wp_call (lsync_c (lg:=lg) (D:=D) (by omega) hok hs) fun _ w' hs=>?_
    obtain ⟨rfl,hs⟩:=hs
    refine ret_of ?_
    refine wp_lt ?_
    refine wp_if (fun h2=>?_) fun h2=>?_
    ·refine wp_lt ?_
     rw [if_pos h2]
     refine wp_pass ⟨rfl,rfl,hsame hs.sub⟩
    rw [if_neg h2]
    generalize (lsyncA M.pre M.l D).2=D1 at *
    refine wp_call (lnext_c (lg:=lg) (by omega) hs) fun _ w' hs=>?_
    obtain ⟨rfl,hs⟩:=hs
    refine ret_of ?_
    rw [hn0]
    refine wp_call (newseg_c (lg:=lg) n0 0 (by omega) (by omega) hs) fun _ w' hs=>?_
    obtain ⟨a,ix,rfl,hs⟩:=hs
    refine ret_of ?_
    have hshl:=shL_len n0 0
    refine wp_mid (fun v w'=>v=((appendA D1 (nameS M.pre n0 logX) (shL n0 0++Fr)).1,())∧Sat w' (segP M.gap a ⟨ix,⟨n0,0,[]⟩⟩::lgQ lg M::dk M.d (appendA D1 (nameS M.pre n0 logX) (shL n0 0++Fr)).2::slc T.api_Batch 7 z1 (q.flatMap encB7)::slc T.s_uint8 1 z2 ((fs.map Prod.fst).flatMap encSl)::HP.all (fs.map frP)::r)) ?_ ?_
    ·obtain ⟨hokm,hs⟩:=lgQ_open (hs.pick [1])
     have hs:=seg_open (hs.pick [3])
     refine wp_tk hs fun w' hs=>?_
     refine wp_nn ?_
     refine wp_hdO hs ?_
     refine wp_nn ?_
     refine wp_ldO hs ?_
     refine wp_nn ?_
     refine wp_hdO hs ?_
     refine wp_call (name_c0 (lg:=lg) n0 (by omega) (ByteArray.mk #[46,108,111,103]) (by decide) M.pre hokm.size hs) fun _ w' hs=>?_
     obtain ⟨rfl,hs⟩:=hs
     refine ret_of ?_ (by first|trivial|(repeat (first|exact trivial|exact fun _=>run_ldO hs|exact fun _=>run_ldG hs|refine And.intro ?_ ?_)))
     refine wp_call (head_c n0 0 (by omega) (by omega) hs) fun _ w' hs=>?_
     obtain ⟨y,rfl,hs⟩:=hs
     refine ret_of ?_ (by first|trivial|(repeat (first|exact trivial|exact fun _=>run_ldO hs|exact fun _=>run_ldG hs|refine And.intro ?_ ?_)))
     refine wp_litS hs (enc:=encSl) [y] fun y2 w' hs=>⟨(by first|trivial|(repeat (first|exact trivial|exact fun _=>run_ldO hs|exact fun _=>run_ldG hs|refine And.intro ?_ ?_))),?_⟩
     refine wp_app2 (xs:=[y]) (ys:=fs.map Prod.fst) (enc:=encSl) hs (fun y3 w' hs=>⟨(by first|trivial|(repeat (first|exact trivial|exact fun _=>run_ldO hs|exact fun _=>run_ldG hs|refine And.intro ?_ ?_))),?_⟩) (by rw [List.length_map];simp only [List.length_cons,List.length_nil];omega)
     refine wp_untick ?_
     have hs:Sat w' (dk M.d D1::slc T.s_uint8 1 y3 (([y]++fs.map Prod.fst).flatMap encSl)::slc T.uint8 1 y ((shL n0 0).flatMap encU)::HP.all (fs.map frP)::pt a (.cells #[.pointer (some ⟨ix,0,none⟩),.int .i64 n0,.int .i64 0,.int .i64 (nextG []),.int .i64 (lateG (-1) []),.int .i64 ((SegA.file ⟨n0,0,[]⟩).length:Nat)] T.seglog_segment)::idxP ix ((SegA.mk n0 0 []).idx M.gap)::pt lg (.cells #[.pointer (some ⟨M.d,0,none⟩),.string M.pre,.int .i64 M.seg,.int .i64 M.gap,.slice M.z.a M.z.len M.z.cap] T.seglog_Log)::slc T.p_seglog_segment 1 M.z ((M.SM.map Prod.fst).flatMap encP)::HP.all (M.SM.map fun t=>segP M.gap t.1 t.2)::slc T.api_Batch 7 z1 (q.flatMap encB7)::slc T.s_uint8 1 z2 ((fs.map Prod.fst).flatMap encSl)::r):=hs.sub
     have hall:∀ p ∈ ((y,shL n0 0)::fs),FocR (slc T.s_uint8 1 y3 (([y]++fs.map Prod.fst).flatMap encSl)::slc T.uint8 1 y ((shL n0 0).flatMap encU)::HP.all (fs.map frP)::pt a (.cells #[.pointer (some ⟨ix,0,none⟩),.int .i64 n0,.int .i64 0,.int .i64 (nextG []),.int .i64 (lateG (-1) []),.int .i64 ((SegA.file ⟨n0,0,[]⟩).length:Nat)] T.seglog_segment)::idxP ix ((SegA.mk n0 0 []).idx M.gap)::pt lg (.cells #[.pointer (some ⟨M.d,0,none⟩),.string M.pre,.int .i64 M.seg,.int .i64 M.gap,.slice M.z.a M.z.len M.z.cap] T.seglog_Log)::slc T.p_seglog_segment 1 M.z ((M.SM.map Prod.fst).flatMap encP)::HP.all (M.SM.map fun t=>segP M.gap t.1 t.2)::slc T.api_Batch 7 z1 (q.flatMap encB7)::slc T.s_uint8 1 z2 ((fs.map Prod.fst).flatMap encSl)::r) p.1 1 (p.2.flatMap encU):=fun p hp=>by
      rcases List.mem_cons.1 hp with rfl|hp
      ·infer_instance
      ·have:FocR (HP.all (fs.map frP)::pt a (.cells #[.pointer (some ⟨ix,0,none⟩),.int .i64 n0,.int .i64 0,.int .i64 (nextG []),.int .i64 (lateG (-1) []),.int .i64 ((SegA.file ⟨n0,0,[]⟩).length:Nat)] T.seglog_segment)::idxP ix ((SegA.mk n0 0 []).idx M.gap)::pt lg (.cells #[.pointer (some ⟨M.d,0,none⟩),.string M.pre,.int .i64 M.seg,.int .i64 M.gap,.slice M.z.a M.z.len M.z.cap] T.seglog_Log)::slc T.p_seglog_segment 1 M.z ((M.SM.map Prod.fst).flatMap encP)::HP.all (M.SM.map fun t=>segP M.gap t.1 t.2)::slc T.api_Batch 7 z1 (q.flatMap encB7)::slc T.s_uint8 1 z2 ((fs.map Prod.fst).flatMap encSl)::r) p.1 1 (p.2.flatMap encU):=all_rd hp
       infer_instance
     have hpsF:FocR (slc T.s_uint8 1 y3 (([y]++fs.map Prod.fst).flatMap encSl)::slc T.uint8 1 y ((shL n0 0).flatMap encU)::HP.all (fs.map frP)::pt a (.cells #[.pointer (some ⟨ix,0,none⟩),.int .i64 n0,.int .i64 0,.int .i64 (nextG []),.int .i64 (lateG (-1) []),.int .i64 ((SegA.file ⟨n0,0,[]⟩).length:Nat)] T.seglog_segment)::idxP ix ((SegA.mk n0 0 []).idx M.gap)::pt lg (.cells #[.pointer (some ⟨M.d,0,none⟩),.string M.pre,.int .i64 M.seg,.int .i64 M.gap,.slice M.z.a M.z.len M.z.cap] T.seglog_Log)::slc T.p_seglog_segment 1 M.z ((M.SM.map Prod.fst).flatMap encP)::HP.all (M.SM.map fun t=>segP M.gap t.1 t.2)::slc T.api_Batch 7 z1 (q.flatMap encB7)::slc T.s_uint8 1 z2 ((fs.map Prod.fst).flatMap encSl)::r) y3 1 ((((y,shL n0 0)::fs).map Prod.fst).flatMap encL):=(inferInstance:FocR _ y3 1 (([y]++fs.map Prod.fst).flatMap encSl))
     refine wp_call (append_c (d:=M.d) (A:=D1) (nameS M.pre n0 (bl (ByteArray.mk #[46,108,111,103]))) y3 (((y,shL n0 0)::fs).map Prod.fst) (((y,shL n0 0)::fs).map Prod.snd) (hps:=hpsF) (rdAll_fs hall) (by simp only [List.length_map,List.length_cons];omega) (fun b hb=>?_) hs) fun _ w' hs=>?_
     ·obtain ⟨p,hp,rfl⟩:=List.mem_map.1 hb
      rcases List.mem_cons.1 hp with rfl|hp
      ·show (shL n0 0).length≤_;omega
      ·have:=hlbound p hp;omega
     obtain ⟨rfl,hs⟩:=hs
     refine ret_of ?_
     refine wp_lt ?_
     refine wp_untick ?_
     have e2:(((y,shL n0 0)::fs).map Prod.snd).flatten=shL n0 0++Fr:=by rw [List.map_cons,List.flatten_cons,hflat]
     rw [e2] at hs ⊢
     refine wp_lv ⟨rfl,?_⟩
     have hs:Sat w' (dk M.d (appendA D1 (nameS M.pre n0 logX) (shL n0 0++Fr)).2::slc T.s_uint8 1 y3 _::slc T.uint8 1 y _::HP.all (fs.map frP)::pt a _::idxP ix _::pt lg _::slc T.p_seglog_segment 1 M.z _::HP.all (M.SM.map fun t=>segP M.gap t.1 t.2)::slc T.api_Batch 7 z1 (q.flatMap encB7)::slc T.s_uint8 1 z2 ((fs.map Prod.fst).flatMap encSl)::r):=hs
     have hs:=lgQ_close M hokm (hs.pick [6,6,6])
     have hs:Sat w' (segP M.gap a ⟨ix,⟨n0,0,[]⟩⟩::lgQ lg M::dk M.d _::slc T.s_uint8 1 y3 _::slc T.uint8 1 y _::HP.all (fs.map frP)::slc T.api_Batch 7 z1 (q.flatMap encB7)::slc T.s_uint8 1 z2 ((fs.map Prod.fst).flatMap encSl)::r):=seg_close ⟨ix,⟨n0,0,[]⟩⟩ (hs.pick [5,5])
     exact hs.sub
    rintro _ w2 ⟨rfl,hs⟩
    refine wp_if (fun h3=>?_) fun h3=>?_
    ·refine wp_lt ?_
     rw [if_pos h3]
     refine wp_pass ⟨rfl,rfl,hsame hs.sub⟩
    rw [if_neg h3]
    have hs:=hs.pick [1]
    refine wp_call (put_c (lg:=lg) a ⟨ix,⟨n0,0,[]⟩⟩ (by omega) hs) fun _ w' hs=>?_
    obtain ⟨z,rfl,hs⟩:=hs
    refine ret_of ?_
    refine wp_lv ⟨{ M with z:=z,SM:=M.SM++[(a,⟨ix,⟨n0,0,[]⟩⟩)] },M.SM,a,⟨ix,⟨n0,0,[]⟩⟩,(appendA D1 (nameS M.pre n0 logX) (shL n0 0++Fr)).2,rfl,rfl,?_,rfl,⟨rfl,rfl,rfl,rfl⟩,hs⟩
    rw [file_len]
    simp only [List.flatMap_nil,List.length_nil]
    omega
   ·
    have hr:roomy M.seg M.l Fr.length=true:=by simpa using hr
    rw [if_pos hr]
    have h0:M.SM≠[]:=by
     intro h0
     have:M.l=[]:=by unfold LogM.l;rw [h0];rfl
     rw [this] at hr
     cases hr
    obtain ⟨SM0,⟨a,t⟩,hSM⟩:=snoc_of h0
    have hl1:M.l=SM0.map (fun t=>t.2.s)++[t.s]:=by unfold LogM.l;rw [hSM];simp
    have hbase:baseL M.l=t.s.base:=by unfold baseL;rw [hl1,getLast_snoc]
    have hadd:addLast M.l q=SM0.map (fun t=>t.2.s)++[t.s.add q]:=by unfold addLast;rw [hl1,getLast_snoc];simp
    have hlst:M.SM.getLast? = some (a,t):=by rw [hSM,getLast_snoc]
    rw [hlst]
    have htm:t.s ∈ M.l:=by rw [hl1];simp
    have htb:=(hok.mem _ htm).1.base
    have htf:=hfl _ htm
    refine wp_mid (fun v w'=>v=((appendA D (nameS M.pre (baseL M.l) logX) Fr).1,())∧Sat w' (lgQ lg M::dk M.d (appendA D (nameS M.pre (baseL M.l) logX) Fr).2::slc T.api_Batch 7 z1 (q.flatMap encB7)::slc T.s_uint8 1 z2 ((fs.map Prod.fst).flatMap encSl)::HP.all (fs.map frP)::r)) ?_ ?_
    ·obtain ⟨hokm,hs⟩:=lgQ_last_open hSM hs
     have hs:=seg_open hs
     refine wp_tk hs fun w' hs=>?_
     refine wp_nn ?_
     refine wp_hdO hs ?_
     refine wp_nn ?_
     refine wp_ldO hs ?_
     refine wp_call (name_c0 (lg:=lg) t.s.base (by omega) (ByteArray.mk #[46,108,111,103]) (by decide) M.pre hokm.size hs) fun _ w' hs=>?_
     obtain ⟨rfl,hs⟩:=hs
     refine ret_of ?_ (by first|trivial|(repeat (first|exact trivial|exact fun _=>run_ldO hs|exact fun _=>run_ldG hs|refine And.intro ?_ ?_)))
     refine wp_untick ?_
     have hs:=hs.pick [8]
     have hall:∀ p ∈ fs,FocR (pt a (.cells #[.pointer (some ⟨t.ix,0,none⟩),.int .i64 t.s.base,.int .i64 t.s.fin,.int .i64 (nextG t.s.bs),.int .i64 (lateG (-1) t.s.bs),.int .i64 (t.s.file.length:Nat)] T.seglog_segment)::idxP t.ix (t.s.idx M.gap)::pt lg (.cells #[.pointer (some ⟨M.d,0,none⟩),.string M.pre,.int .i64 M.seg,.int .i64 M.gap,.slice M.z.a M.z.len M.z.cap] T.seglog_Log)::slc T.p_seglog_segment 1 M.z ((SM0.map Prod.fst++[a]).flatMap encP)::HP.all (SM0.map fun t=>segP M.gap t.1 t.2)::slc T.api_Batch 7 z1 (q.flatMap encB7)::slc T.s_uint8 1 z2 ((fs.map Prod.fst).flatMap encSl)::HP.all (fs.map frP)::r) p.1 1 (p.2.flatMap encU):=fun p hp=>by
      have:FocR (HP.all (fs.map frP)::r) p.1 1 (p.2.flatMap encU):=all_rd hp
      infer_instance
     have hpsF:FocR (pt a (.cells #[.pointer (some ⟨t.ix,0,none⟩),.int .i64 t.s.base,.int .i64 t.s.fin,.int .i64 (nextG t.s.bs),.int .i64 (lateG (-1) t.s.bs),.int .i64 (t.s.file.length:Nat)] T.seglog_segment)::idxP t.ix (t.s.idx M.gap)::pt lg (.cells #[.pointer (some ⟨M.d,0,none⟩),.string M.pre,.int .i64 M.seg,.int .i64 M.gap,.slice M.z.a M.z.len M.z.cap] T.seglog_Log)::slc T.p_seglog_segment 1 M.z ((SM0.map Prod.fst++[a]).flatMap encP)::HP.all (SM0.map fun t=>segP M.gap t.1 t.2)::slc T.api_Batch 7 z1 (q.flatMap encB7)::slc T.s_uint8 1 z2 ((fs.map Prod.fst).flatMap encSl)::HP.all (fs.map frP)::r) z2 1 ((fs.map Prod.fst).flatMap encL):=(inferInstance:FocR _ z2 1 ((fs.map Prod.fst).flatMap encSl))
     refine wp_call (append_c (d:=M.d) (A:=D) (nameS M.pre t.s.base (bl (ByteArray.mk #[46,108,111,103]))) z2 (fs.map Prod.fst) (fs.map Prod.snd) (hps:=hpsF) (rdAll_fs hall) (by simp only [List.length_map];omega) (fun b hb=>?_) hs) fun _ w' hs=>?_
     ·obtain ⟨p,hp,rfl⟩:=List.mem_map.1 hb
      have:=hlbound p hp;omega
     obtain ⟨rfl,hs⟩:=hs
     refine ret_of ?_
     refine wp_lt ?_
     refine wp_untick ?_
     rw [hflat] at hs ⊢
     refine wp_lv ⟨by rw [hbase];rfl,?_⟩
     rw [hbase]
     have hs:Sat w' (dk M.d (appendA D (nameS M.pre t.s.base logX) Fr).2::pt a _::idxP t.ix _::pt lg _::slc T.p_seglog_segment 1 M.z _::HP.all (SM0.map fun t=>segP M.gap t.1 t.2)::slc T.api_Batch 7 z1 (q.flatMap encB7)::slc T.s_uint8 1 z2 ((fs.map Prod.fst).flatMap encSl)::HP.all (fs.map frP)::r):=hs
     have hs:=lgQ_last_close M hokm (seg_close t (hs.pick [1,1]) |>.pick [0,1,1,1])
     have e:{ M with SM:=SM0++[(a,t)] }=M:=by rw [← hSM]
     rw [e] at hs
     exact hs.sub
    rintro _ w2 ⟨rfl,hs⟩
    refine wp_if (fun h3=>?_) fun h3=>?_
    ·refine wp_lt ?_
     rw [if_pos h3]
     refine wp_pass ⟨rfl,rfl,hsame hs.sub⟩
    rw [if_neg h3]
    refine wp_lv ⟨M,SM0,a,t,(appendA D (nameS M.pre (baseL M.l) logX) Fr).2,rfl,hSM,by omega,by rw [hadd],⟨rfl,rfl,rfl,rfl⟩,hs⟩
  rintro _ w2 ⟨M1,SM0,a,t,D1,rfl,hSM,htl,hres,⟨hd1,hd2,hd3,hd4⟩,hs⟩
  clear hsame
  rw [hres]
  obtain ⟨hokm,hs⟩:=lgQ_last_open hSM hs
  have hF2:∀ i,((q.take i).flatMap frL).length≤Fr.length:=hfsum
  have hlq:=hs.slen z1 (xs:=q) (enc:=encB7)
  refine wp_mid (fun _ w'=>Sat w' (segP M1.gap a ⟨t.ix,t.s.add q⟩::pt lg (.cells #[.pointer (some ⟨M1.d,0,none⟩),.string M1.pre,.int .i64 M1.seg,.int .i64 M1.gap,.slice M1.z.a M1.z.len M1.z.cap] T.seglog_Log)::slc T.p_seglog_segment 1 M1.z ((SM0.map Prod.fst++[a]).flatMap encP)::HP.all (SM0.map fun t=>segP M1.gap t.1 t.2)::dk M.d D1::slc T.api_Batch 7 z1 (q.flatMap encB7)::slc T.s_uint8 1 z2 ((fs.map Prod.fst).flatMap encSl)::HP.all (fs.map frP)::r)) ?_ ?_
  ·refine wp_loop (fun m v w=>∃ i:Nat,v=((i:Int),())∧i≤q.length∧q.length-i=m∧Sat w (segP M1.gap a ⟨t.ix,t.s.add (q.take i)⟩::pt lg (.cells #[.pointer (some ⟨M1.d,0,none⟩),.string M1.pre,.int .i64 M1.seg,.int .i64 M1.gap,.slice M1.z.a M1.z.len M1.z.cap] T.seglog_Log)::slc T.p_seglog_segment 1 M1.z ((SM0.map Prod.fst++[a]).flatMap encP)::HP.all (SM0.map fun t=>segP M1.gap t.1 t.2)::dk M.d D1::slc T.api_Batch 7 z1 (q.flatMap encB7)::slc T.s_uint8 1 z2 ((fs.map Prod.fst).flatMap encSl)::HP.all (fs.map frP)::r)) q.length ⟨0,rfl,by omega,rfl,by rw [List.take_zero,add_nil];exact hs⟩ ?_
   clear hs
   rintro m _ w ⟨i,rfl,hi,hm,hs⟩
   refine wp_on ?_
   refine wp_if (fun hc=>?_) fun hc=>?_
   rotate_left
   ·refine wp_pass (wp_lv ?_)
    rwa [List.take_of_length_le (by omega)] at hs
   have hil:i<q.length:=by omega
   have hil2:i<fs.length:=by omega
   refine wp_ixA hs (xs:=q) (enc:=encB7) i hil ?_
   refine wp_newO hs fun c w' hs=>?_
   refine wp_lt ?_
   refine wp_stG hs fun w' hs=>?_
   refine wp_tk hs fun w' hs=>?_
   refine wp_ldG hs ?_
   refine wp_ix1 hs (xs:=fs.map Prod.fst) (enc:=encSl) i (by rw [List.length_map];omega) ?_
   have e1:(fs.map Prod.fst)[i]'(by rw [List.length_map];omega)=fs[i].1:=by simp
   rw [e1]
   have hR:FocR (HP.all (fs.map frP)::r) fs[i].1 1 (fs[i].2.flatMap encU):=all_rd (List.getElem_mem hil2)
   have hl2:=hs.slen fs[i].1 (xs:=fs[i].2) (enc:=encU)
   rw [hfget i hil2] at hl2
   rw [hl2]
   obtain ⟨hvq,c0,hc0,hcx,hcr⟩:=hp2 q[i] (List.getElem_mem hil)
   have hRb:FocR r q[i].x 4 (q[i].rs.flatMap encR):=by rw [hcx,hcr];exact hbs c0 hc0
   have hfi:((q.take (i+1)).flatMap frL).length=((q.take i).flatMap frL).length+(frL q[i]).length:=by
    rw [List.take_succ_eq_append_getElem hil,List.flatMap_append,List.length_append];simp
   have:=hF2 (i+1)
   refine wp_call (take_c (gap:=M1.gap) (a:=a) q[i] hvq (by show (t.s.add (q.take i)).file.length+_≤_;rw [file_add,List.length_append];omega) hs) fun _ w' hs=>?_
   obtain ⟨rfl,hs⟩:=hs
   refine ret_of ?_
   refine wp_untick ?_
   rw [show IntKind.wrap .i64 ((i:Int)+1)=((i+1:Nat):Int) by rw [w64 (by omega) (by omega)];omega]
   refine wp_lp (q.length-(i+1)) ⟨i+1,rfl,by omega,rfl,?_⟩
   have e2:(t.s.add (q.take i)).add [q[i]]=t.s.add (q.take (i+1)):=by rw [add_add,List.take_succ_eq_append_getElem hil]
   have hs:Sat w' (segP M1.gap a ⟨t.ix,(t.s.add (q.take i)).add [q[i]]⟩::_):=hs
   rw [e2] at hs
   exact hs.sub
  clear hs
  rintro _ w3 hs
  refine wp_on ?_
  refine wp_ixF0 hs (xs:=q) (enc:=encB7) 0 (by omega) ?_
  refine wp_lt ?_
  have hq0:(q[0]'(by omega)).base=n0:=hp3 _ (by rw [List.head?_eq_getElem?,List.getElem?_eq_getElem])
  rw [hq0]
  refine ⟨rfl,rfl,?_⟩
  have hs:=lgP_close _ (lgQ_last_close M1 hokm hs)
  have eA:LogM.A { M1 with SM:=SM0++[(a,(⟨t.ix,t.s.add q⟩:SegM))] }=M.A.set ((SM0.map fun t=>t.2.s)++[t.s.add q]):=by
   unfold LogM.A LogM.l LogA.set
   simp only [List.map_append,List.map_cons,List.map_nil,hd1,hd2,hd3,hd4]
  rw [eA] at hs
  exact hs.sub
end
set_option linter.unusedVariables false
set_option linter.unusedSimpArgs false
section
variable {w:World} {l r:List HP} {lg:Nat} {M:LogM} {A:LogA} {D:DiskA} {gap:Int} {a:Nat} {t:SegM}
theorem wp_exF {P:Program} {Q:Post} {S:World→Prop} {c:Addr→Prop} {f:Addr→Prog} (hc:c ⟨0,0,none⟩) (h:(f ⟨0,0,none⟩).wp P S w Q):(Prog.ex [.adr] (c1 c) (u1 f)).wp P S w Q:=⟨(⟨0,0,none⟩,()),hc,h⟩
theorem wp_ix1k {P:Program} {Q:Post} {S:World→Prop} {α:Type} {enc:α→List Value} {xs:List α} {sz m:Nat} {ii:Int} {x:Sl} {T:TypeId} {g g':Prop} {p:Pr} {dec:α→p.D} {f:p.D→Prog} (hs:Sat w l) [hf:FocR l x sz (xs.flatMap enc)] [hE:EncN enc sz] [hD:Enc1 enc p dec] [hT:One P T]
  (n:Nat) (hn:n<xs.length) (h:(f (dec xs[n])).wp P S w Q) (hm:m=n*sz:=by rfl) (hi:ii=n:=by rfl) :
  (Prog.ex [.adr] (c1 fun a=>g→(0:Int)≤ii∧ii<((x.len:Nat):Int)∧x.a=some a) (u1 fun a=>.read g' (ld T (Addr.add a m)) (.one (.one p)) (u1 f))).wp P S w Q:=by
 subst hm hi
 have hr:=hf.rd w hs
 have hl:x.len=xs.length:=hr.len hE.len hE.pos
 obtain ⟨a,ha,he⟩:=hr.el hE.len (by omega)
 refine ⟨(a,()),fun _=>⟨by omega,by omega,ha⟩,(dec xs[n],()),fun _=>?_,h⟩
 have:=he n hn
 rw [hD.ok] at this
 have h2:=At.ld1 (P:=P) (T:=T) this rfl
 cases p <;> exact h2
end
set_option linter.unusedVariables false
set_option linter.unusedSimpArgs false
def allB (l:List SegA):List BatM:=l.flatMap SegA.bs
theorem BsOk.lt:∀ {n:Int} {bs:List BatM},BsOk n bs→∀ (j i:Nat) (hi:i<bs.length) (hj:j<i),n≤(bs[j]'(by omega)).base∧(bs[j]'(by omega)).base+spanB (bs[j]'(by omega))≤bs[i].base
 | n,b::bs,⟨h1,h2,h3,h4⟩,0,i+1,hi,hj=>by
  refine ⟨h3,?_⟩
  simp only [List.getElem_cons_zero,List.getElem_cons_succ]
  have hi:i<bs.length:=by simpa using hi
  obtain ⟨s1,-,-,-,-⟩:=span_le b h1
  cases i with
  | zero =>
   cases bs with
   | nil=>simp at hi
   | cons c cs=>exact h4.2.2.1
  | succ i =>
   have:=(h4.lt 0 (i+1) hi (by omega)).1
   have h5:=(h4.lt 0 (i+1) hi (by omega)).2
   obtain ⟨s2,-,-,-,-⟩:=span_le _ (h4.valid _ (List.getElem_mem (show 0<bs.length by omega))).1
   omega
 | n,b::bs,⟨h1,h2,h3,h4⟩,j+1,i+1,hi,hj=>by
  simp only [List.getElem_cons_succ]
  have hi:i<bs.length:=by simpa using hi
  have:=h4.lt j i hi (by omega)
  obtain ⟨s1,-,-,-,-⟩:=span_le b h1
  exact ⟨by omega,this.2⟩
theorem BsOk.le_next {n:Int} {bs:List BatM} (h:BsOk n bs) {b:BatM} (hb:b ∈ bs):b.base+spanB b≤nextG bs:=by
 obtain ⟨j,hj,rfl⟩:=List.mem_iff_getElem.1 hb
 have hne:bs≠[]:=by rintro rfl;simp at hj
 have e:nextG bs=(bs[bs.length-1]'(by omega)).base+spanB (bs[bs.length-1]'(by omega)):=by
  unfold nextG
  rw [List.getLast?_eq_getElem?,List.getElem?_eq_getElem (by omega)]
 rw [e]
 by_cases hjl:j=bs.length-1
 ·subst hjl;exact Int.le_refl _
 ·have:=(h.lt j (bs.length-1) (by omega) (by omega)).2
  obtain ⟨s1,-,-,-,-⟩:=span_le _ (h.valid _ (List.getElem_mem (show bs.length-1<bs.length by omega))).1
  omega
theorem SegsOk.skip:∀ {n:Int} {l:List SegA},SegsOk n l→∀ (i j:Nat) (hj:j<l.length) (hi:i<j),(l[i]'(by omega)).reach≤l[j].base∧(l[i]'(by omega)).base<l[j].base
 | n,s::l,⟨h1,h2,h3⟩,0,j+1,hj,_=>by
  have hj:j<l.length:=by simpa using hj
  have:=(h3.mem l[j] (List.getElem_mem hj)).2
  simp only [List.getElem_cons_zero,List.getElem_cons_succ]
  omega
 | n,s::l,⟨h1,h2,h3⟩,i+1,j+1,hj,hi=>by
  simp only [List.getElem_cons_succ]
  exact h3.skip i j (by simpa using hj) (by omega)
theorem file_bs {s:SegA} (h:SegOk s):s.bs.length*10≤s.file.length:=by
 have:=flat_frL_len h.bs
 rw [file_len];omega
set_option linter.unusedVariables false
set_option linter.unusedSimpArgs false
def filesL (pre:ByteArray):List ByteArray→DiskA→Int × List Int × DiskA
 | [],D=>(0,[],D)
 | n::ns,D=>if (baseN pre n newX).isSome=true∧(remA D n).1≠0 then ((remA D n).1,[],(remA D n).2) else
  ((filesL pre ns (if (baseN pre n newX).isSome then (remA D n).2 else D)).1,(match baseN pre n logX with|some b=>[(b:Int)]|none=>[])++(filesL pre ns (if (baseN pre n newX).isSome then (remA D n).2 else D)).2.1,(filesL pre ns (if (baseN pre n newX).isSome then (remA D n).2 else D)).2.2)
def dropL (pre:ByteArray):List Int→DiskA→Int × DiskA
 | [],D=>(0,D)
 | b::bs,D=>if (remA D (nameS pre b logX)).1≠0 then remA D (nameS pre b logX) else dropL pre bs (remA D (nameS pre b logX)).2
def scanA (pre:ByteArray) (l:List SegA) (D:DiskA) (base:Int):(Bool × Int) × List SegA × DiskA:=match fileD D.fs (nameS pre base logX) with
 | none=>((false,3),l,D)
 | some p=>match scanL base p.1 with
  | none=>((false,(remA D (nameS pre base logX)).1),l,(remA D (nameS pre base logX)).2)
  | some q=>if q.2=p.1.length then ((true,0),l++[q.1],D) else ((false,(cutA' D (nameS pre base logX) (q.2:Nat)).1),l++[q.1],(cutA' D (nameS pre base logX) (q.2:Nat)).2)
def openS (pre:ByteArray):List Int→List SegA→DiskA→Int × List SegA × DiskA
 | [],l,D=>(0,l,D)
 | b::bs,l,D=>if b<nextL l then (if (remA D (nameS pre b logX)).1≠0 then ((remA D (nameS pre b logX)).1,l,(remA D (nameS pre b logX)).2) else openS pre bs l (remA D (nameS pre b logX)).2) else
  if (scanA pre l D b).1.2≠0 then ((scanA pre l D b).1.2,(scanA pre l D b).2) else
  if (scanA pre l D b).1.1=true then openS pre bs (scanA pre l D b).2.1 (scanA pre l D b).2.2 else ((dropL pre bs (scanA pre l D b).2.2).1,(scanA pre l D b).2.1,(dropL pre bs (scanA pre l D b).2.2).2)
def lopenA (pre:ByteArray) (D:DiskA):Int × List SegA × DiskA :=
 if (filesL pre (namesF (dashN pre) D.fs) D).1≠0 then ((filesL pre (namesF (dashN pre) D.fs) D).1,[],(filesL pre (namesF (dashN pre) D.fs) D).2.2) else
  openS pre (filesL pre (namesF (dashN pre) D.fs) D).2.1 [] (filesL pre (namesF (dashN pre) D.fs) D).2.2
theorem dash_eq (pre:ByteArray):pre++ByteArray.mk #[45]=dashN pre:=by
 apply bl_ext
 rw [bl_dash]
 unfold bl
 simp
theorem baseN_lt {pre n:ByteArray} {x:List UInt8} {v:Nat} (h:baseN pre n x=some v):v<17592186044416:=by
 unfold baseN at h
 split at h
 ·have:=hexV_lt (k:=0) h (by omega)
  have h2:16 ^ (0+(((bl n).drop ((bl pre).length+1)).take 11).length)≤16 ^ 11:=Nat.pow_le_pow_right (by omega) (by rw [List.length_take];omega)
  omega
 ·cases h
theorem filesL_lt {pre:ByteArray}:∀ {ns:List ByteArray} {D:DiskA},∀ b ∈ (filesL pre ns D).2.1,0≤b∧b<17592186044416
 | [],D,b,h=>by cases h
 | n::ns,D,b,h=>by
  unfold filesL at h
  split at h
  ·cases h
  ·simp only at h
   rcases List.mem_append.1 h with h|h
   ·cases hb:baseN pre n logX with
    | none=>rw [hb] at h;cases h
    | some v =>
     rw [hb] at h
     simp only [List.mem_cons,List.not_mem_nil,or_false] at h
     have:=baseN_lt hb
     omega
   ·exact filesL_lt b h
theorem filesL_len {pre:ByteArray}:∀ {ns:List ByteArray} {D:DiskA},(filesL pre ns D).2.1.length≤ns.length
 | [],D=>Nat.le_refl _
 | n::ns,D=>by
  unfold filesL
  split
  ·exact Nat.zero_le _
  ·simp only [List.length_append,List.length_cons]
   have:=filesL_len (pre:=pre) (ns:=ns) (D:=if (baseN pre n newX).isSome then (remA D n).2 else D)
   split <;> simp <;> omega
section
variable {w:World} {l r:List HP} {lg:Nat} {M:LogM} {A:LogA} {D:DiskA} {gap:Int} {a:Nat} {t:SegM}
def lgR (M:LogM):HP:=HP.star (slc T.p_seglog_segment 1 M.z ((M.SM.map Prod.fst).flatMap encP)) (HP.all (M.SM.map fun t=>segP M.gap t.1 t.2))
theorem lgQ_cell (hs:Sat w (lgQ lg M::l)):okM M.gap M.seg M.pre∧Sat w (pt lg (.cells #[.pointer (some ⟨M.d,0,none⟩),.string M.pre,.int .i64 M.seg,.int .i64 M.gap,.slice M.z.a M.z.len M.z.cap] T.seglog_Log)::lgR M::l):=by
 obtain ⟨h,hs⟩:=hs.and
 exact ⟨h,hs.star⟩
theorem lgQ_uncell (M:LogM) (h:okM M.gap M.seg M.pre) (hs:Sat w (pt lg (.cells #[.pointer (some ⟨M.d,0,none⟩),.string M.pre,.int .i64 M.seg,.int .i64 M.gap,.slice M.z.a M.z.len M.z.cap] T.seglog_Log)::lgR M::l)):Sat w (lgQ lg M::l):=.and_mk h (.star_mk hs)
theorem files_c {r1:List HP} [hf:Fo l lgQ lg M r1] [hf2:Fo r1 dk M.d D r] (hs:Sat w l) :
  Ret P F.seglog_Log_files #[.pointer (some ⟨lg,0,none⟩)] w fun vs w' =>
   ((filesL M.pre (namesF (dashN M.pre) D.fs) D).1≠0∧vs=[.slice none 0 0,.int .i64 (filesL M.pre (namesF (dashN M.pre) D.fs) D).1]∧Sat w' (lgQ lg M::dk M.d (filesL M.pre (namesF (dashN M.pre) D.fs) D).2.2::r)) ∨
   ((filesL M.pre (namesF (dashN M.pre) D.fs) D).1=0∧∃ z:Sl,vs=[z.v,.int .i64 0]∧Sat w' (slc T.int64 1 z ((filesL M.pre (namesF (dashN M.pre) D.fs) D).2.1.flatMap encI)::lgQ lg M::dk M.d (filesL M.pre (namesF (dashN M.pre) D.fs) D).2.2::r)) :=
 seglog_Log_files_calls _ <| by
  unfold seglog_Log_files
  have hs:=hs.perm (hf.perm.trans (.cons _ hf2.perm))
  clear hf hf2
  obtain ⟨hokm,hs⟩:=lgQ_cell hs
  have hsz:=hokm.size
  refine wp_tk hs fun w' hs=>?_
  refine wp_nn ?_
  refine wp_ldO hs ?_
  refine wp_nn ?_
  refine wp_ldO hs ?_
  refine wp_must (by omega) ?_
  rw [dash_eq]
  obtain ⟨m_,FS_,-,hokD,-⟩:=dk_open (hs.pick [2])
  have hok24:∀ n ∈ namesF (dashN M.pre) D.fs,n.size≤24:=fun n hn=>by
   unfold namesF at hn
   obtain ⟨f,hf,rfl⟩:=List.mem_map.1 (List.mem_filter.1 hn).1
   exact hokD.names f hf
  have hnl:(namesF (dashN M.pre) D.fs).length≤128:=by
   unfold namesF
   exact Nat.le_trans (List.length_filter_le _ _) (by rw [List.length_map];exact hokD.many)
  refine wp_call (names_c (d:=M.d) (A:=D) (dashN M.pre) hs) fun _ w' hs=>?_
  obtain ⟨x,rfl,hs⟩:=hs
  refine ret_of ?_
  refine wp_untick ?_
  generalize namesF (dashN M.pre) D.fs=ns at *
  have hl:=hs.slen x (xs:=ns) (enc:=encT)
  refine wp_mid (fun q w'=>∃ z:Sl,q=(z,())∧(filesL M.pre ns D).1=0∧Sat w' (slc T.int64 1 z ((filesL M.pre ns D).2.1.flatMap encI)::lgQ lg M::dk M.d (filesL M.pre ns D).2.2::r)) ?_ ?_
  rotate_left
  ·rintro _ w2 ⟨z,rfl,h1,hs⟩
   exact ⟨rfl,.inr ⟨h1,z,rfl,hs⟩⟩
  have hs:Sat w' (slc T.int64 1 ⟨none,0,0⟩ (([]:List Int).flatMap encI)::dk M.d D::pt lg (.cells #[.pointer (some ⟨M.d,0,none⟩),.string M.pre,.int .i64 M.seg,.int .i64 M.gap,.slice M.z.a M.z.len M.z.cap] T.seglog_Log)::lgR M::slc T.string 1 x (ns.flatMap encT)::r):=by
   have h1:Sat w' (slc T.int64 1 ⟨none,0,0⟩ (([]:List Int).flatMap encI)::_):=hs.slc_nil
   exact h1.sub
  refine wp_loop (fun m v w=>∃ (i:Nat) (z:Sl) (done:List Int) (D':DiskA),v=(z,((i:Int),()))∧i≤ns.length∧ns.length-i=m∧done.length≤i ∧
   ((filesL M.pre ns D).1=(filesL M.pre (ns.drop i) D').1∧(filesL M.pre ns D).2.2=(filesL M.pre (ns.drop i) D').2.2∧((filesL M.pre (ns.drop i) D').1=0→(filesL M.pre ns D).2.1=done++(filesL M.pre (ns.drop i) D').2.1)) ∧
   Sat w (slc T.int64 1 z (done.flatMap encI)::dk M.d D'::pt lg (.cells #[.pointer (some ⟨M.d,0,none⟩),.string M.pre,.int .i64 M.seg,.int .i64 M.gap,.slice M.z.a M.z.len M.z.cap] T.seglog_Log)::lgR M::slc T.string 1 x (ns.flatMap encT)::r)) ns.length
   ⟨0,⟨none,0,0⟩,[],D,rfl,by omega,rfl,by simp,⟨rfl,rfl,fun _=>rfl⟩,hs⟩ ?_
  clear hs
  rintro m _ w ⟨i,z,done,D',rfl,hi,hm,hdl,⟨hq1,hq2,hq3⟩,hs⟩
  refine wp_on ?_
  refine wp_if (fun hc=>?_) fun hc=>?_
  rotate_left
  ·have e:ns.drop i=[]:=List.drop_eq_nil_of_le (by omega)
   rw [e] at hq1 hq2 hq3
   have hq3:=hq3 rfl
   have e2:(filesL M.pre [] D').2.1=[]:=rfl
   rw [e2,List.append_nil] at hq3
   refine wp_pass (wp_lv ⟨z,rfl,hq1,?_⟩)
   have e3:(filesL M.pre [] D').2.2=D':=rfl
   rw [hq2,hq3,e3]
   have hs:=lgQ_uncell M hokm (hs.pick [2,2])
   exact hs.sub
  have hil:i<ns.length:=by omega
  have hdrop:ns.drop i=ns[i]::ns.drop (i+1):=List.drop_eq_getElem_cons hil
  rw [hdrop] at hq1 hq2 hq3
  have hn24:=hok24 ns[i] (List.getElem_mem hil)
  refine wp_ix1 hs (xs:=ns) (enc:=encT) i hil ?_
  refine wp_lt ?_
  refine wp_call (base_c0 (lg:=lg) ns[i] (ByteArray.mk #[46,108,111,103]) (by omega) (by decide) M.pre hsz hs) fun _ w' hs=>?_
  obtain ⟨rfl,hs⟩:=hs
  refine ret_of ?_
  refine wp_lt ?_
  refine wp_lt ?_
  have eb:baseN M.pre ns[i] (bl (ByteArray.mk #[46,108,111,103]))=baseN M.pre ns[i] logX:=rfl
  rw [eb]
  refine wp_mid (fun q w'=>∃ z':Sl,q=(z',())∧Sat w' (slc T.int64 1 z' ((done++(match baseN M.pre ns[i] logX with|some b=>[(b:Int)]|none=>[])).flatMap encI)::dk M.d D'::pt lg (.cells #[.pointer (some ⟨M.d,0,none⟩),.string M.pre,.int .i64 M.seg,.int .i64 M.gap,.slice M.z.a M.z.len M.z.cap] T.seglog_Log)::lgR M::slc T.string 1 x (ns.flatMap encT)::r)) ?_ ?_
  ·cases hb:baseN M.pre ns[i] logX with
   | none =>
    refine wp_ifF ?_ (by simp)
    refine wp_lv ⟨z,rfl,?_⟩
    rw [List.append_nil]
    exact hs
   | some b =>
    refine wp_ifT ?_ (by rfl)
    refine wp_ap0 (xs:=done) (enc:=encI) (y:=(b:Int)) hs (fun z' w' hs=>?_) rfl (by omega)
    exact wp_lv ⟨z',rfl,hs⟩
  rintro _ w2 ⟨z',rfl,hs⟩
  have hdl2:(done++(match baseN M.pre ns[i] logX with|some b=>[(b:Int)]|none=>[])).length≤i+1:=by
   rw [List.length_append]
   split <;> simp <;> omega
  refine wp_call (base_c0 (lg:=lg) ns[i] (ByteArray.mk #[46,110,101,119]) (by omega) (by decide) M.pre hsz hs) fun _ w' hs=>?_
  obtain ⟨rfl,hs⟩:=hs
  refine ret_of ?_
  refine wp_lt ?_
  refine wp_lt ?_
  have eb2:baseN M.pre ns[i] (bl (ByteArray.mk #[46,110,101,119]))=baseN M.pre ns[i] newX:=rfl
  rw [eb2]
  have hun:filesL M.pre (ns[i]::ns.drop (i+1)) D'=if (baseN M.pre ns[i] newX).isSome=true∧(remA D' ns[i]).1≠0 then ((remA D' ns[i]).1,[],(remA D' ns[i]).2) else
   ((filesL M.pre (ns.drop (i+1)) (if (baseN M.pre ns[i] newX).isSome then (remA D' ns[i]).2 else D')).1,(match baseN M.pre ns[i] logX with|some b=>[(b:Int)]|none=>[])++(filesL M.pre (ns.drop (i+1)) (if (baseN M.pre ns[i] newX).isSome then (remA D' ns[i]).2 else D')).2.1,(filesL M.pre (ns.drop (i+1)) (if (baseN M.pre ns[i] newX).isSome then (remA D' ns[i]).2 else D')).2.2):=rfl
  refine wp_mid (fun q w'=>¬ ((baseN M.pre ns[i] newX).isSome=true∧(remA D' ns[i]).1≠0)∧Sat w' (slc T.int64 1 z' ((done++(match baseN M.pre ns[i] logX with|some b=>[(b:Int)]|none=>[])).flatMap encI)::dk M.d (if (baseN M.pre ns[i] newX).isSome then (remA D' ns[i]).2 else D')::pt lg (.cells #[.pointer (some ⟨M.d,0,none⟩),.string M.pre,.int .i64 M.seg,.int .i64 M.gap,.slice M.z.a M.z.len M.z.cap] T.seglog_Log)::lgR M::slc T.string 1 x (ns.flatMap encT)::r)) ?_ ?_
  ·refine wp_if (fun h=>?_) fun h=>?_
   rotate_left
   ·refine wp_lv ⟨fun hh=>h hh.1,?_⟩
    rw [if_neg h]
    exact hs
   refine wp_nn ?_
   refine wp_ldO hs ?_
   refine wp_call (remove_c (d:=M.d) (A:=D') ns[i] hs) fun _ w' hs=>?_
   obtain ⟨rfl,hs⟩:=hs
   refine ret_of ?_
   refine wp_lt ?_
   refine wp_if (fun h2=>?_) fun h2=>?_
   ·refine wp_lt ?_
    rw [if_pos ⟨h,h2⟩] at hun
    rw [hun] at hq1 hq2
    have hs:=lgQ_uncell M hokm (hs.pick [2,2])
    refine wp_pass (wp_pass (wp_pass ⟨rfl,.inl ⟨by rw [hq1];exact h2,by rw [hq1],?_⟩⟩))
    rw [hq2]
    exact hs.sub
   ·refine wp_lv ⟨fun hh=>h2 hh.2,?_⟩
    rw [if_pos h]
    exact hs.sub
  rintro _ w3 ⟨hno,hs⟩
  rw [if_neg hno] at hun
  rw [hun] at hq1 hq2 hq3
  refine wp_on ?_
  rw [show IntKind.wrap .i64 ((i:Int)+1)=((i+1:Nat):Int) by rw [w64 (by omega) (by omega)];omega]
  refine wp_lp (ns.length-(i+1)) ⟨i+1,z',done++(match baseN M.pre ns[i] logX with|some b=>[(b:Int)]|none=>[]),_,rfl,by omega,rfl,hdl2,⟨hq1,hq2,fun h=>?_⟩,hs⟩
  rw [hq3 h,List.append_assoc]
theorem drop_c6 (x:Sl) (bs:List Int) (hb:∀ b ∈ bs,0≤b∧b<17592186044416) {r1:List HP} [hf:Fo l lgQ lg M r1] [hf2:Fo r1 dk M.d D r] (hx:FocR r x 1 (bs.flatMap encI)) (hlen:bs.length≤1000000) (hs:Sat w l) :
  Ret P F.seglog_Log_drop #[.pointer (some ⟨lg,0,none⟩),x.v] w fun vs w'=>vs=[.int .i64 (dropL M.pre bs D).1]∧Sat w' (lgQ lg M::dk M.d (dropL M.pre bs D).2::r) :=
 seglog_Log_drop_calls _ x <| by
  unfold seglog_Log_drop
  have hs:=hs.perm (hf.perm.trans (.cons _ hf2.perm))
  clear hf hf2
  obtain ⟨hokm,hs⟩:=lgQ_cell hs
  have hsz:=hokm.size
  have hl:=hs.slen x (xs:=bs) (enc:=encI)
  refine wp_mid (fun _ w'=>(dropL M.pre bs D).1=0∧Sat w' (lgQ lg M::dk M.d (dropL M.pre bs D).2::r)) ?_ ?_
  rotate_left
  ·rintro _ w2 ⟨h1,hs⟩
   rw [h1]
   exact ⟨rfl,rfl,hs⟩
  refine wp_loop (fun m v w=>∃ (i:Nat) (D':DiskA),v=((i:Int),())∧i≤bs.length∧bs.length-i=m∧dropL M.pre bs D=dropL M.pre (bs.drop i) D' ∧
   Sat w (pt lg (.cells #[.pointer (some ⟨M.d,0,none⟩),.string M.pre,.int .i64 M.seg,.int .i64 M.gap,.slice M.z.a M.z.len M.z.cap] T.seglog_Log)::lgR M::dk M.d D'::r)) bs.length ⟨0,D,rfl,by omega,rfl,rfl,hs⟩ ?_
  clear hs
  rintro m _ w ⟨i,D',rfl,hi,hm,hq,hs⟩
  refine wp_on ?_
  refine wp_if (fun hc=>?_) fun hc=>?_
  rotate_left
  ·have e:bs.drop i=[]:=List.drop_eq_nil_of_le (by omega)
   rw [e] at hq
   refine wp_pass (wp_lv ⟨by rw [hq];rfl,?_⟩)
   rw [hq]
   exact lgQ_uncell M hokm hs
  have hil:i<bs.length:=by omega
  rw [List.drop_eq_getElem_cons hil] at hq
  have hbb:=hb bs[i] (List.getElem_mem hil)
  refine wp_ix1 hs (xs:=bs) (enc:=encI) i hil ?_
  refine wp_lt ?_
  have hun:dropL M.pre (bs[i]::bs.drop (i+1)) D'=if (remA D' (nameS M.pre bs[i] logX)).1≠0 then remA D' (nameS M.pre bs[i] logX) else dropL M.pre (bs.drop (i+1)) (remA D' (nameS M.pre bs[i] logX)).2:=rfl
  refine wp_mid (fun v w'=>v=((remA D' (nameS M.pre bs[i] logX)).1,())∧Sat w' (pt lg (.cells #[.pointer (some ⟨M.d,0,none⟩),.string M.pre,.int .i64 M.seg,.int .i64 M.gap,.slice M.z.a M.z.len M.z.cap] T.seglog_Log)::lgR M::dk M.d (remA D' (nameS M.pre bs[i] logX)).2::r)) ?_ ?_
  ·refine wp_tk hs fun w' hs=>?_
   refine wp_nn ?_
   refine wp_hdO hs ?_
   refine wp_call (name_c0 (lg:=lg) bs[i] hbb (ByteArray.mk #[46,108,111,103]) (by decide) M.pre hsz hs) fun _ w' hs=>?_
   obtain ⟨rfl,hs⟩:=hs
   refine ret_of ?_ (by first|trivial|(repeat (first|exact trivial|exact fun _=>run_ldO hs|exact fun _=>run_ldG hs|refine And.intro ?_ ?_)))
   refine wp_untick ?_
   refine wp_call (remove_c (d:=M.d) (A:=D') (nameS M.pre bs[i] (bl (ByteArray.mk #[46,108,111,103]))) hs) fun _ w' hs=>?_
   obtain ⟨rfl,hs⟩:=hs
   refine ret_of ?_
   refine wp_lt ?_
   refine wp_untick ?_
   have hs:Sat w' (dk M.d (remA D' (nameS M.pre bs[i] logX)).2::_):=hs
   exact wp_lv ⟨rfl,hs.sub⟩
  rintro _ w2 ⟨rfl,hs⟩
  refine wp_if (fun h=>?_) fun h=>?_
  ·refine wp_lt ?_
   rw [if_pos h] at hun
   rw [hun] at hq
   rw [hq]
   exact wp_pass (wp_pass ⟨rfl,rfl,lgQ_uncell M hokm hs⟩)
  ·rw [if_neg h] at hun
   rw [hun] at hq
   rw [show IntKind.wrap .i64 ((i:Int)+1)=((i+1:Nat):Int) by rw [w64 (by omega) (by omega)];omega]
   exact wp_lp (bs.length-(i+1)) ⟨i+1,_,rfl,by omega,rfl,hq,hs⟩
end
set_option linter.unusedVariables false
set_option linter.unusedSimpArgs false
theorem takeF_succ (k:Nat) (n:Int) (raw:List UInt8):takeF (k+1) n raw=match firstL raw with
  | none=>([],0)
  | some (body,m)=>match decS body with
   | none=>([],0)
   | some b=>if b.base<n then ([],0) else (b::(takeF k (b.base+spanB b) (raw.drop m)).1,m+(takeF k (b.base+spanB b) (raw.drop m)).2):=rfl
theorem used_file {fs:List FileA} {n:ByteArray} {p:List UInt8 × Nat} (h:fileD fs n=some p):p.1.length≤used fs:=used_mem (fileD_some h)
section
variable {w:World} {l r:List HP} {lg:Nat} {M:LogM} {A:LogA} {D:DiskA} {gap:Int} {a:Nat} {t:SegM}
theorem take_raw (b:BatM) (z:Sl) (hv:validB b=0) (hp:b.p=b) [hf:Fo l (segP gap) a t r] [hb:FocR r z 4 (b.rs.flatMap encR)] (hlen:t.s.file.length+(frL b).length≤1000000000) (hs:Sat w l) :
  Ret P F.seglog_segment_take #[.pointer (some ⟨a,0,none⟩),.agg (encB7 (b.at z)).toArray,.int .i64 ((frL b).length:Nat)] w fun vs w'=>vs=[]∧Sat w' (segP gap a ⟨t.ix,t.s.add [b]⟩::r):=by
 have hb':FocR r (b.at z).x 4 ((b.at z).rs.flatMap encR):=hb
 have h:=take_c (gap:=gap) (a:=a) (b.at z) hv hlen hs
 have e:t.s.add [b.at z]=t.s.add [b]:=by
  unfold SegA.add
  have:(b.at z).p=b.p:=rfl
  simp only [List.map_cons,List.map_nil,this]
 rw [e] at h
 exact h
set_option maxHeartbeats 1000000 in
theorem scan_c (base:Int) (hb:0≤base∧base<17592186044416) {r1:List HP} [hf:Fo l lgQ lg M r1] [hf2:Fo r1 dk M.d D r] (hlen:M.SM.length≤1000000) (hs:Sat w l) :
  Ret P F.seglog_Log_scan #[.pointer (some ⟨lg,0,none⟩),.int .i64 base] w fun vs w'=>vs=[.bool (scanA M.pre M.l D base).1.1,.int .i64 (scanA M.pre M.l D base).1.2] ∧
   ∃ M':LogM,(M'.d=M.d∧M'.pre=M.pre∧M'.seg=M.seg∧M'.gap=M.gap)∧M'.l=(scanA M.pre M.l D base).2.1∧M'.SM.length≤M.SM.length+1∧Sat w' (lgQ lg M'::dk M.d (scanA M.pre M.l D base).2.2::r) :=
 seglog_Log_scan_calls _ base <| by
  unfold seglog_Log_scan
  have hs:=hs.perm (hf.perm.trans (.cons _ hf2.perm))
  clear hf hf2
  obtain ⟨hokm,hs⟩:=lgQ_cell hs
  have hsz:=hokm.size
  obtain ⟨m_,FS_,-,hokD,-⟩:=dk_open (hs.pick [2])
  refine wp_call (name_c0 (lg:=lg) base hb (ByteArray.mk #[46,108,111,103]) (by decide) M.pre hsz hs) fun _ w' hs=>?_
  obtain ⟨rfl,hs⟩:=hs
  refine ret_of ?_
  have en:nameS M.pre base (bl (ByteArray.mk #[46,108,111,103]))=nameS M.pre base logX:=rfl
  rw [en]
  generalize hnm:nameS M.pre base logX=nm at *
  refine wp_lt ?_
  refine wp_nn ?_
  refine wp_ldO hs ?_
  have hsame:∀ {w:World} {D':DiskA},Sat w (pt lg (.cells #[.pointer (some ⟨M.d,0,none⟩),.string M.pre,.int .i64 M.seg,.int .i64 M.gap,.slice M.z.a M.z.len M.z.cap] T.seglog_Log)::lgR M::dk M.d D'::r)→∃ M':LogM,(M'.d=M.d∧M'.pre=M.pre∧M'.seg=M.seg∧M'.gap=M.gap)∧M'.l=M.l∧M'.SM.length≤M.SM.length+1∧Sat w (lgQ lg M'::dk M.d D'::r):=fun hs=>⟨M,⟨rfl,rfl,rfl,rfl⟩,rfl,by omega,lgQ_uncell M hokm hs⟩
  unfold scanA
  rw [hnm]
  refine wp_call (read_c (d:=M.d) (A:=D) nm hs) fun _ w' hs=>?_
  rcases hs with ⟨f,hff,hfn,x,rfl,hs⟩|⟨hno,rfl,hs⟩
  rotate_left
  ·refine ret_of ?_
   refine wp_lt ?_
   refine wp_ifT ?_ (by decide)
   refine wp_lt ?_
   rw [fileD_none.2 hno]
   exact ⟨rfl,rfl,hsame hs.sub⟩
  refine ret_of ?_
  refine wp_lt ?_
  refine wp_ifF ?_ (by simp)
  have hfd:fileD D.fs nm=some (f.b,f.kept):=by rw [← hfn];exact fileD_mem (names_nodup hokD.sorted) hff
  have hrl:f.b.length≤4194304:=Nat.le_trans (used_mem hff) hokD.used
  rw [hfd]
  simp only
  generalize f.b=raw at *
  have hl:=hs.slen x (xs:=raw) (enc:=encU)
  have hcap:=hs.slc_cap
  refine wp_call (ffirst_c x raw hcap (by omega) hs) fun _ w' hs=>?_
  obtain ⟨y,rfl,hs⟩:=hs
  refine ret_of ?_
  refine wp_lt ?_
  refine wp_lt ?_
  refine wp_mid (fun q w'=>∃ v:Int,q=(v,(scanL base raw).isSome,())∧(∀ s,scanL base raw=some s→v=s.1.fin)∧Sat w' (slc T.uint8 1 x (raw.flatMap encU)::pt lg (.cells #[.pointer (some ⟨M.d,0,none⟩),.string M.pre,.int .i64 M.seg,.int .i64 M.gap,.slice M.z.a M.z.len M.z.cap] T.seglog_Log)::lgR M::dk M.d D::r)) ?_ ?_
  ·cases hfr:firstL raw with
   | none =>
    rw [hfr] at hs
    have e:scanL base raw=none:=by unfold scanL;rw [hfr]
    rw [e]
    refine wp_ifF ?_ (by simp)
    exact wp_lv ⟨0,rfl,(fun s h=>by cases h),hs.sub⟩
   | some q =>
    obtain ⟨body,m⟩:=q
    rw [hfr] at hs
    have hs:Sat w' (slc T.uint8 1 y (body.flatMap encU)::_):=hs
    obtain ⟨-,-,hbd,-⟩:=first_inv hfr
    refine wp_ifT ?_ (by rfl)
    refine wp_call (headed_c y body base (by omega) (by omega) hs) fun _ w' hs=>?_
    obtain ⟨v,rfl,hv,hs⟩:=hs
    refine ret_of ?_
    refine wp_lt ?_
    refine wp_lt ?_
    have e:scanL base raw=match headS base body with
      | none=>none
      | some fin=>some (⟨base,fin,(takeF raw.length base (raw.drop m)).1⟩,m+(takeF raw.length base (raw.drop m)).2):=by simp only [scanL,hfr];cases headS base body <;> rfl
    rw [e]
    cases hh:headS base body with
    | none=>exact wp_lv ⟨v,rfl,(fun s h=>by cases h),hs.sub⟩
    | some fin =>
     have:=hv fin hh
     subst this
     exact wp_lv ⟨v,rfl,(fun s h=>by simp only [Option.some.injEq] at h;subst h;rfl),hs.sub⟩
  rintro _ w2 ⟨v,rfl,hv,hs⟩
  cases hsc:scanL base raw with
  | none =>
   refine wp_ifT ?_ (by simp)
   refine wp_nn ?_
   refine wp_ldO hs ?_
   refine wp_call (remove_c (d:=M.d) (A:=D) nm hs) fun _ w' hs=>?_
   obtain ⟨rfl,hs⟩:=hs
   refine ret_of ?_
   refine wp_lt ?_
   exact ⟨rfl,rfl,hsame hs.sub⟩
  | some q =>
   obtain ⟨s,mm⟩:=q
   dsimp only
   have hv:=hv _ hsc
   have hv:v=s.fin:=hv
   subst hv
   obtain ⟨hsok,hsb,hst,hsm,hsml⟩:=scan_inv hsc
   refine wp_ifF ?_ (by simp)
   obtain ⟨m0,hm0,htk⟩:∃ m0,((firstL raw).getD ([],0)).2=m0∧m0≤raw.length∧m0=(shL s.base s.fin).length∧s.bs=(takeF raw.length base (raw.drop m0)).1∧mm=m0+(takeF raw.length base (raw.drop m0)).2:=by
    unfold scanL at hsc
    cases hfr:firstL raw with
    | none=>rw [hfr] at hsc;cases hsc
    | some q =>
     obtain ⟨body,m⟩:=q
     rw [hfr] at hsc
     simp only at hsc
     cases hh:headS base body with
     | none=>rw [hh] at hsc;cases hsc
     | some fin =>
      rw [hh] at hsc
      simp only [Option.some.injEq,Prod.mk.injEq] at hsc
      obtain ⟨e1,e2⟩:=hsc
      obtain ⟨f1,f2,f3,f4⟩:=first_inv hfr
      obtain ⟨-,-,hb3⟩:=headS_inv hh
      refine ⟨m,rfl,f2,?_,by rw [← e1],e2.symm⟩
      rw [← e1]
      show m=(shL base fin).length
      unfold shL
      rw [seal_len (by have:=shB_len base fin;omega),← hb3,f1]
   obtain ⟨h1,h2,h3,h4⟩:=htk
   rw [hm0]
   have hbase0:=hsok.base
   have hfin0:0≤s.fin∧s.fin<9223372036854775808:=by have:=hsok.fin;omega
   have hs:=lgQ_uncell M hokm (hs.pick [1,1])
   refine wp_call (newseg_c (lg:=lg) base s.fin (by omega) hfin0 hs) fun _ w' hs=>?_
   obtain ⟨a,ix,rfl,hs⟩:=hs
   refine ret_of ?_
   refine wp_lt ?_
   refine wp_mid (fun q w'=>q=((mm:Int),())∧Sat w' (segP M.gap a ⟨ix,s⟩::lgQ lg M::slc T.uint8 1 x (raw.flatMap encU)::dk M.d D::r)) ?_ ?_
   ·refine wp_loop (fun k q w=>∃ (at_:Nat) (n:Int) (done:List BatM),q=((at_:Int),(n,()))∧at_≤raw.length∧raw.length-at_≤k ∧
     s.bs=done++(takeF k n (raw.drop at_)).1∧mm=at_+(takeF k n (raw.drop at_)).2∧at_=((⟨base,s.fin,[]⟩:SegA).add done).file.length ∧
     Sat w (segP M.gap a ⟨ix,(⟨base,s.fin,[]⟩:SegA).add done⟩::lgQ lg M::slc T.uint8 1 x (raw.flatMap encU)::dk M.d D::r)) raw.length
     ⟨m0,base,[],rfl,h1,by omega,by rw [List.nil_append];exact h3,h4,by rw [add_nil,file_len];simp only [List.flatMap_nil,List.length_nil];rw [h2,hsb];omega,by rw [add_nil];exact hs⟩ ?_
    clear hs
    rintro k _ w ⟨at_,n,done,rfl,ha1,ha2,ha3,ha4,ha5,hs⟩
    have hend:takeF k n (raw.drop at_)=([],0)→∀ {w:World},Sat w (segP M.gap a ⟨ix,(⟨base,s.fin,[]⟩:SegA).add done⟩::lgQ lg M::slc T.uint8 1 x (raw.flatMap encU)::dk M.d D::r)→at_=mm∧Sat w (segP M.gap a ⟨ix,s⟩::lgQ lg M::slc T.uint8 1 x (raw.flatMap encU)::dk M.d D::r):=by
     intro he w hs
     rw [he] at ha3 ha4
     simp only [List.append_nil] at ha3
     have hpp:done.map BatM.p=done:=by
      rw [List.map_congr_left (g:=id) fun b hb=>((hsok.bs.valid b (by rw [ha3];exact hb)).2),List.map_id]
     have es:(⟨base,s.fin,[]⟩:SegA).add done=s:=by
      unfold SegA.add
      rw [hpp,← ha3,← hsb]
      rfl
     rw [es] at hs
     exact ⟨ha4.symm,hs⟩
    refine wp_on ?_
    refine wp_must (by omega) ?_
    rw [Int.toNat_natCast]
    have hxc:FocR (segP M.gap a ⟨ix,(⟨base,s.fin,[]⟩:SegA).add done⟩::lgQ lg M::slc T.uint8 1 x (raw.flatMap encU)::dk M.d D::r) ⟨cutA x.a 1 at_ x.cap,x.len-at_,x.cap-at_⟩ 1 ((raw.drop at_).flatMap encU):=FocR.post hcap
    refine wp_call (ffirst_c ⟨cutA x.a 1 at_ x.cap,x.len-at_,x.cap-at_⟩ (raw.drop at_) (by show x.len-at_≤x.cap-at_;omega) (by rw [List.length_drop];omega) hs) fun _ w' hs=>?_
    obtain ⟨y,rfl,hs⟩:=hs
    refine ret_of ?_
    refine wp_lt ?_
    refine wp_lt ?_
    cases hfr:firstL (raw.drop at_) with
    | none =>
     rw [hfr] at hs
     refine wp_ifT ?_ (by simp)
     have he:takeF k n (raw.drop at_)=([],0):=by
      cases k with
      | zero=>rfl
      | succ k=>rw [takeF_succ,hfr]
     obtain ⟨e1,hs⟩:=hend he hs.tail
     refine wp_pass (wp_lv ⟨by rw [e1],hs⟩)
    | some q =>
     obtain ⟨body,m⟩:=q
     rw [hfr] at hs
     have hs:Sat w' (slc T.uint8 1 y (body.flatMap encU)::_):=hs
     obtain ⟨f1,f2,hbd,f4⟩:=first_inv hfr
     rw [List.length_drop] at f2
     dsimp only [Option.getD,Option.isSome]
     refine wp_ifF ?_ (by simp)
     obtain ⟨k,rfl⟩:∃ k',k=k'+1:=⟨k-1,by omega⟩
     rw [takeF_succ,hfr] at ha3 ha4 hend
     refine wp_call (decode_c y body (by omega) hs) fun _ w' hs=>?_
     rcases hs with ⟨b,z,hdec,rfl,hs⟩|⟨hdec,rfl,hs⟩
     rotate_left
     ·refine ⟨(0,0,0,0,0,0,noSl,6,()),rfl,trivial,wp_u8 _ _ _ _ _ _ _ _ ?_⟩
      refine wp_newO hs fun c w' hs=>?_
      refine wp_stG hs fun w' hs=>?_
      refine wp_lt ?_
      refine wp_ldO hs ?_
      refine wp_ifT ?_ (.inl (by decide))
      obtain ⟨e1,hs⟩:=hend (by simp only [hdec]) hs.tail.tail
      exact wp_pass (wp_lv ⟨by show ((at_:Int),())=_;rw [e1],hs⟩)
     ·obtain ⟨d1,d2,d3⟩:=decS_inv hdec
      have hfrb:(frL b).length=m:=by rw [(frL_len d1).2,d2,f1]
      refine ⟨(b.base,b.pid,b.epoch,b.seq,b.kind,b.time,z,0,()),rfl,trivial,wp_u8 _ _ _ _ _ _ _ _ ?_⟩
      refine wp_newO hs fun c w' hs=>?_
      refine wp_stG hs fun w' hs=>?_
      refine wp_lt ?_
      refine wp_ldO hs ?_
      simp only [hdec] at ha3 ha4 hend
      refine wp_if (fun hc=>?_) fun hc=>?_
      ·have hc:b.base<n:=by
        rcases hc with hc|hc
        ·exact absurd rfl hc
        ·exact hc
       obtain ⟨e1,hs⟩:=hend (by rw [if_pos hc]) hs.tail.tail.tail
       exact wp_pass (wp_lv ⟨by show ((at_:Int),())=_;rw [e1],hs⟩)
      have hc:¬ b.base<n:=fun h=>hc (.inr h)
      rw [if_neg hc] at ha3 ha4
      simp only at ha3 ha4
      refine wp_ldG hs ?_
      have hz:FocR (pt c (.cells #[.int .i64 b.base,.int .i64 b.pid,.int .i64 b.epoch,.int .i64 b.seq,.int .i64 b.kind,.int .i64 b.time,.slice z.a z.len z.cap] T.api_Batch)::slc T.api_Record 4 z (b.rs.flatMap encR)::slc T.uint8 1 y (body.flatMap encU)::lgQ lg M::slc T.uint8 1 x (raw.flatMap encU)::dk M.d D::r) z 4 (b.rs.flatMap encR):=inferInstance
      have hs:Sat w' (pt c (.cells #[.int .i64 b.base,.int .i64 b.pid,.int .i64 b.epoch,.int .i64 b.seq,.int .i64 b.kind,.int .i64 b.time,.slice z.a z.len z.cap] T.api_Batch)::slc T.api_Record 4 z (b.rs.flatMap encR)::slc T.uint8 1 y (body.flatMap encU)::segP M.gap a ⟨ix,(⟨base,s.fin,[]⟩:SegA).add done⟩::lgQ lg M::slc T.uint8 1 x (raw.flatMap encU)::dk M.d D::r):=hs
      have hml:((m:Nat):Int)=((frL b).length:Nat):=by rw [hfrb]
      show (Prog.call F.seglog_segment_take [_,.agg _,.int .i64 ((m:Nat):Int)] _ _).wp P _ _ _
      rw [hml]
      refine wp_call (take_raw (gap:=M.gap) (a:=a) (t:=⟨ix,(⟨base,s.fin,[]⟩:SegA).add done⟩) b z d1 d3 (by show ((⟨base,s.fin,[]⟩:SegA).add done).file.length+_≤_;rw [← ha5];omega) hs) fun _ w' hs=>?_
      obtain ⟨rfl,hs⟩:=hs
      refine ret_of ?_
      have e6:((⟨base,s.fin,[]⟩:SegA).add done).add [b]=(⟨base,s.fin,[]⟩:SegA).add (done++[b]):=add_add _ _ _
      have hs:Sat w' (segP M.gap a ⟨ix,((⟨base,s.fin,[]⟩:SegA).add done).add [b]⟩::_):=hs
      rw [e6] at hs
      have hs:=seg_open hs
      refine wp_nn ?_
      refine wp_ldO hs ?_
      refine wp_lt ?_
      rw [w64 (by omega) (by omega)]
      refine wp_lt ?_
      have en2:nextG ((⟨base,s.fin,[]⟩:SegA).add (done++[b])).bs=b.base+spanB b:=by
       show nextG ([]++(done++[b]).map BatM.p)=_
       rw [List.nil_append,List.map_append]
       exact nextG_snoc _ _
      rw [show nextG (SegM.s ⟨ix,(⟨base,s.fin,[]⟩:SegA).add (done++[b])⟩).bs=b.base+spanB b from en2]
      have hs:=seg_close ⟨ix,(⟨base,s.fin,[]⟩:SegA).add (done++[b])⟩ hs
      have ec:(at_:Int)+((frL b).length:Nat)=((at_+m:Nat):Int):=by rw [hfrb];omega
      rw [ec]
      refine wp_lp k ⟨at_+m,b.base+spanB b,done++[b],rfl,by omega,by omega,?_,?_,?_,hs.sub⟩
      ·rw [ha3,List.append_assoc,List.drop_drop];rfl
      ·rw [ha4,List.drop_drop];omega
      ·rw [← e6,file_add,List.length_append,← ha5]
       simp only [List.flatMap_cons,List.flatMap_nil,List.append_nil]
       omega
   clear hs
   rintro _ w3 ⟨rfl,hs⟩
   refine wp_on ?_
   have hs:=hs.pick [1]
   refine wp_call (put_c (lg:=lg) a ⟨ix,s⟩ (by omega) hs) fun _ w' hs=>?_
   obtain ⟨z,rfl,hs⟩:=hs
   refine ret_of ?_
   have hfin2:∀ {w:World} {D':DiskA},Sat w (lgQ lg { M with z:=z,SM:=M.SM++[(a,⟨ix,s⟩)] }::dk M.d D'::r)→∃ M':LogM,(M'.d=M.d∧M'.pre=M.pre∧M'.seg=M.seg∧M'.gap=M.gap)∧M'.l=M.l++[s]∧M'.SM.length≤M.SM.length+1∧Sat w (lgQ lg M'::dk M.d D'::r):=fun hs =>
    ⟨{ M with z:=z,SM:=M.SM++[(a,⟨ix,s⟩)] },⟨rfl,rfl,rfl,rfl⟩,by unfold LogM.l;simp,by simp,hs⟩
   refine wp_if (fun hc=>?_) fun hc=>?_
   ·have hc:mm=raw.length:=by omega
    rw [if_pos hc]
    exact ⟨rfl,rfl,hfin2 hs.sub⟩
   ·rw [if_neg (show ¬ mm=raw.length by omega)]
    refine wp_nn ?_
    obtain ⟨hokm2,hs⟩:=lgQ_cell hs
    refine wp_ldO hs ?_
    refine wp_call (cut_c (d:=M.d) (A:=D) nm ((mm:Nat):Int) hs) fun _ w' hs=>?_
    obtain ⟨rfl,hs⟩:=hs
    refine ret_of ?_
    refine wp_lt ?_
    have hs:=lgQ_uncell { M with z:=z,SM:=M.SM++[(a,⟨ix,s⟩)] } hokm2 (hs.pick [1,1])
    exact ⟨rfl,rfl,hfin2 hs.sub⟩
end
set_option linter.unusedVariables false
set_option linter.unusedSimpArgs false
section
variable {w:World} {l r r1 r2:List HP} {lg ao:Nat} {M:LogM} {A:LogA} {D:DiskA} {gap:Int} {a:Nat} {t:SegM} {outs:List BatM}
theorem bats_put {b:BatM} (hs:Sat w (slc T.api_Record 4 b.x (b.rs.flatMap encR)::batsP outs::l)):Sat w (batsP (outs++[b])::l):=by
 have h1:Sat w (HP.all ((b::outs).map rsP)::l):=by
  have h2:Sat w (rsP b::HP.all (outs.map rsP)::l):=hs
  exact h2.all_put
 exact h1.all_perm ((List.perm_append_comm (l₁:=[b]) (l₂:=outs)).map rsP)
theorem bats_nil (hs:Sat w l):Sat w (batsP []::l):=hs.all_nil
theorem bats_rd {b:BatM} (hb:b ∈ outs):FocR (batsP outs::l) b.x 4 (b.rs.flatMap encR):=⟨fun w hs=>by
 obtain ⟨L,hs⟩:=hs.all_mem (f:=rsP) hb
 exact Sat.rd hs⟩
end
set_option linter.unusedVariables false
set_option linter.unusedSimpArgs false
def HasL (pre:ByteArray) (l:List SegA) (D:DiskA):Prop:=∀ s ∈ l,∃ k,fileD D.fs (nameS pre s.base logX)=some (s.file,k)
def afterA (gap time:Int):List SegA→Int × Bool
 | []=>(0,false)
 | s::l=>if nextG s.bs>0∧lateG (-1) s.bs≥time then ((orE (afterE (s.idx gap).l time)).offset,(afterE (s.idx gap).l time).isSome) else afterA gap time l
theorem bs_base {n:Int} {bs:List BatM} (h:BsOk n bs):∀ b ∈ bs,n≤b.base:=by
 intro b hb
 obtain ⟨j,hj,rfl⟩:=List.mem_iff_getElem.1 hb
 cases j with
 | zero =>
  cases bs with
  | nil=>simp at hj
  | cons c cs=>exact h.2.2.1
 | succ j =>
  have h1:=h.lt 0 (j+1) hj (by omega)
  obtain ⟨s1,-,-,-,-⟩:=span_le _ (h.valid _ (List.getElem_mem (show 0<bs.length by omega))).1
  omega
section
variable {w:World} {l r r1 r2:List HP} {lg ao:Nat} {M:LogM} {A:LogA} {D:DiskA} {gap:Int} {a:Nat} {t:SegM} {outs:List BatM}
theorem lafter_c (time:Int) [hf:Fo l lgP lg A r] (hok:SegsOk 0 A.l) (hfl:∀ s ∈ A.l,s.file.length≤4194304) (hlen:A.l.length≤1000000) (hs:Sat w l) :
  Ret P F.seglog_Log_After #[.pointer (some ⟨lg,0,none⟩),.int .i64 time] w fun vs w'=>vs=[.int .i64 (afterA A.gap time A.l).1,.bool (afterA A.gap time A.l).2]∧Sat w' (lgP lg A::r) :=
 seglog_Log_After_calls _ time <| by
  unfold seglog_Log_After
  obtain ⟨M,rfl,hs⟩:=lgP_open (hs.perm hf.perm)
  have hMl:M.A.l=M.l:=rfl
  have hMg:M.A.gap=M.gap:=rfl
  rw [hMl] at hlen hok hfl ⊢
  rw [hMg]
  have hll:M.l.length=M.SM.length:=List.length_map ..
  have hget:∀ (i:Nat) (h:i<M.SM.length),M.l[i]'(by omega)=M.SM[i].2.s:=fun i h=>by unfold LogM.l;simp
  obtain ⟨hokm,hs⟩:=lgQ_open hs
  have hl:=hs.slen M.z (xs:=M.SM.map Prod.fst) (enc:=encP)
  rw [List.length_map] at hl
  refine wp_ifF ?_ (by simp)
  refine wp_nn ?_
  refine wp_ldO hs ?_
  refine wp_mid (fun _ w'=>afterA M.gap time M.l=(0,false)∧Sat w' (lgP lg M.A::r)) ?_ ?_
  rotate_left
  ·rintro _ w2 ⟨h1,hs⟩
   rw [h1]
   exact ⟨rfl,rfl,hs⟩
  refine wp_loop (fun m v w=>∃ i:Nat,v=((i:Int),())∧i≤M.SM.length∧M.SM.length-i=m∧afterA M.gap time M.l=afterA M.gap time (M.l.drop i)∧Sat w (pt lg (.cells #[.pointer (some ⟨M.d,0,none⟩),.string M.pre,.int .i64 M.seg,.int .i64 M.gap,.slice M.z.a M.z.len M.z.cap] T.seglog_Log)::slc T.p_seglog_segment 1 M.z ((M.SM.map Prod.fst).flatMap encP)::HP.all (M.SM.map fun t=>segP M.gap t.1 t.2)::r)) M.SM.length ⟨0,rfl,by omega,rfl,rfl,hs⟩ ?_
  clear hs
  rintro m _ w ⟨i,rfl,hi,hm,hq,hs⟩
  refine wp_on ?_
  refine wp_if (fun hc=>?_) fun hc=>?_
  rotate_left
  ·rw [List.drop_eq_nil_of_le (by omega)] at hq
   exact wp_pass (wp_lv ⟨hq,lgP_close M (lgQ_close M hokm hs)⟩)
  have hil:i<M.SM.length:=by omega
  rw [List.drop_eq_getElem_cons (by omega:i<M.l.length),hget i hil] at hq
  have hmem:M.SM[i].2.s ∈ M.l:=List.mem_map.2 ⟨_,List.getElem_mem hil,rfl⟩
  have hsok:=(hok.mem _ hmem).1
  have hrl:=hfl _ hmem
  have hidx:IdxOk M.gap (shL M.SM[i].2.s.base M.SM[i].2.s.fin).length M.SM[i].2.s.bs (M.SM[i].2.s.idx M.gap):=idx_ok M.gap M.SM[i].2.s.bs.length rfl hsok.base.1 (by omega) hsok.bs (by have:=file_len M.SM[i].2.s;omega)
  refine wp_ix1 hs (xs:=M.SM.map Prod.fst) (enc:=encP) i (by rw [List.length_map];exact hil) ?_
  have e0:(M.SM.map Prod.fst)[i]'(by rw [List.length_map];exact hil)=M.SM[i].1:=by simp
  rw [e0]
  refine wp_nn ?_
  have hs:=seg_open (seg_at (hs.pick [2]) hil)
  refine wp_ldO hs ?_
  refine wp_nng ?_
  refine wp_ldO hs ?_
  have hun:afterA M.gap time (M.SM[i].2.s::M.l.drop (i+1))=if nextG M.SM[i].2.s.bs>0∧lateG (-1) M.SM[i].2.s.bs≥time then ((orE (afterE (M.SM[i].2.s.idx M.gap).l time)).offset,(afterE (M.SM[i].2.s.idx M.gap).l time).isSome) else afterA M.gap time (M.l.drop (i+1)):=rfl
  refine wp_if (fun h1=>?_) fun h1=>?_
  ·rw [if_pos h1] at hun
   refine wp_nn ?_
   refine wp_ldO hs ?_
   refine wp_call (after_c (b:=M.SM[i].2.ix) (X:=M.SM[i].2.s.idx M.gap) time hidx.befs hs) fun _ w' hs=>?_
   obtain ⟨rfl,hs⟩:=hs
   refine ⟨((orE (afterE (M.SM[i].2.s.idx M.gap).l time)).offset,(orE (afterE (M.SM[i].2.s.idx M.gap).l time)).place,(orE (afterE (M.SM[i].2.s.idx M.gap).l time)).before,(afterE (M.SM[i].2.s.idx M.gap).l time).isSome,()),rfl,trivial,wp_u4 _ _ _ _ ?_⟩
   refine wp_newO hs fun c w' hs=>?_
   refine wp_stG hs fun w' hs=>?_
   refine wp_lt ?_
   refine wp_ldO hs ?_
   refine wp_lt ?_
   refine wp_lt ?_
   rw [hq,hun]
   have hs:Sat w' (segP M.gap M.SM[i].1 M.SM[i].2::HP.all ((M.SM.eraseIdx i).map fun t=>segP M.gap t.1 t.2)::pt lg (.cells #[.pointer (some ⟨M.d,0,none⟩),.string M.pre,.int .i64 M.seg,.int .i64 M.gap,.slice M.z.a M.z.len M.z.cap] T.seglog_Log)::slc T.p_seglog_segment 1 M.z ((M.SM.map Prod.fst).flatMap encP)::r):=seg_close M.SM[i].2 hs.sub
   have hs:=seg_back hil hs
   exact wp_pass (wp_pass ⟨rfl,rfl,lgP_close M (lgQ_close M hokm (hs.pick [1,1]))⟩)
  ·rw [if_neg h1] at hun
   rw [hun] at hq
   rw [show IntKind.wrap .i64 ((i:Int)+1)=((i+1:Nat):Int) by rw [w64 (by omega) (by omega)];omega]
   have hs:=seg_back hil (seg_close M.SM[i].2 hs)
   exact wp_lp (M.SM.length-(i+1)) ⟨i+1,rfl,by omega,rfl,hq,hs.pick [1,1]⟩
end
set_option linter.unusedVariables false
set_option linter.unusedSimpArgs false
def okCfg (seg gap:Int):Prop:=(64≤seg∧seg≤4194304)∧(1≤gap∧gap≤4194304)
instance (seg gap:Int):Decidable (okCfg seg gap):=by unfold okCfg;infer_instance
section
variable {w:World} {l r:List HP} {lg d:Nat} {M:LogM} {A:LogA} {D:DiskA}
set_option maxHeartbeats 1000000 in
theorem lopen_c (pre:ByteArray) (seg gap:Int) (hp:preS pre=true) (hc:okCfg seg gap) (hg:D.gone=false) [hf:Fo l dk d D r] (hs:Sat w l):Ret P F.seglog_Open #[.pointer (some ⟨d,0,none⟩),.string pre,.agg #[.int .i64 seg,.int .i64 gap]] w fun vs w' =>
  ((lopenA pre D).1≠0∧vs=[.pointer none,.int .i64 (lopenA pre D).1]∧Sat w' (dk d (lopenA pre D).2.2::r)) ∨
  ((lopenA pre D).1=0∧∃ lg,vs=[.pointer (some ⟨lg,0,none⟩),.int .i64 0]∧Sat w' (lgP lg ⟨d,pre,seg,gap,(lopenA pre D).2.1⟩::dk d (lopenA pre D).2.2::r)) :=
 seglog_Open_calls _ pre seg gap <| by
  unfold seglog_Open
  have hs:=hs.perm hf.perm
  obtain ⟨m_,FS_,-,hokD,-⟩:=dk_open hs
  refine wp_boxO hs fun a0 w' hs=>?_
  refine wp_lt ?_
  refine wp_ifF ?_ (by simp)
  refine wp_mid (fun q w'=>q=(false,())∧Sat w' (dk d D::pt a0 (.cells #[.int .i64 seg,.int .i64 gap] T.seglog_Config)::r)) ?_ ?_
  ·refine wp_call (prefix_l pre hs) fun _ w' hs=>?_
   obtain ⟨rfl,hs⟩:=hs
   refine ret_of ?_
   refine wp_ldG hs ?_
   refine wp_ifF ?_ (by rw [hp];simp)
   refine wp_call (lmay_c seg gap hs) fun _ w' hs=>?_
   obtain ⟨rfl,hs⟩:=hs
   refine ret_of ?_
   refine wp_lt ?_
   refine wp_lv ⟨?_,hs.sub⟩
   have:((64≤seg∧seg≤4194304)∧(1≤gap∧gap≤4194304)):=hc
   rw [decide_eq_true this]
   rfl
  rintro _ w2 ⟨rfl,hs⟩
  refine wp_ifF ?_ (by simp)
  refine wp_call (gone_c (d:=d) hs) fun _ w' hs=>?_
  obtain ⟨rfl,hs⟩:=hs
  refine ret_of ?_
  refine wp_lt ?_
  refine wp_ifF ?_ (by rw [hg];simp)
  refine wp_ldG hs ?_
  refine wp_boxO hs fun lg w' hs=>?_
  have hokm:okM gap seg pre:=⟨hc.2,hc.1,hp⟩
  have hs:Sat w' (lgQ lg ⟨d,pre,seg,gap,⟨none,0,0⟩,[]⟩::dk d D::r):=by
   refine lgQ_close ⟨d,pre,seg,gap,⟨none,0,0⟩,[]⟩ hokm ?_
   have h1:Sat w' (HP.all (([]:List (Nat × SegM)).map fun t=>segP gap t.1 t.2)::pt lg (.cells #[.pointer (some ⟨d,0,none⟩),.string pre,.int .i64 seg,.int .i64 gap,.slice none 0 0] T.seglog_Log)::dk d D::r):=by
    have hs:Sat w' (pt lg (.cells #[.pointer (some ⟨d,0,none⟩),.string pre,.int .i64 seg,.int .i64 gap,.slice none 0 0] T.seglog_Log)::dk d D::r):=hs.sub
    exact Sat.all_nil hs
   have h2:Sat w' (slc T.p_seglog_segment 1 ⟨none,0,0⟩ (((([]:List (Nat × SegM))).map Prod.fst).flatMap encP)::_):=h1.slc_nil
   exact h2.pick [2]
  unfold lopenA
  refine wp_call (files_c (lg:=lg) (M:=⟨d,pre,seg,gap,⟨none,0,0⟩,[]⟩) (D:=D) hs) fun _ w' hs=>?_
  have hnl:(filesL pre (namesF (dashN pre) D.fs) D).2.1.length≤128:=by
   refine Nat.le_trans filesL_len ?_
   unfold namesF
   exact Nat.le_trans (List.length_filter_le _ _) (by rw [List.length_map];exact hokD.many)
  have hlt:=filesL_lt (pre:=pre) (ns:=namesF (dashN pre) D.fs) (D:=D)
  rcases hs with ⟨he,rfl,hs⟩|⟨he,x,rfl,hs⟩
  ·have he:(filesL pre (namesF (dashN pre) D.fs) D).1≠0:=he
   refine ret_of ?_
   refine wp_lt ?_
   refine wp_ifT ?_ he
   refine wp_lt ?_
   rw [if_pos he]
   exact ⟨rfl,.inl ⟨he,rfl,hs.tail⟩⟩
  have he:(filesL pre (namesF (dashN pre) D.fs) D).1=0:=he
  refine ⟨(x,0,()),rfl,trivial,wp_u2 _ _ ?_⟩
  refine wp_lt ?_
  refine wp_ifF ?_ (by simp)
  rw [if_neg (by rw [he];simp)]
  have hs:Sat w' (slc T.int64 1 x ((filesL pre (namesF (dashN pre) D.fs) D).2.1.flatMap encI)::lgQ lg ⟨d,pre,seg,gap,⟨none,0,0⟩,[]⟩::dk d (filesL pre (namesF (dashN pre) D.fs) D).2.2::r):=hs
  generalize (filesL pre (namesF (dashN pre) D.fs) D).2.2=D1 at *
  generalize (filesL pre (namesF (dashN pre) D.fs) D).2.1=bs at *
  have hl:=hs.slen x (xs:=bs) (enc:=encI)
  have hcap:=hs.slc_cap
  refine wp_mid (fun q w'=>∃ M:LogM,q=((openS pre bs [] D1).1,())∧(M.d=d∧M.pre=pre∧M.seg=seg∧M.gap=gap)∧M.l=(openS pre bs [] D1).2.1∧Sat w' (lgQ lg M::dk d (openS pre bs [] D1).2.2::r)) ?_ ?_
  rotate_left
  ·rintro _ w3 ⟨M,rfl,⟨rfl,rfl,rfl,rfl⟩,h2,hs⟩
   refine wp_if (fun h=>?_) fun h=>?_
   ·refine wp_lt ?_
    exact ⟨rfl,.inl ⟨h,rfl,hs.tail⟩⟩
   ·have h:(openS M.pre bs [] D1).1=0:=Decidable.not_not.1 h
    refine ⟨rfl,.inr ⟨h,lg,rfl,?_⟩⟩
    have:=lgP_close M hs
    have e:M.A=⟨M.d,M.pre,M.seg,M.gap,(openS M.pre bs [] D1).2.1⟩:=by rw [← h2];rfl
    rw [← e]
    exact this
  refine wp_loop (fun m v w=>∃ (i:Nat) (M:LogM) (D':DiskA),v=((0:Int),((i:Int),()))∧i≤bs.length∧bs.length-i=m∧M.SM.length≤i∧openS pre bs [] D1=openS pre (bs.drop i) M.l D'∧(M.d=d∧M.pre=pre∧M.seg=seg∧M.gap=gap) ∧
   Sat w (slc T.int64 1 x (bs.flatMap encI)::lgQ lg M::dk d D'::r)) bs.length ⟨0,⟨d,pre,seg,gap,⟨none,0,0⟩,[]⟩,D1,rfl,by omega,rfl,by simp,rfl,⟨rfl,rfl,rfl,rfl⟩,hs⟩ ?_
  clear hs
  rintro m _ w ⟨i,M,D',rfl,hi,hm,hsm,hq,⟨rfl,rfl,rfl,rfl⟩,hsn⟩
  have hs:=hsn
  refine wp_on ?_
  refine wp_if (fun hcc=>?_) fun hcc=>?_
  rotate_left
  ·have e:bs.drop i=[]:=List.drop_eq_nil_of_le (by omega)
   rw [e] at hq
   have hq:openS M.pre bs [] D1=(0,M.l,D'):=hq
   rw [hq]
   exact wp_pass (wp_lv ⟨M,rfl,⟨rfl,rfl,rfl,rfl⟩,rfl,hs.sub⟩)
  have hil:i<bs.length:=by omega
  rw [List.drop_eq_getElem_cons hil] at hq
  have hbb:=hlt bs[i] (List.getElem_mem hil)
  have hun:openS M.pre (bs[i]::bs.drop (i+1)) M.l D'=if bs[i]<nextL M.l then (if (remA D' (nameS M.pre bs[i] logX)).1≠0 then ((remA D' (nameS M.pre bs[i] logX)).1,M.l,(remA D' (nameS M.pre bs[i] logX)).2) else openS M.pre (bs.drop (i+1)) M.l (remA D' (nameS M.pre bs[i] logX)).2) else
   if (scanA M.pre M.l D' bs[i]).1.2≠0 then ((scanA M.pre M.l D' bs[i]).1.2,(scanA M.pre M.l D' bs[i]).2) else
   if (scanA M.pre M.l D' bs[i]).1.1=true then openS M.pre (bs.drop (i+1)) (scanA M.pre M.l D' bs[i]).2.1 (scanA M.pre M.l D' bs[i]).2.2 else ((dropL M.pre (bs.drop (i+1)) (scanA M.pre M.l D' bs[i]).2.2).1,(scanA M.pre M.l D' bs[i]).2.1,(dropL M.pre (bs.drop (i+1)) (scanA M.pre M.l D' bs[i]).2.2).2):=rfl
  have ei:IntKind.wrap .i64 ((i:Int)+1)=((i+1:Nat):Int):=by rw [w64 (by omega) (by omega)];omega
  refine wp_mid (fun q w'=>∃ (M2:LogM) (D2:DiskA),q=((0:Int),())∧M2.SM.length≤i+1∧openS M.pre bs [] D1=openS M.pre (bs.drop (i+1)) M2.l D2∧(M2.d=M.d∧M2.pre=M.pre∧M2.seg=M.seg∧M2.gap=M.gap) ∧
   Sat w' (slc T.int64 1 x (bs.flatMap encI)::lgQ lg M2::dk M.d D2::r)) ?_ ?_
  rotate_left
  ·rintro _ w3 ⟨M2,D2,rfl,h1,h2,h3,hs⟩
   rw [ei]
   exact wp_lp (bs.length-(i+1)) ⟨i+1,M2,D2,rfl,by omega,rfl,h1,h2,h3,hs⟩
  refine wp_ix1 hs (xs:=bs) (enc:=encI) i hil ?_
  refine wp_lt ?_
  refine wp_lt ?_
  refine wp_call (lnext_c (lg:=lg) (by omega) hs) fun _ w' hs=>?_
  obtain ⟨rfl,hs⟩:=hs
  refine ret_of ?_
  refine wp_if (fun h1=>?_) fun h1=>?_
  ·rw [if_pos h1] at hun
   obtain ⟨hokm,hs⟩:=lgQ_cell hs
   refine wp_call (name_c0 (lg:=lg) bs[i] hbb (ByteArray.mk #[46,108,111,103]) (by decide) M.pre hokm.size hs) fun _ w' hs=>?_
   obtain ⟨rfl,hs⟩:=hs
   refine ret_of ?_
   refine wp_call (remove_c (d:=M.d) (A:=D') (nameS M.pre bs[i] (bl (ByteArray.mk #[46,108,111,103]))) hs) fun _ w' hs=>?_
   obtain ⟨rfl,hs⟩:=hs
   refine ret_of ?_
   refine wp_lt ?_
   have en:nameS M.pre bs[i] (bl (ByteArray.mk #[46,108,111,103]))=nameS M.pre bs[i] logX:=rfl
   rw [en] at hs ⊢
   have hs:=lgQ_uncell M hokm (hs.pick [1,1])
   refine wp_if (fun h2=>?_) fun h2=>?_
   ·rw [if_pos h2] at hun
    rw [hun] at hq
    rw [hq]
    exact wp_pass (wp_pass (wp_lv ⟨M,rfl,⟨rfl,rfl,rfl,rfl⟩,rfl,hs.sub⟩))
   ·rw [if_neg h2] at hun
    rw [hun] at hq
    have h2:=Decidable.not_not.1 h2
    rw [h2]
    exact wp_lv ⟨M,_,rfl,by omega,hq,⟨rfl,rfl,rfl,rfl⟩,hs.sub⟩
  ·rw [if_neg h1] at hun
   refine wp_call (scan_c (lg:=lg) (D:=D') bs[i] hbb (by omega) hs) fun _ w' hs=>?_
   obtain ⟨rfl,M2,⟨e1,e2,e3,e4⟩,hMl,hMs,hs⟩:=hs
   refine ret_of ?_
   refine wp_lt ?_
   refine wp_lt ?_
   have hs:Sat w' (lgQ lg M2::dk M.d (scanA M.pre M.l D' bs[i]).2.2::slc T.int64 1 x (bs.flatMap encI)::r):=hs
   generalize scanA M.pre M.l D' bs[i]=SC at *
   obtain ⟨⟨b0,e0⟩,l0,D0⟩:=SC
   dsimp only at hun hMl hs ⊢
   refine wp_if (fun h2=>?_) fun h2=>?_
   ·obtain ⟨h2a,h2b⟩:=h2
    have h2a:e0=0:=h2a
    have h2b:b0=false:=by simpa using h2b
    rw [if_neg (by rw [h2a];simp),if_neg (by rw [h2b];simp)] at hun
    rw [ei]
    refine wp_must (by omega) ?_
    rw [Int.toNat_natCast]
    rw [← e1] at hs
    have hx:FocR (slc T.int64 1 x (bs.flatMap encI)::r) ⟨cutA x.a 1 (i+1) x.cap,x.len-(i+1),x.cap-(i+1)⟩ 1 ((bs.drop (i+1)).flatMap encI):=FocR.post hcap
    refine wp_call (drop_c6 (lg:=lg) (M:=M2) (D:=D0) ⟨cutA x.a 1 (i+1) x.cap,x.len-(i+1),x.cap-(i+1)⟩ (bs.drop (i+1)) (fun b hb=>hlt b (List.mem_of_mem_drop hb)) hx (by rw [List.length_drop];omega) hs) fun _ w' hs=>?_
    obtain ⟨rfl,hs⟩:=hs
    refine ret_of ?_
    refine wp_lt ?_
    rw [e2,e1] at hs
    rw [e2]
    rw [hun] at hq
    rw [hq]
    refine wp_pass (wp_pass (wp_lv ⟨M2,rfl,⟨e1,e2,e3,e4⟩,hMl,hs.sub⟩))
   ·refine wp_if (fun h3=>?_) fun h3=>?_
    ·rw [if_pos h3] at hun
     rw [hun] at hq
     rw [hq]
     refine wp_pass (wp_pass (wp_lv ⟨M2,rfl,⟨e1,e2,e3,e4⟩,hMl,hs.sub⟩))
    ·have h3:e0=0:=Decidable.not_not.1 h3
     have h4:b0=true:=by
      cases hb0:b0 with
      | true=>rfl
      | false=>exact absurd ⟨h3,by rw [hb0];simp⟩ h2
     rw [if_neg (by rw [h3];simp),if_pos h4,← hMl] at hun
     rw [hun] at hq
     rw [h3]
     exact wp_lv ⟨M2,D0,rfl,by omega,hq,⟨e1,e2,e3,e4⟩,hs.sub⟩
end
set_option linter.unusedVariables false
set_option linter.unusedSimpArgs false
theorem placeL_bs:∀ {bs:List BatM} {n:Int},0≤n→(placeL n bs).1=0→BsOk n ((placeL n bs).2.map BatM.p)∧(∀ b ∈ (placeL n bs).2,n≤b.base)
 | [],n,_,_=>⟨trivial,fun _ h=>by cases h⟩
 | b::bs,n,hn,h=>by
  unfold placeL at h ⊢
  by_cases h1:validB (b.to n)≠0
  ·rw [if_pos h1] at h;exact absurd h h1
  rw [if_neg h1] at h ⊢
  by_cases h2:(placeL (n+spanB b) bs).1≠0
  ·rw [if_pos h2] at h;exact absurd h h2
  rw [if_neg h2]
  have hv:=Decidable.not_not.1 h1
  obtain ⟨s1,-,-,-,-⟩:=span_le _ hv
  have s1:1≤spanB b:=s1
  obtain ⟨i1,i2⟩:=placeL_bs (n:=n+spanB b) (by omega) (Decidable.not_not.1 h2)
  refine ⟨⟨hv,rfl,Int.le_refl _,i1⟩,fun c hc=>?_⟩
  rcases List.mem_cons.1 hc with rfl|hc
  ·exact Int.le_refl _
  ·have:=i2 c hc;omega
theorem BsOk.append:∀ {n:Int} {cs bs:List BatM},0≤n→BsOk n cs→BsOk (max n (nextG cs)) bs→BsOk n (cs++bs)
 | n,[],bs,hn,_,h2=>h2.mono (by show n≤max n 0;omega)
 | n,a::cs,bs,hn,⟨h1,h2,h3,h4⟩,hb=>by
  obtain ⟨s1,-,⟨-,hba,-⟩,-,-⟩:=span_le a h1
  refine ⟨h1,h2,h3,h4.append (by omega) (hb.mono ?_)⟩
  have h5:a.base+spanB a≤nextG (a::cs):=BsOk.le_next (n:=n) (bs:=a::cs) ⟨h1,h2,h3,h4⟩ (List.mem_cons_self ..)
  have h6:nextG cs≤nextG (a::cs):=by
   cases cs with
   | nil=>show (0:Int)≤_;omega
   | cons c ds=>exact Int.le_refl _
  omega
theorem SegsOk.mono {m n:Int} {l:List SegA} (h:SegsOk n l) (hm:m≤n):SegsOk m l:=by
 cases l with
 | nil=>trivial
 | cons s l=>exact ⟨by have:=h.1;omega,h.2.1,h.2.2⟩
theorem nextL_snoc (l:List SegA) (s:SegA):nextL (l++[s])=s.reach:=by unfold nextL;rw [getLast_snoc]
theorem baseL_snoc (l:List SegA) (s:SegA):baseL (l++[s])=s.base:=by unfold baseL;rw [getLast_snoc]
theorem addLast_snoc (l:List SegA) (s:SegA) (bs:List BatM):addLast (l++[s]) bs=l++[s.add bs]:=by unfold addLast;rw [getLast_snoc];simp
theorem SegsOk.snoc:∀ {n:Int} {l:List SegA} {s:SegA},SegsOk n l→SegOk s→n≤s.base→(∀ t ∈ l,t.reach≤s.base∧t.base<s.base)→SegsOk n (l++[s])
 | n,[],s,_,hs,hn,_=>⟨hn,hs,trivial⟩
 | n,a::l,s,⟨h1,h2,h3⟩,hs,hn,ht=>by
  have:=ht a (List.mem_cons_self ..)
  exact ⟨h1,h2,h3.snoc hs (by omega) fun t h=>ht t (List.mem_cons_of_mem _ h)⟩
theorem SegsOk.front:∀ {n:Int} {l:List SegA} {s:SegA},SegsOk n (l++[s])→SegsOk n l∧SegOk s∧n≤s.base∧∀ t ∈ l,t.reach≤s.base∧t.base<s.base
 | n,[],s,h=>⟨trivial,h.2.1,h.1,fun _ h=>by cases h⟩
 | n,a::l,s,⟨h1,h2,h3⟩=>by
  obtain ⟨i1,i2,i3,i4⟩:=h3.front
  have:=(reach_le h2).1
  refine ⟨⟨h1,h2,i1⟩,i2,by omega,fun t ht=>?_⟩
  rcases List.mem_cons.1 ht with rfl|ht
  ·omega
  ·exact i4 t ht
theorem add_reach {s:SegA} (hs:SegOk s) {bs:List BatM} {n:Int} (h:(placeL n bs).1=0) (hn:n=s.reach):SegOk (s.add (placeL n bs).2):=by
 have hr:=reach_le hs
 have hb:=hs.base
 refine ⟨hs.base,hs.fin,?_⟩
 subst hn
 have hm:max s.base (nextG s.bs)≤s.reach:=by omega
 exact hs.bs.append hb.1 ((placeL_bs (by omega) h).1.mono hm)
theorem place_valid {bs:List BatM} {n:Int} (h:(placeL n bs).1=0) (hb:bs≠[]):0≤n∧n≤1099511627776:=by
 cases bs with
 | nil=>exact absurd rfl hb
 | cons b bs =>
  unfold placeL at h
  by_cases h1:validB (b.to n)≠0
  ·rw [if_pos h1] at h;exact absurd h h1
  ·obtain ⟨-,-,⟨-,hba,-⟩,-,-⟩:=span_le _ (Decidable.not_not.1 h1)
   exact hba
def rappA (seg:Int) (l:List SegA) (bs:List BatM):(Int × Int) × List SegA :=
 if bs=[] then ((0,3),l) else if (placeL (nextL l) bs).1≠0 then ((0,(placeL (nextL l) bs).1),l) else
 ((nextL l,0),if roomy seg l ((placeL (nextL l) bs).2.flatMap frL).length then addLast l (placeL (nextL l) bs).2 else l++[(⟨nextL l,0,[]⟩:SegA).add (placeL (nextL l) bs).2])
theorem rapp_segs {seg:Int} {l:List SegA} {bs:List BatM} (h:SegsOk 0 l):SegsOk 0 (rappA seg l bs).2:=by
 unfold rappA
 split
 ·exact h
 rename_i hb
 split
 ·exact h
 rename_i hp
 have hp:=Decidable.not_not.1 hp
 have hv:=place_valid hp hb
 simp only
 split
 ·rename_i hr
  have hne:l≠[]:=by rintro rfl;cases hr
  obtain ⟨l0,s,rfl⟩:=snoc_of hne
  rw [addLast_snoc]
  obtain ⟨h1,h2,h3,h4⟩:=h.front
  exact h1.snoc (add_reach h2 hp (nextL_snoc _ _)) h3 h4
 ·rename_i hr
  have hs:SegOk ((⟨nextL l,0,[]⟩:SegA).add (placeL (nextL l) bs).2):=by
   refine ⟨hv,.inl rfl,?_⟩
   show BsOk _ ([]++_)
   rw [List.nil_append]
   exact (placeL_bs hv.1 hp).1
  refine h.snoc hs hv.1 fun t ht=>?_
  show t.reach≤nextL l∧t.base<nextL l
  have hne:l≠[]:=List.ne_nil_of_mem ht
  obtain ⟨l0,s,rfl⟩:=snoc_of hne
  obtain ⟨h1,h2,h3,h4⟩:=h.front
  rw [nextL_snoc]
  have hsr:=reach_le h2
  have hlast:s.base<s.reach:=by
   have hr2:roomy seg (l0++[s]) ((placeL (nextL (l0++[s])) bs).2.flatMap frL).length=false:=by simpa using hr
   unfold roomy at hr2
   rw [getLast_snoc] at hr2
   simp only [Bool.or_eq_false_iff,decide_eq_false_iff_not] at hr2
   have hbs:s.bs≠[]:=by rintro hbs;rw [hbs] at hr2;exact hr2.1 rfl
   have:=hsr.2.2.2.2 hbs
   omega
  rcases List.mem_append.1 ht with ht|ht
  ·have:=h4 t ht;omega
  ·simp only [List.mem_cons,List.not_mem_nil,or_false] at ht
   subst ht
   exact ⟨Int.le_refl _,hlast⟩
theorem lapp_cases (pre:ByteArray) (seg:Int) (l:List SegA) (D:DiskA) (bs:List BatM):((lappA pre seg l D bs).1=(rappA seg l bs).1∧(lappA pre seg l D bs).2.1=(rappA seg l bs).2)∨((lappA pre seg l D bs).1.1=0∧(lappA pre seg l D bs).1.2≠0∧(lappA pre seg l D bs).2.1=l∧(rappA seg l bs).1.2=0):=by
 unfold lappA rappA
 split
 ·exact .inl ⟨rfl,rfl⟩
 split
 ·exact .inl ⟨rfl,rfl⟩
 split
 ·split
  ·rename_i h;exact .inr ⟨rfl,h,rfl,rfl⟩
  ·exact .inl ⟨rfl,rfl⟩
 ·split
  ·rename_i h;exact .inr ⟨rfl,h,rfl,rfl⟩
  split
  ·rename_i h;exact .inr ⟨rfl,h,rfl,rfl⟩
  ·exact .inl ⟨rfl,rfl⟩
theorem lapp_segs {pre:ByteArray} {seg:Int} {l:List SegA} {D:DiskA} {bs:List BatM} (h:SegsOk 0 l):SegsOk 0 (lappA pre seg l D bs).2.1:=by
 rcases lapp_cases pre seg l D bs with ⟨-,h2⟩|⟨-,-,h2,-⟩
 ·rw [h2];exact rapp_segs h
 ·rw [h2];exact h
section
variable {w:World} {l r:List HP} {d:Nat} {D:DiskA}
theorem read_f (n:ByteArray) (p:List UInt8 × Nat) (hfd:fileD D.fs n=some p) [hf:Fo l dk d D r] (hs:Sat w l):Ret P F.disk_Disk_Read #[.pointer (some ⟨d,0,none⟩),.string n] w fun vs w'=>∃ z:Sl,vs=[z.v,.int .i64 0]∧Sat w' (slc T.uint8 1 z (p.1.flatMap encU)::dk d D::r):=by
 obtain ⟨m_,FS_,-,hokD,-⟩:=dk_open (hs.perm hf.perm)
 refine (read_c (d:=d) (A:=D) n hs).mono fun vs w' h=>?_
 rcases h with ⟨f,hff,hfn,x,rfl,hs⟩|⟨hno,rfl,hs⟩
 ·have hfd2:fileD D.fs f.name=some (f.b,f.kept):=fileD_mem (names_nodup hokD.sorted) hff
  rw [hfn,hfd] at hfd2
  simp only [Option.some.injEq] at hfd2
  rw [hfd2]
  exact ⟨x,rfl,hs⟩
 ·rw [fileD_none.2 hno] at hfd;cases hfd
end
set_option linter.unusedVariables false
set_option linter.unusedSimpArgs false
def oneB (key value:ByteArray) (x:Sl):BatM:=⟨0,0,0,0,0,0,x,[⟨key,value,false,0⟩]⟩
def aP:ByteArray:=ByteArray.mk #[112]
def aD0:DiskA:=⟨1000,-1,false,[]⟩
def aB:BatM:=oneB (ByteArray.mk #[97]) (ByteArray.mk #[120]) noSl
def aS1:(Int × Int) × List SegA × DiskA:=lappA aP 64 [] aD0 [aB]
def aS2:(Int × Int) × List SegA × DiskA:=lappA aP 64 aS1.2.1 aS1.2.2 [aB]
def aS3:(Int × Int) × List SegA × DiskA:=lappA aP 64 aS2.2.1 aS2.2.2 [aB]
theorem place_p:∀ (bs:List BatM) (n:Int),(placeL n (bs.map BatM.p)).1=(placeL n bs).1∧(placeL n (bs.map BatM.p)).2.map BatM.p=(placeL n bs).2.map BatM.p
 | [],n=>⟨rfl,rfl⟩
 | b::bs,n=>by
  rw [List.map_cons]
  unfold placeL
  have e1:validB (b.p.to n)=validB (b.to n):=rfl
  have e2:spanB b.p=spanB b:=rfl
  obtain ⟨i1,i2⟩:=place_p bs (n+spanB b)
  rw [e1,e2,i1]
  split
  ·exact ⟨rfl,rfl⟩
  split
  ·exact ⟨rfl,rfl⟩
  ·exact ⟨rfl,by rw [List.map_cons,List.map_cons,i2];rfl⟩
theorem flat_eq_p {a b:List BatM} (h:a.map BatM.p=b.map BatM.p):a.flatMap frL=b.flatMap frL:=by
 rw [← flat_p a,h,flat_p]
theorem add_p {a b:List BatM} (h:a.map BatM.p=b.map BatM.p) (s:SegA):s.add a=s.add b:=by unfold SegA.add;rw [h]
theorem addLast_p {a b:List BatM} (h:a.map BatM.p=b.map BatM.p) (l:List SegA):addLast l a=addLast l b:=by
 unfold addLast
 split
 ·rfl
 ·rw [add_p h]
theorem lapp_p (pre:ByteArray) (seg:Int) (l:List SegA) (D:DiskA) (bs:List BatM):lappA pre seg l D (bs.map BatM.p)=lappA pre seg l D bs:=by
 obtain ⟨h1,h2⟩:=place_p bs (nextL l)
 unfold lappA
 rw [h1,flat_eq_p h2,addLast_p h2,add_p h2]
 by_cases hb:bs=[]
 ·subst hb;rfl
 ·rw [if_neg hb,if_neg (by intro h;exact hb (List.map_eq_nil_iff.1 h))]
theorem rapp_p (seg:Int) (l:List SegA) (bs:List BatM):rappA seg l (bs.map BatM.p)=rappA seg l bs:=by
 obtain ⟨h1,h2⟩:=place_p bs (nextL l)
 unfold rappA
 rw [h1,flat_eq_p h2,addLast_p h2,add_p h2]
 by_cases hb:bs=[]
 ·subst hb;rfl
 ·rw [if_neg hb,if_neg (by intro h;exact hb (List.map_eq_nil_iff.1 h))]
theorem aw_open:lopenA aP aD0=(0,[],aD0):=by kernel_rfl
theorem aw_1:aS1.1=(0,0):=by kernel_rfl
theorem aw_2:aS2.1=(1,0):=by kernel_rfl
theorem aw_3:aS3.1=(2,0):=by kernel_rfl
theorem aw_segs:aS3.2.1.map SegA.base=[0,2]:=by kernel_rfl
theorem aw_l1:aS1.2.1.length=1∧aS1.2.1.map (fun s=>s.file.length)=[32]:=by constructor <;> kernel_rfl
theorem aw_l2:aS2.2.1.length=1∧aS2.2.1.map (fun s=>s.file.length)=[53]:=by constructor <;> kernel_rfl
theorem aw_l3:aS3.2.1.length=2:=by kernel_rfl
theorem aw_file:(fileD aS3.2.2.fs (ByteArray.mk #[112,45,48,48,48,48,48,48,48,48,48,48,48,46,108,111,103])).map (fun p=>(p.1.length,p.1[0]?,p.1[4]?))=some (53,some 3,some 83):=by kernel_rfl
set_option linter.unusedVariables false
set_option linter.unusedSimpArgs false
structure Calm (D:DiskA):Prop where
 gone:D.gone=false
 left:D.left = -1
theorem done_calm {D:DiskA} (h:D.left = -1):doneA D=D:=by unfold doneA;rw [if_neg (by omega)]
theorem app_calm {D:DiskA} (h:Calm D) (n:ByteArray) (bs:List UInt8):Calm (appendA D n bs).2:=by
 unfold appendA
 split
 ·exact h
 split
 ·exact h
 split
 ·exact h
 ·show Calm (doneA _)
  rw [done_calm (by exact h.left)]
  exact ⟨h.gone,h.left⟩
theorem sync_calm {D:DiskA} (h:Calm D) (ns:List ByteArray):Calm (syncA D ns).2:=by
 unfold syncA
 split
 ·exact h
 split
 ·exact h
 ·show Calm (doneA _)
  rw [done_calm (by exact h.left)]
  exact ⟨h.gone,h.left⟩
theorem lsync_calm {D:DiskA} (h:Calm D) (pre:ByteArray) (l:List SegA):Calm (lsyncA pre l D).2:=by
 unfold lsyncA
 split
 ·exact h
 ·exact sync_calm h _
theorem append_len {A:DiskA} {n:ByteArray} {bs:List UInt8}:(appendA A n bs).2.fs.length≤A.fs.length+1∧((fileD A.fs n).isSome=true→(appendA A n bs).2.fs.length=A.fs.length):=by
 unfold appendA
 split
 ·exact ⟨by show A.fs.length≤_;omega,fun _=>rfl⟩
 split
 ·exact ⟨by show A.fs.length≤_;omega,fun _=>rfl⟩
 split
 ·exact ⟨by show A.fs.length≤_;omega,fun _=>rfl⟩
 ·show (doneA _).fs.length≤_∧(_→(doneA _).fs.length=_)
  rw [doneA_fs]
  show (if hasF A.fs n=true then _ else _:List FileA).length≤_∧(_→(if hasF A.fs n=true then _ else _:List FileA).length=_)
  rw [← hasF_fileD]
  split
  ·rw [List.length_map];exact ⟨by omega,fun _=>rfl⟩
  ·rename_i h
   rw [(insF_perm _ _).length_eq]
   exact ⟨by simp,fun h2=>absurd h2 h⟩
structure Cpl (pre:ByteArray) (l:List SegA) (D:DiskA):Prop where
 ok:okA D
 segs:SegsOk 0 l
 has:HasL pre l D
 only:∀ n,(fileD D.fs n).isSome=true→(bl (dashN pre)).isPrefixOf (bl n)=true→∃ s ∈ l,n=nameS pre s.base logX
def sumF (l:List SegA):Nat:=(l.map fun s=>s.file.length).sum
theorem sumF_snoc (l:List SegA) (s:SegA):sumF (l++[s])=sumF l+s.file.length:=by simp [sumF]
theorem name_ne {pre:ByteArray} {s t:SegA} (hs:SegOk s) (ht:SegOk t) (h:s.base≠t.base):nameS pre s.base logX≠nameS pre t.base logX:=fun e=>by
 have h1:=hs.base
 have h2:=ht.base
 exact h (nameS_inj (by omega) (by omega) e).1
theorem name_ok {pre:ByteArray} (hp:preS pre=true) (base:Int):nameF (nameS pre base logX)=true:=nameF_nameS hp base rfl (by decide)
structure Fr (pre:ByteArray) (D D':DiskA):Prop where
 room:D'.room=D.room
 other:∀ m,(bl (dashN pre)).isPrefixOf (bl m)=false→fileD D'.fs m=fileD D.fs m
theorem Fr.refl (pre:ByteArray) (D:DiskA):Fr pre D D:=⟨rfl,fun _ _=>rfl⟩
theorem Fr.trans {pre:ByteArray} {D D' D'':DiskA} (h1:Fr pre D D') (h2:Fr pre D' D''):Fr pre D D'':=⟨h2.room.trans h1.room,fun m hm=>(h2.other m hm).trans (h1.other m hm)⟩
theorem sync_all {D:DiskA} (hok:okA D) (n:ByteArray):okA (syncA D [n]).2∧(syncA D [n]).2.room=D.room∧used (syncA D [n]).2.fs=used D.fs∧(syncA D [n]).2.fs.length=D.fs.length ∧
  ∀ m,fileD (syncA D [n]).2.fs m=fileD D.fs m∨(m=n∧(syncA D [n]).1=0∧fileD (syncA D [n]).2.fs m=(fileD D.fs m).map fun p=>(p.1,p.1.length)):=by
 by_cases h:(syncA D [n]).1=0
 ·obtain ⟨-,h1,h2,h3,h4,h5⟩:=sync_ok hok h
  refine ⟨h1,h2,h3,h4,fun m=>?_⟩
  by_cases hm:n=m
  ·subst hm
   refine .inr ⟨rfl,h,?_⟩
   rw [h5]
   simp
  ·refine .inl ?_
   rw [h5]
   simp [hm]
 ·rcases sync_one (A:=D) (n:=n) with ⟨h1,-,-,-⟩|⟨-,-,h4⟩|⟨-,-,-,h4⟩
  ·exact absurd h1 h
  ·rw [h4];exact ⟨hok,rfl,rfl,rfl,fun m=>.inl rfl⟩
  ·rw [h4];exact ⟨hok,rfl,rfl,rfl,fun m=>.inl rfl⟩
theorem Cpl.same {pre:ByteArray} {l:List SegA} {D D':DiskA} (h:Cpl pre l D) (hok:okA D') (hf:∀ m,(bl (dashN pre)).isPrefixOf (bl m)=true→(fileD D'.fs m).map Prod.fst=(fileD D.fs m).map Prod.fst):Cpl pre l D':=by
 refine ⟨hok,h.segs,fun s hs=>?_,fun n hn hp=>?_⟩
 ·obtain ⟨k,hk⟩:=h.has s hs
  have:=hf _ (pre_nameS pre s.base logX)
  rw [hk] at this
  cases hq:fileD D'.fs (nameS pre s.base logX) with
  | none=>rw [hq] at this;cases this
  | some q =>
   rw [hq] at this
   simp only [Option.map_some,Option.some.injEq] at this
   exact ⟨q.2,by rw [← this]⟩
 ·refine h.only n ?_ hp
  have:=hf n hp
  cases hq:fileD D.fs n with
  | none =>
   rw [hq] at this
   cases hq2:fileD D'.fs n with
   | none=>rw [hq2] at hn;cases hn
   | some q=>rw [hq2] at this;cases this
  | some q=>rfl
theorem lsync_all {pre:ByteArray} {l:List SegA} {D:DiskA} (h:Cpl pre l D):Cpl pre l (lsyncA pre l D).2∧Fr pre D (lsyncA pre l D).2∧used (lsyncA pre l D).2.fs=used D.fs∧(lsyncA pre l D).2.fs.length=D.fs.length∧(Calm D→(lsyncA pre l D).1=0):=by
 unfold lsyncA
 cases hl:l.getLast? with
 | none=>exact ⟨h,.refl _ _,rfl,rfl,fun _=>rfl⟩
 | some s =>
  simp only
  obtain ⟨h1,h2,h3,h4,h5⟩:=sync_all h.ok (nameS pre s.base logX)
  refine ⟨h.same h1 fun m hm=>?_,⟨h2,fun m hm=>?_⟩,h3,h4,fun hc=>?_⟩
  ·rcases h5 m with h6|⟨-,-,h6⟩
   ·rw [h6]
   ·rw [h6,Option.map_map];rfl
  ·rcases h5 m with h6|⟨h6,-,-⟩
   ·exact h6
   ·rw [h6,pre_nameS] at hm;cases hm
  ·rcases sync_one (A:=D) (n:=nameS pre s.base logX) with ⟨h6,-,-,-⟩|⟨-,h6,-⟩|⟨-,-,h6,-⟩
   ·exact h6
   ·rw [hc.gone] at h6;cases h6
   ·obtain ⟨k,hk⟩:=h.has s (List.mem_of_getLast? hl)
    rw [hk] at h6;cases h6
theorem Cpl.grow {pre:ByteArray} {l0:List SegA} {s s':SegA} {D:DiskA} {x:List UInt8} (hp:preS pre=true) (h:Cpl pre (l0++[s]) D) (hsegs:SegsOk 0 (l0++[s'])) (hb:s'.base=s.base) (hx:s'.file=s.file++x) (ha:(appendA D (nameS pre s.base logX) x).1=0) :
  Cpl pre (l0++[s']) (appendA D (nameS pre s.base logX) x).2∧Fr pre D (appendA D (nameS pre s.base logX) x).2∧used (appendA D (nameS pre s.base logX) x).2.fs+sumF (l0++[s])=used D.fs+sumF (l0++[s'])∧(appendA D (nameS pre s.base logX) x).2.fs.length=D.fs.length:=by
 obtain ⟨h1,h2,h3,h4,h5,h6,h7⟩:=append_ok h.ok ha
 obtain ⟨k,hk⟩:=h.has s (by simp)
 obtain ⟨f1,f2,f3,f4⟩:=h.segs.front
 refine ⟨⟨h4,hsegs,fun t ht=>?_,fun n hn hpn=>?_⟩,⟨h5,fun m hm=>?_⟩,?_,(append_len.2 (by rw [hk];rfl))⟩
 ·rcases List.mem_append.1 ht with ht|ht
  ·have hto:=(f1.mem t ht).1
   have hne:nameS pre t.base logX≠nameS pre s.base logX:=name_ne hto f2 (by have:=(f4 t ht).2;omega)
   rw [h7,if_neg hne]
   exact h.has t (by simp [ht])
  ·simp only [List.mem_cons,List.not_mem_nil,or_false] at ht
   subst ht
   rw [hb,h7,if_pos rfl,hk,hx]
   exact ⟨k,rfl⟩
 ·rw [h7] at hn
  by_cases hm:n=nameS pre s.base logX
  ·exact ⟨s',by simp,by rw [hb];exact hm⟩
  ·rw [if_neg hm] at hn
   obtain ⟨t,ht,rfl⟩:=h.only n hn hpn
   rcases List.mem_append.1 ht with ht|ht
   ·exact ⟨t,by simp [ht],rfl⟩
   ·simp only [List.mem_cons,List.not_mem_nil,or_false] at ht
    subst ht
    exact absurd rfl hm
 ·rw [h7,if_neg]
  rintro rfl
  rw [pre_nameS] at hm;cases hm
 ·rw [h6,sumF_snoc,sumF_snoc,hx,List.length_append];omega
theorem Cpl.begin {pre:ByteArray} {l:List SegA} {s:SegA} {D:DiskA} (h:Cpl pre l D) (hsegs:SegsOk 0 (l++[s])) (ha:(appendA D (nameS pre s.base logX) s.file).1=0) :
  Cpl pre (l++[s]) (appendA D (nameS pre s.base logX) s.file).2∧Fr pre D (appendA D (nameS pre s.base logX) s.file).2∧used (appendA D (nameS pre s.base logX) s.file).2.fs+sumF l=used D.fs+sumF (l++[s])∧(appendA D (nameS pre s.base logX) s.file).2.fs.length≤D.fs.length+1:=by
 obtain ⟨h1,h2,h3,h4,h5,h6,h7⟩:=append_ok h.ok ha
 obtain ⟨f1,f2,f3,f4⟩:=hsegs.front
 have hnone:fileD D.fs (nameS pre s.base logX)=none:=by
  cases hq:fileD D.fs (nameS pre s.base logX) with
  | none=>rfl
  | some q =>
   obtain ⟨t,ht,e⟩:=h.only _ (by rw [hq];rfl) (pre_nameS pre s.base logX)
   exact absurd e (name_ne f2 (f1.mem t ht).1 (by have:=(f4 t ht).2;omega))
 refine ⟨⟨h4,hsegs,fun t ht=>?_,fun n hn hpn=>?_⟩,⟨h5,fun m hm=>?_⟩,?_,append_len.1⟩
 ·rcases List.mem_append.1 ht with ht|ht
  ·have hto:=(f1.mem t ht).1
   have hne:nameS pre t.base logX≠nameS pre s.base logX:=name_ne hto f2 (by have:=(f4 t ht).2;omega)
   rw [h7,if_neg hne]
   exact h.has t ht
  ·simp only [List.mem_cons,List.not_mem_nil,or_false] at ht
   subst ht
   rw [h7,if_pos rfl,hnone]
   exact ⟨0,rfl⟩
 ·rw [h7] at hn
  by_cases hm:n=nameS pre s.base logX
  ·exact ⟨s,by simp,hm⟩
  ·rw [if_neg hm] at hn
   obtain ⟨t,ht,rfl⟩:=h.only n hn hpn
   exact ⟨t,by simp [ht],rfl⟩
 ·rw [h7,if_neg]
  rintro rfl
  rw [pre_nameS] at hm;cases hm
 ·rw [h6,sumF_snoc];omega
def Stp (pre:ByteArray) (l:List SegA) (D:DiskA) (l':List SegA) (D':DiskA):Prop :=
 Cpl pre l' D'∧Fr pre D D'∧used D'.fs+sumF l=used D.fs+sumF l'∧D'.fs.length+l.length≤D.fs.length+l'.length∧(Calm D→Calm D')
theorem Stp.same {pre:ByteArray} {l:List SegA} {D:DiskA} (h:Cpl pre l D):Stp pre l D l D:=⟨h,.refl _ _,rfl,Nat.le_refl _,id⟩
theorem Stp.trans {pre:ByteArray} {l l' l'':List SegA} {D D' D'':DiskA} (h1:Stp pre l D l' D') (h2:Stp pre l' D' l'' D''):Stp pre l D l'' D'' :=
 ⟨h2.1,h1.2.1.trans h2.2.1,by have:=h1.2.2.1;have:=h2.2.2.1;omega,by have:=h1.2.2.2.1;have:=h2.2.2.2.1;omega,fun h=>h2.2.2.2.2 (h1.2.2.2.2 h)⟩
theorem lsync_stp {pre:ByteArray} {l:List SegA} {D:DiskA} (h:Cpl pre l D):Stp pre l D l (lsyncA pre l D).2:=by
 obtain ⟨h1,h2,h3,h4,-⟩:=lsync_all h
 exact ⟨h1,h2,by omega,by omega,fun hc=>lsync_calm hc _ _⟩
theorem shL_file (n:Int) (bs:List BatM):(SegA.add ⟨n,0,[]⟩ bs).file=shL n 0++bs.flatMap frL:=by
 rw [file_add];simp [SegA.file]
theorem lapp_stp {pre:ByteArray} (seg:Int) {l:List SegA} {D:DiskA} (bs:List BatM) (hp:preS pre=true) (h:Cpl pre l D):Stp pre l D (lappA pre seg l D bs).2.1 (lappA pre seg l D bs).2.2:=by
 have hsegs:=rapp_segs (seg:=seg) (bs:=bs) h.segs
 unfold lappA
 unfold rappA at hsegs
 split
 ·exact .same h
 rename_i hb
 rw [if_neg hb] at hsegs
 split
 ·exact .same h
 rename_i hpl
 rw [if_neg hpl] at hsegs
 simp only at hsegs
 split
 ·rename_i hr
  rw [if_pos hr] at hsegs
  have hne:l≠[]:=by rintro rfl;cases hr
  obtain ⟨l0,s,rfl⟩:=snoc_of hne
  rw [baseL_snoc]
  rw [addLast_snoc] at hsegs
  split
  ·rename_i he
   simp only
   rw [append_err he]
   exact .same h
  ·rename_i he
   have he:=Decidable.not_not.1 he
   simp only
   rw [addLast_snoc]
   obtain ⟨c1,c2,c3,c4⟩:=h.grow hp hsegs rfl (file_add _ _) he
   exact ⟨c1,c2,c3,by rw [List.length_append,List.length_append];simp;omega,fun hc=>app_calm hc _ _⟩
 ·rename_i hr
  rw [if_neg hr] at hsegs
  have hst:=lsync_stp h
  split
  ·exact hst
  split
  ·rename_i he
   simp only
   rw [append_err he]
   exact hst
  ·rename_i he
   have he:=Decidable.not_not.1 he
   simp only
   rw [← shL_file] at he ⊢
   obtain ⟨c1,c2,c3,c4⟩:=hst.1.begin (s:=SegA.add ⟨nextL l,0,[]⟩ (placeL (nextL l) bs).2) hsegs he
   refine hst.trans ⟨c1,c2,c3,?_,fun hc=>app_calm hc _ _⟩
   rw [List.length_append,List.length_singleton]
   have c4:(appendA (lsyncA pre l D).2 (nameS pre (nextL l) logX) _).2.fs.length≤_:=c4
   omega
theorem sorted_eq:∀ {xs ys:List ByteArray},xs.Pairwise (fun a b=>ltS a b=true)→ys.Pairwise (fun a b=>ltS a b=true)→(∀ n,n ∈ xs↔n ∈ ys)→xs=ys
 | [],[],_,_,_=>rfl
 | [],y::ys,_,_,h=>absurd ((h y).2 (List.mem_cons_self ..)) (by simp)
 | x::xs,[],_,_,h=>absurd ((h x).1 (List.mem_cons_self ..)) (by simp)
 | x::xs,y::ys,hx,hy,h=>by
  rw [List.pairwise_cons] at hx hy
  have hxy:x=y:=by
   rcases List.mem_cons.1 ((h x).1 (List.mem_cons_self ..)) with h1|h1
   ·exact h1
   ·rcases List.mem_cons.1 ((h y).2 (List.mem_cons_self ..)) with h2|h2
    ·exact h2.symm
    ·have h3:=hy.1 x h1
     have h4:=hx.1 y h2
     rw [ltS_asymm h3] at h4
     cases h4
  subst hxy
  congr 1
  refine sorted_eq hx.2 hy.2 fun n=>?_
  constructor
  ·intro hn
   rcases List.mem_cons.1 ((h n).1 (List.mem_cons_of_mem _ hn)) with h1|h1
   ·subst h1
    have:=hx.1 n hn
    rw [ltS_irrefl] at this;cases this
   ·exact h1
  ·intro hn
   rcases List.mem_cons.1 ((h n).2 (List.mem_cons_of_mem _ hn)) with h1|h1
   ·subst h1
    have:=hy.1 n hn
    rw [ltS_irrefl] at this;cases this
   ·exact h1
theorem preF_bl (p s:ByteArray):Go.Proofs.YtfnldnodhfkojaaGreat.preF p s=(bl p).isPrefixOf (bl s):=by
 unfold Go.Proofs.YtfnldnodhfkojaaGreat.preF
 rw [ByteArray.toList_eq,ByteArray.toList_eq]
theorem mem_names {D:DiskA} {pre n:ByteArray}:n ∈ namesF (dashN pre) D.fs↔(fileD D.fs n).isSome=true∧(bl (dashN pre)).isPrefixOf (bl n)=true:=by
 unfold namesF
 rw [List.mem_filter,← hasF_fileD,hasF_iff,preF_bl]
 constructor
 ·rintro ⟨h1,h2⟩
  obtain ⟨f,hf,rfl⟩:=List.mem_map.1 h1
  exact ⟨⟨f,hf,rfl⟩,h2⟩
 ·rintro ⟨⟨f,hf,rfl⟩,h2⟩
  exact ⟨List.mem_map.2 ⟨f,hf,rfl⟩,h2⟩
theorem names_sorted {D:DiskA} (hok:okA D) (p:ByteArray):(namesF p D.fs).Pairwise fun a b=>ltS a b=true:=by
 unfold namesF
 exact ((List.pairwise_map.2 hok.sorted).filter _)
theorem segs_sorted (pre:ByteArray):∀ {n:Int} {l:List SegA},SegsOk n l→(l.map fun s=>nameS pre s.base logX).Pairwise fun a b=>ltS a b=true
 | _,[],_=>List.Pairwise.nil
 | n,s::l,⟨h1,h2,h3⟩=>by
  rw [List.map_cons,List.pairwise_cons]
  refine ⟨fun m hm=>?_,segs_sorted pre h3⟩
  obtain ⟨t,ht,rfl⟩:=List.mem_map.1 hm
  have h4:=h3.mem t ht
  have:=h2.base
  have:=h4.1.base
  exact (ltS_nameS pre (by omega) (by omega) logX).2 (by omega)
theorem Cpl.names {pre:ByteArray} {l:List SegA} {D:DiskA} (h:Cpl pre l D):namesF (dashN pre) D.fs=l.map fun s=>nameS pre s.base logX:=by
 refine sorted_eq (names_sorted h.ok _) (segs_sorted pre h.segs) fun n=>?_
 rw [mem_names]
 constructor
 ·rintro ⟨h1,h2⟩
  obtain ⟨s,hs,rfl⟩:=h.only n h1 h2
  exact List.mem_map.2 ⟨s,hs,rfl⟩
 ·intro hn
  obtain ⟨s,hs,rfl⟩:=List.mem_map.1 hn
  obtain ⟨k,hk⟩:=h.has s hs
  exact ⟨by rw [hk];rfl,pre_nameS pre s.base logX⟩
theorem files_segs (pre:ByteArray) (D:DiskA):∀ {l:List SegA},(∀ s ∈ l,SegOk s)→filesL pre (l.map fun s=>nameS pre s.base logX) D=(0,l.map SegA.base,D)
 | [],_=>rfl
 | s::l,h=>by
  have hb:=(h s (List.mem_cons_self ..)).base
  have h1:baseN pre (nameS pre s.base logX) logX=some s.base.toNat:=baseN_nameS pre (by omega) logX
  have h2:baseN pre (nameS pre s.base logX) newX=none:=baseN_end h1 (by decide)
  rw [List.map_cons]
  unfold filesL
  rw [h2]
  rw [if_neg (by rintro ⟨h3,-⟩;cases h3)]
  simp only [Option.isSome_none,Bool.false_eq_true,if_false]
  rw [files_segs pre D fun t ht=>h t (List.mem_cons_of_mem _ ht),h1]
  simp only [List.map_cons]
  have e:((s.base.toNat:Nat):Int)=s.base:=by omega
  rw [e]
  rfl
theorem openS_segs {pre:ByteArray} {D:DiskA}:∀ {l l1:List SegA},SegsOk 0 (l1++l)→(∀ s ∈ l,∃ k,fileD D.fs (nameS pre s.base logX)=some (s.file,k))→openS pre (l.map SegA.base) l1 D=(0,l1++l,D)
 | [],l1,_,_=>by unfold openS;simp
 | s::l,l1,hok,hh=>by
  rw [List.map_cons]
  unfold openS
  have hok2:SegsOk 0 ((l1++[s])++l):=by rwa [List.append_assoc]
  have hs:SegOk s:=(hok.mem s (by simp)).1
  obtain ⟨k,hk⟩:=hh s (List.mem_cons_self ..)
  have hb:¬ s.base<nextL l1:=by
   have:=hs.base
   by_cases h0:l1=[]
   ·subst h0;show ¬ s.base<0;omega
   ·obtain ⟨l0,t,rfl⟩:=snoc_of h0
    rw [nextL_snoc]
    have h1:=hok.skip l0.length (l0.length+1) (by simp) (by omega)
    have e1:(l0++[t]++s::l)[l0.length]'(by simp)=t:=by simp
    have e2:(l0++[t]++s::l)[l0.length+1]'(by simp)=s:=by
     rw [List.getElem_append_right (by simp)];simp
    rw [e1,e2] at h1
    omega
  have hsc:scanA pre l1 D s.base=((true,0),l1++[s],D):=by
   unfold scanA
   rw [hk]
   simp only
   rw [scan_file hs]
   simp only
   rw [if_pos trivial]
  rw [if_neg hb,hsc,if_neg (by simp),if_pos rfl]
  simp only
  rw [openS_segs hok2 fun t ht=>hh t (List.mem_cons_of_mem _ ht),List.append_assoc]
  rfl
theorem Cpl.opened {pre:ByteArray} {l:List SegA} {D:DiskA} (h:Cpl pre l D):lopenA pre D=(0,l,D):=by
 unfold lopenA
 rw [h.names,files_segs pre D fun s hs=>(h.segs.mem s hs).1]
 rw [if_neg (by simp)]
 simp only
 have:=openS_segs (pre:=pre) (D:=D) (l:=l) (l1:=[]) h.segs h.has
 rw [this]
 rfl
theorem Cpl.frame {pre q:ByteArray} {l:List SegA} {D D':DiskA} (h:Cpl q l D) (hok:okA D') (hp:preS pre=true) (hq:preS q=true) (hne:pre≠q) (hf:Fr pre D D'):Cpl q l D' :=
 h.same hok fun m hm=>by
  rw [hf.other m ?_]
  cases hx:(bl (dashN pre)).isPrefixOf (bl m) with
  | false=>rfl
  | true=>exact absurd (dash_two hp hq hx hm) hne
theorem cpl_empty (pre:ByteArray) (n:Nat) (hn:n≤4194304):Cpl pre [] ⟨n,-1,false,[]⟩ :=
 ⟨⟨hn,by show (0:Nat)≤_;omega,by show (0:Nat)≤_;omega,by show -1≤(-1:Int)∧(-1:Int)≤_;omega,List.Pairwise.nil,(fun f h=>by cases h),fun f h=>by cases h⟩,trivial,(fun s h=>by cases h),fun n h=>by cases h⟩
set_option linter.unusedVariables false
set_option linter.unusedSimpArgs false
section
variable {w:World} {l r:List HP} {b:BatM}
theorem out_c (n lo hi:Int) (hs:Sat w l):Ret P F.towpathref03_out #[.int .i64 n,.int .i64 lo,.int .i64 hi] w fun vs w'=>vs=[.bool (!decide (lo≤n∧n≤hi))]∧Sat w' l :=
 towpathref03_out_calls n lo hi <| by
  unfold towpathref03_out
  refine wp_lt ?_
  refine ⟨rfl,?_,hs⟩
  congr 2
  rw [Bool.eq_iff_iff]
  simp only [Bool.or_eq_true,decide_eq_true_eq,Bool.not_eq_true',decide_eq_false_iff_not]
  omega
theorem dspan_c (b:BatM) [hb:FocR l b.x 4 (b.rs.flatMap encR)] (hs:Sat w l):Ret P F.towpathref03_Span #[.agg (encB7 b).toArray] w fun vs w'=>vs=[.int .i64 (spanB b)]∧Sat w' l :=
 towpathref03_Span_calls b.base b.pid b.epoch b.seq b.kind b.time b.x <| by
  unfold towpathref03_Span spanB
  have hl:=hs.slen b.x (xs:=b.rs) (enc:=encR)
  refine wp_boxO hs fun a0 w' hs=>?_
  refine wp_ldG hs ?_
  refine wp_call (dmark_c b hs) fun _ _ hs=>?_
  obtain ⟨rfl,hs⟩:=hs
  refine ret_of ?_
  refine wp_if (fun h=>?_) fun h=>?_
  ·rw [if_pos h];exact ⟨rfl,rfl,hs.tail⟩
  ·rw [if_neg h]
   refine wp_ldO hs ?_
   refine wp_lt ?_
   rw [hl]
   exact ⟨rfl,rfl,hs.tail⟩
theorem dvalid_c (b:BatM) [hb:FocR l b.x 4 (b.rs.flatMap encR)] (hs:Sat w l):Ret P F.towpathref03_Valid #[.agg (encB7 b).toArray] w fun vs w'=>vs=[.int .i64 (validB b)]∧Sat w' l :=
 towpathref03_Valid_calls b.base b.pid b.epoch b.seq b.kind b.time b.x <| by
  unfold towpathref03_Valid validB
  have hl:=hs.slen b.x (xs:=b.rs) (enc:=encR)
  refine wp_boxO hs fun a0 w' hs=>?_
  refine wp_mid (fun v w'=>v=(decide (¬ numsB b),())∧Sat w' (pt a0 (.cells #[.int .i64 b.base,.int .i64 b.pid,.int .i64 b.epoch,.int .i64 b.seq,.int .i64 b.kind,.int .i64 b.time,.slice b.x.a b.x.len b.x.cap] T.api_Batch)::l)) ?_ ?_
  ·have hno:∀ {w'},¬ numsB b→Sat w' (pt a0 (.cells #[.int .i64 b.base,.int .i64 b.pid,.int .i64 b.epoch,.int .i64 b.seq,.int .i64 b.kind,.int .i64 b.time,.slice b.x.a b.x.len b.x.cap] T.api_Batch)::l)→((true,()):Bool × Unit)=(decide (¬ numsB b),())∧Sat w' (pt a0 (.cells #[.int .i64 b.base,.int .i64 b.pid,.int .i64 b.epoch,.int .i64 b.seq,.int .i64 b.kind,.int .i64 b.time,.slice b.x.a b.x.len b.x.cap] T.api_Batch)::l):=fun h hs=>⟨by rw [decide_eq_true h],hs⟩
   refine wp_ldO hs ?_
   refine wp_call (out_c b.kind 0 3 hs) fun _ _ hs=>?_
   obtain ⟨rfl,hs⟩:=hs
   refine ret_of ?_
   refine wp_ldO hs ?_
   refine wp_if (fun h1=>?_) fun h1=>?_
   ·exact wp_lv (hno (fun h=>h1 h.1) hs)
   refine wp_call (out_c b.base 0 1099511627776 hs) fun _ _ hs=>?_
   obtain ⟨rfl,hs⟩:=hs
   refine ret_of ?_
   refine wp_ldO hs ?_
   refine wp_if (fun h2=>?_) fun h2=>?_
   ·exact wp_lv (hno (fun h=>h2 h.2.1) hs)
   refine wp_call (out_c b.pid 0 1048576 hs) fun _ _ hs=>?_
   obtain ⟨rfl,hs⟩:=hs
   refine ret_of ?_
   refine wp_ldO hs ?_
   refine wp_if (fun h3=>?_) fun h3=>?_
   ·exact wp_lv (hno (fun h=>h3 h.2.2.1) hs)
   refine wp_call (out_c b.epoch 0 32767 hs) fun _ _ hs=>?_
   obtain ⟨rfl,hs⟩:=hs
   refine ret_of ?_
   refine wp_ldO hs ?_
   refine wp_if (fun h4=>?_) fun h4=>?_
   ·exact wp_lv (hno (fun h=>h4 h.2.2.2.1) hs)
   refine wp_call (out_c b.seq 0 2147483647 hs) fun _ _ hs=>?_
   obtain ⟨rfl,hs⟩:=hs
   refine ret_of ?_
   refine wp_ldO hs ?_
   refine wp_if (fun h5=>?_) fun h5=>?_
   ·exact wp_lv (hno (fun h=>h5 h.2.2.2.2.1) hs)
   refine wp_call (out_c b.time 0 1099511627776 hs) fun _ _ hs=>?_
   obtain ⟨rfl,hs⟩:=hs
   refine ret_of ?_
   refine wp_lv ⟨?_,hs⟩
   have:numsB b↔(0≤b.time∧b.time≤1099511627776):=⟨fun h=>h.2.2.2.2.2,fun h=>⟨Decidable.not_not.1 h1,Decidable.not_not.1 h2,Decidable.not_not.1 h3,Decidable.not_not.1 h4,Decidable.not_not.1 h5,h⟩⟩
   rw [decide_not,decide_eq_decide.2 this]
  clear hs
  rintro _ w ⟨rfl,hs⟩
  refine wp_on ?_
  refine wp_if (fun h1=>?_) fun h1=>?_
  ·rw [if_pos (.inl h1)];exact ⟨rfl,rfl,hs.tail⟩
  have hnum:numsB b:=Decidable.not_not.1 h1
  refine wp_ldO hs ?_
  refine wp_ldO hs ?_
  refine wp_ldO hs ?_
  refine wp_ldO hs ?_
  refine wp_if (fun h2=>?_) fun h2=>?_
  ·rw [if_pos (.inr fun h=>h.1 ⟨h2.1,or_assoc.1 h2.2⟩)];exact ⟨rfl,rfl,hs.tail⟩
  have h2:¬ (b.pid=0∧(b.kind≠0∨b.epoch≠0∨b.seq≠0)):=fun h=>h2 ⟨h.1,or_assoc.2 h.2⟩
  refine wp_mid (fun v w'=>v=(decide (¬ fitsB b),())∧Sat w' (pt a0 (.cells #[.int .i64 b.base,.int .i64 b.pid,.int .i64 b.epoch,.int .i64 b.seq,.int .i64 b.kind,.int .i64 b.time,.slice b.x.a b.x.len b.x.cap] T.api_Batch)::l)) ?_ ?_
  ·refine wp_tk hs fun w' hs=>?_
   refine wp_ldG hs ?_
   refine wp_hdO hs ?_
   refine wp_call (dmark_c b hs) fun _ w' hs=>?_
   obtain ⟨rfl,hs⟩:=hs
   refine ret_of ?_ ⟨trivial,fun _=>run_ldO hs⟩
   refine wp_ldG hs ?_
   refine wp_untick ?_
   refine wp_if (fun h3=>?_) fun h3=>?_
   ·refine wp_untick ?_
    refine wp_lv ⟨?_,hs⟩
    rw [decide_eq_true]
    rintro ⟨-,h4⟩
    apply h3
    rw [Bool.eq_iff_iff,beq_iff_eq,hl]
    by_cases hm:markB b=true
    ·rw [if_pos hm] at h4;simp [hm,h4.2]
    ·rw [if_neg hm] at h4;simp [hm];intro h5;rw [h5] at h4;simp at h4
   have h3:markB b=true↔b.rs.length=0:=by
    have:=Decidable.not_not.1 h3
    rw [Bool.eq_iff_iff,beq_iff_eq,hl] at this
    rw [this];omega
   refine wp_call (dmark_c b hs) fun _ _ hs=>?_
   obtain ⟨rfl,hs⟩:=hs
   refine ret_of ?_
   refine wp_ldO hs ?_
   refine wp_untick ?_
   refine wp_lv ⟨?_,hs⟩
   have:¬ fitsB b↔(markB b=true∧b.seq≠0):=by
    unfold fitsB
    by_cases hm:markB b=true
    ·rw [if_pos hm]
     have:=h3.1 hm
     constructor
     ·exact fun h=>⟨hm,fun h5=>h ⟨h2,h5,this⟩⟩
     ·exact fun h h5=>h.2 h5.2.1
    ·rw [if_neg hm]
     have:0<b.rs.length:=Nat.pos_of_ne_zero fun h=>hm (h3.2 h)
     constructor
     ·exact fun h=>absurd ⟨h2,this⟩ h
     ·exact fun h=>absurd h.1 hm
   rw [decide_eq_decide.2 this,Bool.decide_and]
   cases markB b <;> simp [bne]
   rfl
  clear hs
  rintro _ w ⟨rfl,hs⟩
  refine wp_on ?_
  refine wp_if (fun h3=>?_) fun h3=>?_
  ·rw [if_pos (.inr h3)];exact ⟨rfl,rfl,hs.tail⟩
  have hfit:fitsB b:=Decidable.not_not.1 h3
  rw [if_neg (fun h=>h.elim h1 h3)]
  refine wp_ldO hs ?_
  refine wp_if (fun h4=>?_) fun h4=>?_
  ·rw [if_pos (by omega)];exact ⟨rfl,rfl,hs.tail⟩
  rw [if_neg (by omega)]
  refine wp_ldO hs ?_
  refine wp_mid (fun v w'=>badF b.rs=0∧Sat w' (pt a0 (.cells #[.int .i64 b.base,.int .i64 b.pid,.int .i64 b.epoch,.int .i64 b.seq,.int .i64 b.kind,.int .i64 b.time,.slice b.x.a b.x.len b.x.cap] T.api_Batch)::l)) ?_ ?_
  ·refine wp_loop (fun k v w=>∃ i:Nat,v=((i:Int),())∧i≤b.rs.length∧b.rs.length-i=k∧badF (b.rs.take i)=0∧Sat w (pt a0 (.cells #[.int .i64 b.base,.int .i64 b.pid,.int .i64 b.epoch,.int .i64 b.seq,.int .i64 b.kind,.int .i64 b.time,.slice b.x.a b.x.len b.x.cap] T.api_Batch)::l)) b.rs.length ⟨0,rfl,by omega,rfl,rfl,hs⟩ ?_
   clear hs
   rintro k _ w ⟨i,rfl,hi,hk,hbad,hs⟩
   refine wp_on ?_
   refine wp_if (fun hc=>?_) fun hc=>?_
   rotate_left
   ·refine wp_pass (wp_lv ⟨?_,hs⟩)
    rwa [List.take_of_length_le (by omega)] at hbad
   have hil:i<b.rs.length:=by omega
   have hbt:=badF_take b.rs i hil hbad
   have hbs':=badF_step b.rs i hil hbad
   refine wp_ixA hs i hil ?_
   refine wp_newO hs fun c w' hs=>?_
   refine wp_stG hs fun w' hs=>?_
   refine wp_ldO hs ?_
   refine wp_ldO hs ?_
   refine wp_if (fun h5=>?_) fun h5=>?_
   ·have e:recF b.rs[i]=7:=by unfold recF;rw [if_pos (by omega)]
    rw [e] at hbt
    have:=hbt (by decide)
    rw [if_pos (by rw [this];decide),this]
    refine wp_pass (wp_pass ?_)
    exact ⟨rfl,rfl,hs.tail.tail⟩
   refine wp_ldO hs ?_
   refine wp_call (out_c b.rs[i].time 0 1099511627776 hs) fun _ _ hs=>?_
   obtain ⟨rfl,hs⟩:=hs
   refine ret_of ?_
   refine wp_ldO hs ?_
   refine wp_ldO hs ?_
   refine wp_if (fun h6=>?_) fun h6=>?_
   ·have e:recF b.rs[i]=2:=by
     unfold recF
     rw [if_neg (by omega),if_pos]
     rcases h6 with h6|⟨h6,h7⟩
     ·exact .inl h6
     ·exact .inr ⟨h6,by omega⟩
    rw [e] at hbt
    have:=hbt (by decide)
    rw [if_pos (by rw [this];decide),this]
    refine wp_pass (wp_pass ?_)
    exact ⟨rfl,rfl,hs.tail.tail⟩
   ·have e:recF b.rs[i]=0:=by
     unfold recF
     rw [if_neg (by omega),if_neg]
     rintro (h7|⟨h7,h8⟩)
     ·exact h6 (.inl h7)
     ·exact h6 (.inr ⟨h7,by omega⟩)
    refine wp_dn (us':=[.int .i64 ((i+1:Nat):Int)]) (by (try simp (disch:=omega) only [w64]);first|rfl|(congr;omega)) ?_
    refine wp_lp (b.rs.length-(i+1)) ?_
    exact ⟨i+1,rfl,by omega,rfl,hbs' e,hs.sub⟩
  clear hs
  rintro _ w ⟨hbad,hs⟩
  refine wp_on ?_
  rw [if_neg (by rw [hbad];simp)]
  have hsp:1≤spanB b∧spanB b≤64:=by
   unfold spanB
   have h3:=hfit.2
   split
   ·omega
   ·rename_i hm
    rw [if_neg hm] at h3
    omega
  obtain ⟨-,hba,-,-,hse,-⟩:=hnum
  refine wp_tk hs fun w' hs=>?_
  refine wp_hdO hs ?_
  refine wp_ldG hs ?_
  refine wp_call (dspan_c b hs) fun _ w' hs=>?_
  obtain ⟨rfl,hs⟩:=hs
  refine ret_of ?_ ⟨trivial,fun _=>run_ldO hs⟩
  refine wp_untick ?_
  rw [w64 (x:=b.base+spanB b) (by omega) (by omega),w64 (x:=b.base+spanB b-1) (by omega) (by omega)]
  refine wp_if (fun h5=>?_) fun h5=>?_
  ·rw [if_pos (.inl (by omega))];exact ⟨rfl,rfl,hs.tail⟩
  refine wp_mid (fun v w'=>v=(decide (b.pid>0∧markB b=false∧b.seq>2147483647-(spanB b-1)),())∧Sat w' l) ?_ ?_
  ·refine wp_ldO hs ?_
   refine wp_ldG hs ?_
   refine wp_if (fun h6=>?_) fun h6=>?_
   rotate_left
   ·exact wp_lv ⟨by rw [decide_eq_false (fun h=>h6 h.1)],hs.tail⟩
   refine wp_call (dmark_c b hs) fun _ _ hs=>?_
   obtain ⟨rfl,hs⟩:=hs
   refine ret_of ?_
   refine wp_ldO hs ?_
   refine wp_ldO hs ?_
   rw [w64 (x:=b.seq+((b.x.len:Nat):Int)) (by omega) (by omega),w64 (x:=b.seq+((b.x.len:Nat):Int)-1) (by omega) (by omega)]
   refine wp_lv ⟨?_,hs.tail⟩
   have:(b.pid>0∧markB b=false∧b.seq>2147483647-(spanB b-1))↔(markB b=false∧b.seq+((b.x.len:Nat):Int)-1>2147483647):=by
    constructor
    ·rintro ⟨-,h7,h8⟩
     refine ⟨h7,?_⟩
     unfold spanB at h8
     rw [if_neg (by rw [h7];simp)] at h8
     omega
    ·rintro ⟨h7,h8⟩
     refine ⟨h6,h7,?_⟩
     unfold spanB
     rw [if_neg (by rw [h7];simp)]
     omega
   rw [decide_eq_decide.2 this,Bool.decide_and]
   cases markB b <;> rfl
  clear hs
  rintro _ w ⟨rfl,hs⟩
  refine wp_on ?_
  refine wp_if (fun h6=>?_) fun h6=>?_
  ·rw [if_pos (.inr h6)];exact ⟨rfl,rfl,hs⟩
  ·rw [if_neg (fun h=>h.elim (fun h=>h5 (by omega)) h6)];exact ⟨rfl,rfl,hs⟩
end
set_option linter.unusedVariables false
set_option linter.unusedSimpArgs false
structure SegR where
 base:Int
 fin:Int
 x:Sl
 bs:List BatM
structure RefM where
 seg:Int
 gap:Int
 SR:List SegR
def SegR.p (s:SegR):SegA:=⟨s.base,s.fin,s.bs.map BatM.p⟩
def RefM.l (R:RefM):List SegA:=R.SR.map SegR.p
def RefM.bs (R:RefM):List BatM:=R.SR.flatMap SegR.bs
def encSR (s:SegR):List Value:=[.int .i64 s.base,.int .i64 s.fin,.slice s.x.a s.x.len s.x.cap]
instance:EncA encSR [.int .i64,.int .i64,.slc] (fun s=>(s.base,s.fin,s.x,())):=⟨fun _=>rfl⟩
instance:EncN encSR 3:=⟨fun _=>rfl,by decide,by simp [encSR,Value.oneCell']⟩
instance:EncF encSR 0 (.int .i64) (fun s=>s.base):=⟨fun _=>rfl⟩
def rsgP (s:SegR):HP:=slc T.api_Batch 7 s.x (s.bs.flatMap encB7)
def rfQ (a:Nat) (z:Sl) (R:RefM):HP:=HP.star (pt a (.cells #[.int .i64 R.seg,.int .i64 R.gap,.slice z.a z.len z.cap] T.towpathref06_Log)) (HP.star (slc T.towpathref06_Segment 3 z (R.SR.flatMap encSR)) (HP.all (R.SR.map rsgP)))
def rfP (a:Nat) (R:RefM):HP:=HP.ex fun z:Sl=>rfQ a z R
section
variable {w:World} {l r:List HP} {a:Nat} {R:RefM}
theorem rf_open (hs:Sat w (rfP a R::l)):∃ z:Sl,Sat w (pt a (.cells #[.int .i64 R.seg,.int .i64 R.gap,.slice z.a z.len z.cap] T.towpathref06_Log)::slc T.towpathref06_Segment 3 z (R.SR.flatMap encSR)::HP.all (R.SR.map rsgP)::l):=by
 obtain ⟨z,hs⟩:=hs.ex
 have hs:=hs.star
 exact ⟨z,((hs.pick [1]).star).pick [2]⟩
theorem rf_close (R:RefM) {z:Sl} (hs:Sat w (pt a (.cells #[.int .i64 R.seg,.int .i64 R.gap,.slice z.a z.len z.cap] T.towpathref06_Log)::slc T.towpathref06_Segment 3 z (R.SR.flatMap encSR)::HP.all (R.SR.map rsgP)::l)):Sat w (rfP a R::l) :=
 .ex_mk z (.star_mk (((hs.pick [1,1]).star_mk).pick [1]))
theorem rsg_rd {SR:List SegR} {s:SegR} (hm:s ∈ SR) [hf:Foc l (HP.all (SR.map rsgP)) r]:FocR l s.x 7 (s.bs.flatMap encB7):=⟨fun w hs=>by
 obtain ⟨L,hs⟩:=(hs.perm hf.perm).all_mem hm
 exact Sat.rd hs⟩
theorem allB_l:allB R.l=R.bs.map BatM.p:=by
 unfold allB RefM.l RefM.bs
 rw [List.flatMap_map,List.map_flatMap]
 rfl
theorem nextG_p (bs:List BatM):nextG (bs.map BatM.p)=nextG bs:=by
 unfold nextG
 rw [getLast_map]
 cases bs.getLast? <;> rfl
theorem reach_p (s:SegR):s.p.reach=max (max s.base s.fin) (nextG s.bs):=by
 unfold SegA.reach SegR.p
 simp only [nextG_p]
theorem rreach_c (s:SegR) [hx:FocR l s.x 7 (s.bs.flatMap encB7)] (hv:∀ b ∈ s.bs,validB b=0) (hbs:∀ b ∈ s.bs,FocR l b.x 4 (b.rs.flatMap encR)) (hb:s.bs.length≤1000000000) (hbf : -9223372036854775808≤s.base∧s.base<9223372036854775808) (hn0:s.bs=[]→0≤s.base) (hs:Sat w l) :
  Ret P F.towpathref06_Segment_reach #[.agg (encSR s).toArray] w fun vs w'=>vs=[.int .i64 s.p.reach]∧Sat w' l :=
 towpathref06_Segment_reach_calls s.base s.fin s.x <| by
  unfold towpathref06_Segment_reach
  have hl:=hs.slen s.x (xs:=s.bs) (enc:=encB7)
  rw [reach_p]
  refine wp_boxO hs fun a0 w' hs=>?_
  refine wp_ldO hs ?_
  refine wp_lt ?_
  refine wp_ldO hs ?_
  refine wp_mid (fun q w'=>q=(max s.base s.fin,())∧Sat w' (pt a0 (.cells [.int .i64 s.base,.int .i64 s.fin,.slice s.x.a s.x.len s.x.cap].toArray T.towpathref06_Segment)::l)) ?_ ?_
  ·refine wp_if (fun h=>?_) fun h=>?_
   ·refine wp_ldO hs ?_
    refine wp_lt ?_
    exact wp_lv ⟨by rw [Int.max_def,if_pos (by omega)],hs⟩
   ·have e:max s.base s.fin=s.base:=by omega
    exact wp_lv ⟨by rw [e],hs⟩
  clear hs
  rintro _ w2 ⟨rfl,hs⟩
  refine wp_ldO hs ?_
  refine wp_mid (fun q w'=>q=(max (max s.base s.fin) (nextG s.bs),())∧Sat w' l) ?_ ?_
  rotate_left
  ·rintro _ w3 ⟨rfl,hs⟩
   refine wp_lt ?_
   exact ⟨rfl,rfl,hs⟩
  refine wp_if (fun h=>?_) fun h=>?_
  rotate_left
  ·have h0:s.bs=[]:=List.length_eq_zero_iff.1 (by omega)
   refine wp_lv ⟨?_,hs.tail⟩
   have:=hn0 h0
   rw [h0]
   show (max s.base s.fin,())=(max (max s.base s.fin) 0,())
   congr 1;omega
  have hp:0<s.bs.length:=by omega
  have hil:s.bs.length-1<s.bs.length:=by omega
  have hnx:nextG s.bs=s.bs[s.bs.length-1].base+spanB s.bs[s.bs.length-1]:=by
   unfold nextG
   rw [List.getLast?_eq_getElem?,List.getElem?_eq_getElem hil]
  obtain ⟨s1,s2,⟨-,hba,-⟩,-,s3⟩:=span_le _ (hv _ (List.getElem_mem hil))
  have hR:=hbs _ (List.getElem_mem hil)
  refine wp_ldO hs ?_
  refine wp_ldO hs ?_
  rw [w64 (by omega) (by omega)]
  refine wp_ixA hs (xs:=s.bs) (enc:=encB7) (s.bs.length-1) hil ?_
  generalize s.bs[s.bs.length-1]=b at *
  refine wp_newO hs fun c w' hs=>?_
  refine wp_stG hs fun w' hs=>?_
  refine wp_tk hs fun w' hs=>?_
  refine wp_hdO hs ?_
  refine wp_ldG hs ?_
  refine wp_call (dspan_c b hs) fun _ w' hs=>?_
  obtain ⟨rfl,hs⟩:=hs
  refine ret_of ?_ (by first|trivial|(repeat (first|exact trivial|exact fun _=>run_ldO hs|exact fun _=>run_ldG hs|refine And.intro ?_ ?_)))
  refine wp_untick ?_
  rw [w64 (by omega) (by omega)]
  refine wp_bind ?_
  refine wp_if (fun h2=>?_) fun h2=>?_
  ·refine wp_tk hs fun w' hs=>?_
   refine wp_hdO hs ?_
   refine wp_ldG hs ?_
   refine wp_call (dspan_c b hs) fun _ w' hs=>?_
   obtain ⟨rfl,hs⟩:=hs
   refine ret_of ?_ (by first|trivial|(repeat (first|exact trivial|exact fun _=>run_ldO hs|exact fun _=>run_ldG hs|refine And.intro ?_ ?_)))
   rw [w64 (by omega) (by omega)]
   refine wp_lt ?_
   refine wp_untick ?_
   refine wp_go ?_
   refine wp_lv ⟨?_,hs.tail.tail⟩
   rw [hnx,Int.max_def (max s.base s.fin),if_pos (by omega)]
  ·refine wp_go ?_
   have e:max (max s.base s.fin) (nextG s.bs)=max s.base s.fin:=by omega
   exact wp_lv ⟨by rw [e],hs.tail.tail⟩
class okR (R:RefM) (l:List HP):Prop where
 segs:SegsOk 0 R.l
 rd:∀ b ∈ R.bs,FocR l b.x 4 (b.rs.flatMap encR)
 len:R.SR.length≤1000000
 all:R.bs.length≤1000000
theorem okR.valid {L:List HP} (h:okR R L):∀ s ∈ R.SR,SegOk s.p∧(∀ b ∈ s.bs,validB b=0∧FocR L b.x 4 (b.rs.flatMap encR))∧s.bs.length≤1000000:=fun s hs=>by
 have h1:=(h.segs.mem s.p (List.mem_map.2 ⟨s,hs,rfl⟩)).1
 refine ⟨h1,fun b hb=>⟨(h1.bs.valid b.p (List.mem_map.2 ⟨b,hb,rfl⟩)).1,h.rd b (List.mem_flatMap.2 ⟨s,hs,hb⟩)⟩,?_⟩
 refine Nat.le_trans ?_ h.all
 obtain ⟨u,v,huv⟩:=List.append_of_mem hs
 unfold RefM.bs
 rw [huv]
 simp only [List.flatMap_append,List.flatMap_cons,List.length_append]
 omega
instance okR.cons {H:HP} {L:List HP} [h:okR R L]:okR R (H::L):=⟨h.segs,fun b hb=>by have:=h.rd b hb;infer_instance,h.len,h.all⟩
theorem rall_c [hf:Fo l rfP a R r] [hok:okR R r] (hs:Sat w l):Ret P F.towpathref06_Log_All #[.pointer (some ⟨a,0,none⟩)] w fun vs w'=>∃ y:Sl,vs=[y.v]∧Sat w' (slc T.api_Batch 7 y (R.bs.flatMap encB7)::rfP a R::r) :=
 towpathref06_Log_All_calls _ <| by
  unfold towpathref06_Log_All
  obtain ⟨z,hs⟩:=rf_open (hs.perm hf.perm)
  have hl:=hs.slen z (xs:=R.SR) (enc:=encSR)
  have hln:=hok.len
  refine wp_nn ?_
  refine wp_ldO hs ?_
  refine wp_mid (fun q w'=>∃ y:Sl,q=(y,())∧Sat w' (slc T.api_Batch 7 y (R.bs.flatMap encB7)::rfP a R::r)) ?_ ?_
  rotate_left
  ·rintro _ w2 ⟨y,rfl,hs⟩
   exact ⟨rfl,y,rfl,hs⟩
  refine wp_loop (fun m v w=>∃ (i:Nat) (y:Sl),v=(y,((i:Int),()))∧i≤R.SR.length∧R.SR.length-i=m∧Sat w (slc T.api_Batch 7 y (((R.SR.take i).flatMap SegR.bs).flatMap encB7)::pt a (.cells #[.int .i64 R.seg,.int .i64 R.gap,.slice z.a z.len z.cap] T.towpathref06_Log)::slc T.towpathref06_Segment 3 z (R.SR.flatMap encSR)::HP.all (R.SR.map rsgP)::r)) R.SR.length ⟨0,⟨none,0,0⟩,rfl,by omega,rfl,hs.slc_nil⟩ ?_
  clear hs
  rintro m _ w ⟨i,y,rfl,hi,hm,hs⟩
  refine wp_on ?_
  refine wp_if (fun hc=>?_) fun hc=>?_
  rotate_left
  ·refine wp_pass (wp_lv ⟨y,rfl,?_⟩)
   rw [List.take_of_length_le (by omega)] at hs
   exact (rf_close R (hs.pick [1,1,1])).pick [1]
  have hil:i<R.SR.length:=by omega
  refine wp_ixA hs (xs:=R.SR) (enc:=encSR) i hil ?_
  refine wp_newO hs fun c w' hs=>?_
  refine wp_stG hs fun w' hs=>?_
  refine wp_ldO hs ?_
  have hR:FocR (HP.all (R.SR.map rsgP)::r) R.SR[i].x 7 (R.SR[i].bs.flatMap encB7):=rsg_rd (List.getElem_mem hil)
  have hbl:((R.SR.take i).flatMap SegR.bs).length+R.SR[i].bs.length≤1000000:=by
   refine Nat.le_trans ?_ hok.all
   unfold RefM.bs
   have e:R.SR=R.SR.take i++R.SR[i]::R.SR.drop (i+1):=by rw [← List.drop_eq_getElem_cons hil,List.take_append_drop]
   have:=congrArg (fun x:List SegR=>(x.flatMap SegR.bs).length) e
   simp only [List.flatMap_append,List.flatMap_cons,List.length_append] at this
   omega
  refine wp_app' (xs:=(R.SR.take i).flatMap SegR.bs) (ys:=R.SR[i].bs) (enc:=encB7) hs fun y' w' hs=>?_
  rw [show IntKind.wrap .i64 ((i:Int)+1)=((i+1:Nat):Int) by rw [w64 (by omega) (by omega)];omega]
  refine wp_lp (R.SR.length-(i+1)) ⟨i+1,y',rfl,by omega,rfl,?_⟩
  have e:(R.SR.take (i+1)).flatMap SegR.bs=(R.SR.take i).flatMap SegR.bs++R.SR[i].bs:=by
   rw [List.take_succ_eq_append_getElem hil,List.flatMap_append];simp
  rw [e]
  exact hs.sub
end
set_option linter.unusedVariables false
set_option linter.unusedSimpArgs false
instance:EncF encR 0 .str (fun r=>r.key):=⟨fun _=>rfl⟩
def lastK (rs:List RecM):ByteArray:=match rs.getLast? with
 | none=>⟨#[]⟩
 | some x=>x.key
theorem recsL_snocK (time:Int) (rs:List RecM) (r:RecM):recsL time ⟨#[]⟩ (rs++[r])=recsL time ⟨#[]⟩ rs++recL time (lastK rs) r:=recsL_snoc time rs ⟨#[]⟩ r
section
variable {w:World} {l r:List HP}
theorem dtext_c (t:ByteArray) (ht:t.size≤1000000000) (hs:Sat w l):Ret P F.towpathref01_Text #[.string t] w fun vs w'=>∃ z:Sl,vs=[z.v]∧Sat w' (slc T.uint8 1 z ((uI (t.size:Nat)++bl t).flatMap encU)::l) :=
 towpathref01_Text_calls t <| by
  unfold towpathref01_Text
  refine wp_call (dint_c ((t.size:Nat):Int) (by omega) hs) fun _ w' hs=>?_
  obtain ⟨x,rfl,hs⟩:=hs
  refine ret_of ?_
  have hl:=hs.slen x
  have hul:=uI_len ((t.size:Nat):Int)
  refine wp_apT (t0:=t) (xs:=uI (t.size:Nat)) hs (fun z w' hs=>?_) (by omega)
  exact ⟨rfl,z,rfl,hs⟩
theorem dflag_c (b:Bool) (hs:Sat w l):Ret P F.towpathref01_Flag #[.bool b] w fun vs w'=>∃ z:Sl,vs=[z.v]∧Sat w' (slc T.uint8 1 z ([flagB b].flatMap encU)::l) :=
 towpathref01_Flag_calls b <| by
  unfold towpathref01_Flag
  refine wp_if (fun h=>?_) fun h=>?_
  ·subst h
   refine wp_slit1 hs (enc:=encU) (1:UInt8) fun z w' hs=>?_
   exact ⟨rfl,z,rfl,hs⟩
  ·have h:b=false:=by simpa using h
   subst h
   refine wp_slit1 hs (enc:=encU) (0:UInt8) fun z w' hs=>?_
   exact ⟨rfl,z,rfl,hs⟩
set_option maxHeartbeats 1000000 in
theorem dencode_c (b:BatM) [hb:FocR l b.x 4 (b.rs.flatMap encR)] (hs:Sat w l) :
  Ret P F.towpathref03_Encode #[.agg (encB7 b).toArray] w fun vs w'=>(validB b≠0∧vs=[.slice none 0 0,.int .i64 (validB b)]∧Sat w' l)∨(validB b=0∧∃ z:Sl,vs=[z.v,.int .i64 0]∧Sat w' (slc T.uint8 1 z ((batL b).flatMap encU)::l)) :=
 towpathref03_Encode_calls b.base b.pid b.epoch b.seq b.kind b.time b.x <| by
  unfold towpathref03_Encode
  have hlx:=hs.slen b.x (xs:=b.rs) (enc:=encR)
  refine wp_boxO hs fun a0 w' hs=>?_
  refine wp_ldG hs ?_
  refine wp_call (dvalid_c b hs) fun _ w' hs=>?_
  obtain ⟨rfl,hs⟩:=hs
  refine ret_of ?_
  refine wp_lt ?_
  refine wp_if (fun h=>?_) fun h=>?_
  ·refine wp_lt ?_
   exact ⟨rfl,.inl ⟨h,rfl,hs.tail⟩⟩
  have hv:validB b=0:=Decidable.not_not.1 h
  obtain ⟨-,-,⟨hk,hba,hpi,hep,hsq,htm⟩,hfit,-⟩:=span_le b hv
  obtain ⟨h64,hrs⟩:=valid_recs hv
  have ek:IntKind.wrap .u8 b.kind=(((UInt8.ofNat b.kind.toNat).toNat:Nat):Int):=by
   rw [wu8 (by omega) (by omega),UInt8.toNat_ofNat'];omega
  have hul1:=uI_len b.base
  have hul2:=uI_len b.pid
  have hul3:=uI_len b.epoch
  have hul4:=uI_len b.seq
  have hul5:=uI_len b.time
  refine wp_ldO hs ?_
  rw [ek]
  refine wp_litx hs (enc:=encU) [1,UInt8.ofNat b.kind.toNat] fun z1 w' hs=>?_
  refine wp_ldO hs ?_
  refine wp_call (dint_c b.base (by omega) hs) fun _ w' hs=>?_
  obtain ⟨z2,rfl,hs⟩:=hs
  refine ret_of ?_
  refine wp_app' (xs:=[1,UInt8.ofNat b.kind.toNat]) (ys:=uI b.base) (enc:=encU) hs (fun z3 w' hs=>?_) (by simp only [List.length_cons,List.length_nil];omega)
  refine wp_ldO hs ?_
  refine wp_call (dint_c b.pid (by omega) hs) fun _ w' hs=>?_
  obtain ⟨z4,rfl,hs⟩:=hs
  refine ret_of ?_
  refine wp_app' (xs:=[1,UInt8.ofNat b.kind.toNat]++uI b.base) (ys:=uI b.pid) (enc:=encU) hs (fun z5 w' hs=>?_) (by simp only [List.length_append,List.length_cons,List.length_nil];omega)
  have hhd:[1,UInt8.ofNat b.kind.toNat]++uI b.base++uI b.pid=hdL b:=by unfold hdL;simp
  rw [hhd] at hs
  replace hs:Sat w' (slc T.uint8 1 z5 ((hdL b).flatMap encU)::pt a0 (.cells (cB b) T.api_Batch)::l):=hs.sub
  have hdl:(hdL b).length≤22:=by rw [← hhd];simp only [List.length_append,List.length_cons,List.length_nil];omega
  refine wp_ldO hs ?_
  refine wp_mid (fun q w'=>∃ z:Sl,q=(z,())∧Sat w' (slc T.uint8 1 z ((hdL b++if b.pid>0 then uI b.epoch else []).flatMap encU)::pt a0 (.cells (cB b) T.api_Batch)::l)) ?_ ?_
  ·refine wp_if (fun h2=>?_) fun h2=>?_
   ·refine wp_ldO hs ?_
    refine wp_call (dint_c b.epoch (by omega) hs) fun _ w' hs=>?_
    obtain ⟨z6,rfl,hs⟩:=hs
    refine ret_of ?_
    refine wp_app' (xs:=hdL b) (ys:=uI b.epoch) (enc:=encU) hs fun z7 w' hs=>?_
    refine wp_lv ⟨z7,rfl,?_⟩
    rw [if_pos h2]
    exact hs.sub
   ·refine wp_lv ⟨z5,rfl,?_⟩
    rw [if_neg h2,List.append_nil]
    exact hs
  clear hs
  rintro _ w ⟨z8,rfl,hs⟩
  refine wp_on ?_
  refine wp_mid (fun q w'=>q=(decide (b.pid>0∧markB b=false),())∧Sat w' (slc T.uint8 1 z8 ((hdL b++if b.pid>0 then uI b.epoch else []).flatMap encU)::pt a0 (.cells (cB b) T.api_Batch)::l)) ?_ ?_
  ·refine wp_ldO hs ?_
   refine wp_ldG hs ?_
   refine wp_if (fun h2=>?_) fun h2=>?_
   ·refine wp_call (dmark_c b hs) fun _ w' hs=>?_
    obtain ⟨rfl,hs⟩:=hs
    refine ret_of ?_
    refine wp_lv ⟨?_,hs⟩
    have e:decide (b.pid>0∧markB b=false)=!markB b:=by
     rw [Bool.eq_iff_iff,decide_eq_true_iff]
     simp [h2]
    rw [e]
   ·exact wp_lv ⟨by rw [decide_eq_false fun h=>h2 h.1],hs⟩
  clear hs
  rintro _ w ⟨rfl,hs⟩
  refine wp_on ?_
  have hml:(hdL b++midL b).length≤42:=by
   unfold midL
   rw [List.length_append]
   split
   ·split
    ·simp only [List.length_append,List.length_nil];omega
    ·simp only [List.length_append];omega
   ·simp only [List.length_nil];omega
  refine wp_mid (fun q w'=>∃ z:Sl,q=(z,())∧Sat w' (slc T.uint8 1 z ((hdL b++midL b).flatMap encU)::pt a0 (.cells (cB b) T.api_Batch)::l)) ?_ ?_
  ·refine wp_if (fun h2=>?_) fun h2=>?_
   ·have h2:b.pid>0∧markB b=false:=by simpa using h2
    refine wp_ldO hs ?_
    refine wp_call (dint_c b.seq (by omega) hs) fun _ w' hs=>?_
    obtain ⟨z6,rfl,hs⟩:=hs
    refine ret_of ?_
    rw [if_pos h2.1] at hs
    refine wp_app' (xs:=hdL b++uI b.epoch) (ys:=uI b.seq) (enc:=encU) hs (fun z7 w' hs=>?_) (by rw [List.length_append];omega)
    refine wp_lv ⟨z7,rfl,?_⟩
    have e:hdL b++midL b=hdL b++uI b.epoch++uI b.seq:=by unfold midL;rw [if_pos h2.1,h2.2,if_neg (by simp),List.append_assoc]
    rw [e]
    exact hs.sub
   ·have h2:¬ (b.pid>0∧markB b=false):=by simpa using h2
    refine wp_lv ⟨z8,rfl,?_⟩
    have e:midL b=if b.pid>0 then uI b.epoch else []:=by
     unfold midL
     split
     ·rename_i h3
      have hm:markB b=true:=by
       cases hm:markB b with
       | true=>rfl
       | false=>exact absurd ⟨h3,hm⟩ h2
      rw [hm,if_pos rfl,List.append_nil]
     ·rfl
    rw [e]
    exact hs
  clear hs
  rintro _ w ⟨z9,rfl,hs⟩
  refine wp_on ?_
  refine wp_ldO hs ?_
  refine wp_call (dint_c b.time (by omega) hs) fun _ w' hs=>?_
  obtain ⟨z3,rfl,hs⟩:=hs
  refine ret_of ?_
  refine wp_app' (xs:=hdL b++midL b) (ys:=uI b.time) (enc:=encU) hs (fun z4 w' hs=>?_) (by omega)
  refine wp_ldG hs ?_
  refine wp_call (dmark_c b hs) fun _ w' hs=>?_
  obtain ⟨rfl,hs⟩:=hs
  refine ret_of ?_
  refine wp_if (fun h3=>?_) fun h3=>?_
  ·refine ⟨rfl,.inr ⟨hv,z4,rfl,?_⟩⟩
   rw [batL_eq,h3,if_pos rfl,List.append_nil]
   exact hs.sub
  have h3:markB b=false:=by simpa using h3
  have hcl:=uI_len ((b.rs.length:Nat):Int)
  refine wp_ldO hs ?_
  rw [hlx]
  refine wp_call (dint_c ((b.rs.length:Nat):Int) (by omega) hs) fun _ w' hs=>?_
  obtain ⟨z5,rfl,hs⟩:=hs
  refine ret_of ?_
  generalize hX:hdL b++midL b++uI b.time=X at hs
  have hXl:X.length≤60:=by rw [← hX,List.length_append];omega
  refine wp_app' (xs:=X) (ys:=uI (b.rs.length:Nat)) (enc:=encU) hs (fun z6 w' hs=>?_) (by omega)
  refine wp_ldO hs ?_
  generalize hY:X++uI ((b.rs.length:Nat):Int)=Y at hs
  have hYl:Y.length≤80:=by rw [← hY];simp only [List.length_append];omega
  have hfin:batL b=Y++recsL b.time ⟨#[]⟩ b.rs:=by
   rw [batL_eq,hX,h3,if_neg (by simp),← hY,List.append_assoc]
  refine wp_mid (fun q w'=>∃ z:Sl,q=(z,())∧Sat w' (slc T.uint8 1 z ((batL b).flatMap encU)::l)) ?_ ?_
  rotate_left
  ·rintro _ w' ⟨z,rfl,hs⟩
   exact ⟨rfl,.inr ⟨hv,z,rfl,hs⟩⟩
  have hrec:=recs_le hv
  refine wp_loop (fun m v w=>∃ (i:Nat) (z:Sl),v=(z,((i:Int),()))∧i≤b.rs.length∧b.rs.length-i=m∧Sat w (slc T.uint8 1 z ((Y++recsL b.time ⟨#[]⟩ (b.rs.take i)).flatMap encU)::pt a0 (.cells (cB b) T.api_Batch)::l)) b.rs.length ⟨0,z6,rfl,by omega,rfl,by
   rw [List.take_zero]
   show Sat _ (slc T.uint8 1 z6 ((Y++[]).flatMap encU)::_)
   rw [List.append_nil]
   exact hs.sub⟩ ?_
  clear hs
  rintro m _ w ⟨i,z,rfl,hi,hm,hs⟩
  refine wp_on ?_
  refine wp_if (fun hc=>?_) fun hc=>?_
  rotate_left
  ·refine wp_pass (wp_lv ⟨z,rfl,?_⟩)
   have hi2:i=b.rs.length:=by omega
   rw [hi2,List.take_length,← hfin] at hs
   exact hs.sub
  have hil:i<b.rs.length:=by omega
  obtain ⟨hr1,hr2,hr3,hr4⟩:=recF_zero (hrs b.rs[i] (List.getElem_mem hil))
  have hsn:=recsL_snocK b.time (b.rs.take i) b.rs[i]
  rw [← List.take_succ_eq_append_getElem hil] at hsn
  have hln:=hrec (i+1)
  rw [hsn,List.length_append] at hln
  have hah:∃ ahead:ByteArray,lastK (b.rs.take i)=ahead∧ahead.size≤1024∧(i=0→ahead=⟨#[]⟩)∧∀ h:0<i,ahead=(b.rs[i-1]'(by omega)).key:=by
   by_cases h0:i=0
   ·subst h0
    exact ⟨⟨#[]⟩,rfl,by show 0≤1024;omega,fun _=>rfl,fun h=>by omega⟩
   ·have e:(b.rs.take i).getLast? = some (b.rs[i-1]'(by omega)):=by
     rw [take_last (by omega),if_neg h0,List.getElem?_eq_getElem (by omega)]
    exact ⟨(b.rs[i-1]'(by omega)).key,by unfold lastK;rw [e],(recF_zero (hrs _ (List.getElem_mem (by omega)))).1,fun h=>absurd h h0,fun _=>rfl⟩
  obtain ⟨ahead,hahe,hahs,hah0,hah1⟩:=hah
  rw [hahe] at hsn hln
  have hal:=alikeL_le (bl ahead) (bl b.rs[i].key)
  rw [size_bl,size_bl] at hal
  have hrl:recL b.time ahead b.rs[i]=(sintL (b.rs[i].time-b.time)++([flagB b.rs[i].gone]++(uI (alikeL (bl ahead) (bl b.rs[i].key):Nat)++tailL ahead b.rs[i].key)))++if b.rs[i].gone then [] else uI b.rs[i].value.size++bl b.rs[i].value:=by
   unfold recL
   simp only [List.append_assoc,List.cons_append,List.nil_append,List.singleton_append]
  generalize hZ:Y++recsL b.time ⟨#[]⟩ (b.rs.take i)=Z at *
  have hZl:Z.length≤200000:=by rw [← hZ,List.length_append];omega
  have htl1:=sintL_len (b.rs[i].time-b.time)
  have htl2:=uI_len ((alikeL (bl ahead) (bl b.rs[i].key):Nat):Int)
  have htl3:(tailL ahead b.rs[i].key).length≤1034:=by
   unfold tailL
   have:=uI_len (((b.rs[i].key.size-alikeL (bl ahead) (bl b.rs[i].key):Nat)):Int)
   rw [List.length_append,List.length_drop,size_bl]
   omega
  refine wp_mid (fun q w'=>∃ z:Sl,q=(z,())∧Sat w' (slc T.uint8 1 z ((Z++recL b.time ahead b.rs[i]).flatMap encU)::pt a0 (.cells (cB b) T.api_Batch)::l)) ?_ ?_
  rotate_left
  ·rintro _ w2 ⟨z',rfl,hs⟩
   rw [show IntKind.wrap .i64 ((i:Int)+1)=((i+1:Nat):Int) by rw [w64 (by omega) (by omega)];omega]
   refine wp_lp (b.rs.length-(i+1)) ⟨i+1,z',rfl,by omega,rfl,?_⟩
   rw [hsn,← List.append_assoc,hZ]
   exact hs
  refine wp_ixA hs (xs:=b.rs) (enc:=encR) i hil ?_
  refine wp_newO hs fun a1 w' hs=>?_
  refine wp_lt ?_
  refine wp_stG hs fun w' hs=>?_
  refine wp_mid (fun q w'=>q=(((alikeL (bl ahead) (bl b.rs[i].key):Nat):Int),())∧Sat w' (pt a1 (.cells (cR b.rs[i]) T.api_Record)::slc T.uint8 1 z (Z.flatMap encU)::pt a0 (.cells (cB b) T.api_Batch)::l)) ?_ ?_
  ·refine wp_loop (fun k v w=>∃ j:Nat,v=((j:Int),())∧j≤alikeL (bl ahead) (bl b.rs[i].key)∧alikeL (bl ahead) (bl b.rs[i].key)-j=k∧Sat w (pt a1 (.cells (cR b.rs[i]) T.api_Record)::slc T.uint8 1 z (Z.flatMap encU)::pt a0 (.cells (cB b) T.api_Batch)::l)) (alikeL (bl ahead) (bl b.rs[i].key)) ⟨0,rfl,by omega,rfl,hs⟩ ?_
   clear hs
   rintro k _ w ⟨j,rfl,hj,hk2,hs⟩
   refine wp_on ?_
   refine wp_tk hs fun w' hs=>?_
   refine wp_ldO hs ?_
   refine wp_ldO hs ?_
   by_cases h0:i=0
   ·have hg:∀ {c:Bool},¬ ((decide ((i:Int)>0) && c)=true):=fun {c} h=>by rw [h0] at h;simp at h
    have hg2:∀ {c d:Bool},¬ ((decide ((i:Int)>0) && c && d)=true):=fun {c d} h=>by rw [h0] at h;simp at h
    refine wp_exF (fun h=>absurd h hg) ?_
    refine wp_gr (⟨#[]⟩:ByteArray) hg ?_
    refine wp_gr (⟨#[]⟩:ByteArray) hg2 ?_
    refine wp_must (fun h=>absurd h hg2) ?_
    refine wp_gr (⟨none,0,0⟩:Sl) hg2 ?_
    refine wp_exF (fun h=>absurd h hg2) ?_
    refine wp_gr (⟨#[]⟩:ByteArray) hg2 ?_
    refine wp_must (fun h=>absurd h hg2) ?_
    refine wp_untick ?_
    refine wp_ite (fun hcc=>?_) fun hcc=>?_
    ·have hc3:=hcc
     simp only [Bool.and_eq_true,decide_eq_true_eq] at hc3
     omega
    ·have ha0:=hah0 h0
     have e0:alikeL (bl ahead) (bl b.rs[i].key)=0:=by rw [ha0];rfl
     refine wp_pass (wp_lv ⟨?_,hs⟩)
     congr 2
     omega
   ·have hgt:0<i:=by omega
    have hpre:=hah1 hgt
    have ew:IntKind.wrap .i64 ((i:Int)-1)=((i-1:Nat):Int):=by rw [w64 (by omega) (by omega)];omega
    rw [ew]
    refine wp_ixFgg hs (xs:=b.rs) (enc:=encR) ahead (fun _=>⟨i-1,by omega,rfl,hpre.symm⟩) ?_
    refine wp_ldO hs ?_
    refine wp_must (fun h=>?_) ?_
    ·simp only [Bool.and_eq_true,decide_eq_true_eq] at h;omega
    refine wp_ldO hs ?_
    refine wp_ixFgg hs (xs:=b.rs) (enc:=encR) ahead (fun _=>⟨i-1,by omega,rfl,hpre.symm⟩) ?_
    refine wp_must (fun h=>?_) ?_
    ·simp only [Bool.and_eq_true,decide_eq_true_eq] at h;omega
    refine wp_untick ?_
    have hbt:∀ (c:ByteArray) (h:j<(bl c).length),bt c (j:Int)=(((bl c)[j]).toNat:Int):=fun c h=>by
     unfold bt
     rw [Int.toNat_natCast,List.getD_eq_getElem?_getD,List.getElem?_eq_getElem h];rfl
    have htk:=alikeL_take (bl ahead) (bl b.rs[i].key)
    refine wp_ite (fun hcc=>?_) fun hcc=>?_
    ·simp only [Bool.and_eq_true,decide_eq_true_eq,beq_iff_eq] at hcc
     obtain ⟨⟨⟨h1,h2⟩,h3⟩,h4⟩:=hcc
     have l1:j<(bl ahead).length:=by rw [size_bl];omega
     have l2:j<(bl b.rs[i].key).length:=by rw [size_bl];omega
     rw [hbt _ l1,hbt _ l2] at h4
     have hne:j≠alikeL (bl ahead) (bl b.rs[i].key):=by
      intro he
      have hmax:∀ (x y:List UInt8) (h1:alikeL x y<x.length) (h2:alikeL x y<y.length),x[alikeL x y]≠y[alikeL x y]:=by
       intro x
       induction x with
       | nil=>intro y h1;simp at h1
       | cons p x ih =>
        intro y h1 h2
        cases y with
        | nil=>simp at h2
        | cons q y =>
         by_cases hpq:p=q
         ·have e:alikeL (p::x) (q::y)=alikeL x y+1:=by simp [alikeL,hpq]
          have l1:alikeL x y<x.length:=by rw [e] at h1;simpa using h1
          have l2:alikeL x y<y.length:=by rw [e] at h2;simpa using h2
          have:=ih y l1 l2
          intro hh
          apply this
          have e1:(p::x)[alikeL (p::x) (q::y)]? = (p::x)[alikeL x y+1]? := by rw [e]
          have e2:(q::y)[alikeL (p::x) (q::y)]? = (q::y)[alikeL x y+1]? := by rw [e]
          rw [List.getElem?_eq_getElem h1,List.getElem?_cons_succ,List.getElem?_eq_getElem l1] at e1
          rw [List.getElem?_eq_getElem h2,List.getElem?_cons_succ,List.getElem?_eq_getElem l2] at e2
          exact (Option.some.inj e1).symm.trans (hh.trans (Option.some.inj e2))
         ·have e:alikeL (p::x) (q::y)=0:=by simp [alikeL,hpq]
          intro hh
          apply hpq
          have e1:(p::x)[alikeL (p::x) (q::y)]? = (p::x)[0]? := by rw [e]
          have e2:(q::y)[alikeL (p::x) (q::y)]? = (q::y)[0]? := by rw [e]
          rw [List.getElem?_eq_getElem h1] at e1
          rw [List.getElem?_eq_getElem h2] at e2
          have e1:=Option.some.inj e1
          have e2:=Option.some.inj e2
          exact e1.symm.trans (hh.trans e2)
      have hx:=hmax (bl ahead) (bl b.rs[i].key) (by rw [← he];exact l1) (by rw [← he];exact l2)
      apply hx
      apply UInt8.toNat_inj.1
      have h5:((bl b.rs[i].key)[j]).toNat=((bl ahead)[j]).toNat:=by omega
      simp only [← he]
      omega
     refine wp_ltx (y:=((j+1:Nat):Int)) ?_ (by rw [w64 (by omega) (by omega)];omega)
     exact wp_lp (alikeL (bl ahead) (bl b.rs[i].key)-(j+1)) ⟨j+1,rfl,by omega,rfl,hs⟩
    ·have he:j=alikeL (bl ahead) (bl b.rs[i].key):=by
      apply Decidable.byContradiction
      intro hne
      have hjl:j<alikeL (bl ahead) (bl b.rs[i].key):=by omega
      have l1:j<(bl ahead).length:=by rw [size_bl];omega
      have l2:j<(bl b.rs[i].key).length:=by rw [size_bl];omega
      have e1:(bl ahead)[j]? = (bl b.rs[i].key)[j]? := by
       have:=congrArg (fun x:List UInt8=>x[j]?) htk
       simp only [List.getElem?_take,if_pos hjl] at this
       exact this
      rw [List.getElem?_eq_getElem l1,List.getElem?_eq_getElem l2] at e1
      have e1:=Option.some.inj e1
      rw [Bool.eq_false_iff] at hcc
      apply hcc
      simp only [Bool.and_eq_true,decide_eq_true_eq,beq_iff_eq]
      refine ⟨⟨⟨by omega,by rw [size_bl] at l2;omega⟩,by rw [size_bl] at l1;omega⟩,?_⟩
      rw [hbt _ l1,hbt _ l2,e1]
     refine wp_pass (wp_lv ⟨by rw [← he],hs⟩)
  clear hs
  rintro _ w ⟨rfl,hs⟩
  refine wp_on ?_
  refine wp_ldO hs ?_
  refine wp_ldO hs ?_
  rw [w64 (by omega) (by omega)]
  refine wp_call (dsint_c (b.rs[i].time-b.time) (by omega) hs) fun _ w' hs=>?_
  obtain ⟨u1_,rfl,hs⟩:=hs
  refine ret_of ?_
  refine wp_app' (xs:=Z) (ys:=sintL (b.rs[i].time-b.time)) (enc:=encU) hs (fun y1 w' hs=>?_) (by omega)
  refine wp_ldO hs ?_
  refine wp_call (dflag_c b.rs[i].gone hs) fun _ w' hs=>?_
  obtain ⟨u2_,rfl,hs⟩:=hs
  refine ret_of ?_
  refine wp_app' (xs:=Z++sintL (b.rs[i].time-b.time)) (ys:=[flagB b.rs[i].gone]) (enc:=encU) hs (fun y2 w' hs=>?_) (by simp only [List.length_append,List.length_cons,List.length_nil];omega)
  refine wp_call (dint_c ((alikeL (bl ahead) (bl b.rs[i].key):Nat):Int) (by omega) hs) fun _ w' hs=>?_
  obtain ⟨u3_,rfl,hs⟩:=hs
  refine ret_of ?_
  refine wp_app' (xs:=Z++sintL (b.rs[i].time-b.time)++[flagB b.rs[i].gone]) (ys:=uI ((alikeL (bl ahead) (bl b.rs[i].key):Nat):Int)) (enc:=encU) hs (fun y3 w' hs=>?_) (by simp only [List.length_append,List.length_cons,List.length_nil];omega)
  refine wp_ldO hs ?_
  refine wp_must (by omega) ?_
  have ext:(ByteArray.extract b.rs[i].key (alikeL (bl ahead) (bl b.rs[i].key)) b.rs[i].key.size).size=b.rs[i].key.size-alikeL (bl ahead) (bl b.rs[i].key):=by rw [ByteArray.size_extract];omega
  have exb:bl (ByteArray.extract b.rs[i].key (alikeL (bl ahead) (bl b.rs[i].key)) b.rs[i].key.size)=(bl b.rs[i].key).drop (alikeL (bl ahead) (bl b.rs[i].key)):=by
   unfold bl
   rw [ByteArray.data_extract,Array.toList_extract,List.extract_eq_take_drop]
   exact List.take_of_length_le (by rw [List.length_drop];exact Nat.le_refl _)
  rw [Int.toNat_natCast]
  refine wp_call (dtext_c (ByteArray.extract b.rs[i].key (alikeL (bl ahead) (bl b.rs[i].key)) b.rs[i].key.size) (by omega) hs) fun _ w' hs=>?_
  obtain ⟨u4_,rfl,hs⟩:=hs
  refine ret_of ?_
  rw [ext,exb] at hs
  have hs:Sat w' (slc T.uint8 1 u4_ ((tailL ahead b.rs[i].key).flatMap encU)::_):=hs
  refine wp_app' (xs:=Z++sintL (b.rs[i].time-b.time)++[flagB b.rs[i].gone]++uI ((alikeL (bl ahead) (bl b.rs[i].key):Nat):Int)) (ys:=tailL ahead b.rs[i].key) (enc:=encU) hs (fun y4 w' hs=>?_) (by simp only [List.length_append,List.length_cons,List.length_nil];omega)
  refine wp_ldO hs ?_
  have hvl:=uI_len ((b.rs[i].value.size:Nat):Int)
  have hvs:=size_bl b.rs[i].value
  generalize hV:Z++sintL (b.rs[i].time-b.time)++[flagB b.rs[i].gone]++uI ((alikeL (bl ahead) (bl b.rs[i].key):Nat):Int)++tailL ahead b.rs[i].key=V at hs
  have hVl:V.length≤300000:=by rw [← hV];simp only [List.length_append,List.length_cons,List.length_nil];omega
  have hVr:Z++recL b.time ahead b.rs[i]=V++if b.rs[i].gone then [] else uI b.rs[i].value.size++bl b.rs[i].value:=by
   rw [hrl,← hV]
   simp only [List.append_assoc]
  rw [hVr]
  refine wp_mid (fun q w'=>∃ z:Sl,q=(z,())∧Sat w' (slc T.uint8 1 z ((V++if b.rs[i].gone then [] else uI b.rs[i].value.size++bl b.rs[i].value).flatMap encU)::pt a0 (.cells (cB b) T.api_Batch)::l)) ?_ ?_
  rotate_left
  ·rintro _ w2 ⟨z',rfl,hs⟩
   exact wp_lv ⟨z',rfl,hs⟩
  refine wp_if (fun h5=>?_) fun h5=>?_
  ·have h5:b.rs[i].gone=false:=by simpa using h5
   refine wp_ldO hs ?_
   refine wp_call (dtext_c b.rs[i].value (by omega) hs) fun _ w' hs=>?_
   obtain ⟨u,rfl,hs⟩:=hs
   refine ret_of ?_
   refine wp_app' (xs:=V) (ys:=uI (b.rs[i].value.size:Nat)++bl b.rs[i].value) (enc:=encU) hs (fun z7 w' hs=>?_) (by simp only [List.length_append];omega)
   refine wp_lv ⟨z7,rfl,?_⟩
   rw [if_neg (by rw [h5];simp)]
   exact hs.sub
  ·have h5:b.rs[i].gone=true:=by simpa using h5
   refine wp_lv ⟨y4,rfl,?_⟩
   rw [if_pos h5,List.append_nil]
   exact hs.sub
end
set_option linter.unusedVariables false
set_option linter.unusedSimpArgs false
def bitsC (f:Nat→Bool):List Value:=(List.range 32).map fun j=>.bool (f j)
theorem bitsC_len (f:Nat→Bool):(bitsC f).length=32:=by simp [bitsC]
theorem bitsC_get (f:Nat→Bool) {i:Nat} (h:i<32):(bitsC f)[i]? = some (.bool (f i)):=by
 unfold bitsC
 rw [List.getElem?_map,List.getElem?_range h];rfl
theorem bitsC_set (f:Nat→Bool) (i:Nat) (x:Bool):(bitsC f).set i (.bool x)=bitsC fun j=>if j=i then x else f j:=by
 apply List.ext_getElem?
 intro j
 by_cases hj:j<32
 ·rw [bitsC_get _ hj,List.getElem?_set,bitsC_len]
  by_cases hij:i=j
  ·subst hij;simp [hj]
  ·rw [if_neg hij,bitsC_get _ hj,if_neg (Ne.symm hij)]
 ·rw [List.getElem?_eq_none (by rw [List.length_set,bitsC_len];omega),List.getElem?_eq_none (by rw [bitsC_len];omega)]
theorem bitsC_ext {f g:Nat→Bool} (h:∀ j,j<32→f j=g j):bitsC f=bitsC g:=by
 unfold bitsC
 exact List.map_congr_left fun j hj=>by rw [h j (List.mem_range.1 hj)]
section
variable {w:World} {l r:List HP} {Q:Post} {S:World→Prop} {b:Nat} {g:Prop} {f:Nat→Bool}
theorem wp_ldB {k:Bool→Prog} {m:Nat} (hs:Sat w l) [hb:FocB l b (.cells (bitsC f).toArray T.a32_bool) r] (i:Nat) (hi:i<32) (h:(k (f i)).wp P S w Q) (hm:m=i:=by first|rfl|omega) :
  (Prog.read g (ld T.bool (Addr.add ⟨b,0,none⟩ m)) sB (u1 k)).wp P S w Q:=by
 subst hm
 refine ⟨(f m,()),fun _=>?_,h⟩
 have hT:One P T.bool:=inferInstance
 rw [add_mk,Nat.zero_add]
 exact run_ld1 (P:=P) (off:=m) (v:=.bool (f m)) hT.ok.1 (hs.focB b).get (by simpa using bitsC_get f hi)
theorem wp_stB {k:Prog} {m:Nat} {x:Bool} (hs:Sat w l) [hb:FocB l b (.cells (bitsC f).toArray T.a32_bool) r] (i:Nat) (hi:i<32)
  (h:∀ w',Sat w' (pt b (.cells (bitsC fun j=>if j=i then x else f j).toArray T.a32_bool)::r)→k.wp P S w' Q) (hm:m=i:=by first|rfl|omega) (hS:∀ w',S w':=by exact fun _=>trivial) :
  (Prog.actU (st T.bool (Addr.add ⟨b,0,none⟩ m) (.bool x)) k).wp P S w Q:=by
 subst hm
 have hT:One P T.bool:=inferInstance
 have hc:(Value.bool x).cells=#[.bool x]:=rfl
 have hrun:=run_st (P:=P) (v:=.bool x) (off:=m) hT.ok.2 (hs.focB b).get (by simp [bitsC_len];omega) (by rw [hc];rfl) (by rw [hc];simp [Value.oneCell']) (unfrozen_zero _ _)
 rw [hc] at hrun
 have e:putCells (bitsC f).toArray m [.bool x]=(bitsC fun j=>if j=m then x else f j).toArray:=by
  rw [← bitsC_set];simp [putCells]
 rw [show (#[Value.bool x]:Array Value).toList=[.bool x] from rfl,e] at hrun
 have hs':=(hs.focB b).set (o':=.cells (bitsC fun j=>if j=m then x else f j).toArray T.a32_bool)
 rw [add_mk,Nat.zero_add]
 exact ⟨_,hrun,hS _,h _ hs'⟩
theorem bitE {c i:Nat} (hc:c<4294967296) (hi:i<32):(Int.tmod (Int.fdiv (c:Int) (2 ^ i)) (2:Int) == 1)=(BitVec.ofNat 32 c).getLsbD i:=by
 have e:((2:Int) ^ i)=((2 ^ i:Nat):Int):=by simp
 rw [e,fdiv_nat c (Int.natCast_nonneg _),Int.toNat_natCast,tmod_nat _ (by decide),BitVec.getLsbD_ofNat,Nat.testBit_eq_decide_div_mod_eq,Bool.eq_iff_iff]
 simp [hi]
 show ((c / 2 ^ i % 2:Nat):Int)=1↔_
 omega
theorem minW {i n:Nat} (h:i≤n) (h64:n≤64):min (Int.toNat (IntKind.wrap .u64 (i:Int))) n=i:=by
 rw [wu64m,Nat.mod_eq_of_lt (by omega)];omega
theorem getS (s:BitVec 32) (x:Bool) {j:Nat} (hj:j<32):(refS s x).getLsbD j=((s >>> 1).getLsbD j != ((s.getLsbD 0 != x) && polyB.getLsbD j)):=by
 unfold refS
 rw [BitVec.getLsbD_xor]
 by_cases h:(s.getLsbD 0 != x)=true
 ·rw [if_pos h,h];simp
 ·rw [if_neg h]
  have h':(s.getLsbD 0 != x)=false:=by cases hc:(s.getLsbD 0 != x) with
   | false=>rfl
   | true=>exact absurd hc h
  rw [h'];simp
theorem dsum_c (x:Sl) (bs:List UInt8) [hx:FocR l x 1 (bs.flatMap encU)] (hn:bs.length≤1000000000) (hs:Sat w l) :
  Ret P F.towpathref02_Sum #[x.v] w fun vs w'=>vs=[.int .u32 ((sumL bs:Nat):Int)]∧Sat w' l :=
 towpathref02_Sum_calls x <| by
  unfold towpathref02_Sum
  have hl:=hs.slen x (xs:=bs) (enc:=encU)
  refine wp_newO hs fun b w' hs=>?_
  have hs:Sat w' (pt b (.cells (bitsC fun _=>false).toArray T.a32_bool)::l):=hs
  refine wp_mid (fun _ w'=>Sat w' (pt b (.cells (bitsC (BitVec.allOnes 32).getLsbD).toArray T.a32_bool)::l)) ?_ ?_
  ·refine wp_loop (fun k u w=>∃ i:Nat,u=((i:Int),())∧i≤32∧32-i=k∧Sat w (pt b (.cells (bitsC fun j=>decide (j<i)).toArray T.a32_bool)::l)) 32 ⟨0,rfl,by omega,rfl,?_⟩ ?_
   ·have:(bitsC fun j=>decide (j<0))=bitsC fun _=>false:=bitsC_ext fun j _=>by simp
    rw [this];exact hs
   clear hs
   rintro k _ w ⟨i,rfl,hi,hk,hs⟩
   refine wp_on ?_
   refine wp_if (fun hc=>?_) fun hc=>?_
   rotate_left
   ·refine wp_pass (wp_lv ?_)
    have:(bitsC fun j=>decide (j<i))=bitsC (BitVec.allOnes 32).getLsbD:=bitsC_ext fun j hj=>by
     rw [BitVec.getLsbD_allOnes]
     rw [decide_eq_true (by omega:j<i),decide_eq_true hj]
    rw [← this];exact hs
   refine wp_must ⟨by omega,hc⟩ ?_
   refine wp_stB hs i (by omega) (fun w' hs=>?_)
   refine wp_ltx (y:=((i+1:Nat):Int)) ?_ (by rw [w64 (by omega) (by omega)];omega)
   refine wp_lp (32-(i+1)) ?_
   refine ⟨i+1,rfl,by omega,rfl,?_⟩
   have:(bitsC fun j=>decide (j<i+1))=bitsC fun j=>if j=i then true else decide (j<i):=bitsC_ext fun j _=>by
    by_cases hji:j=i
    ·subst hji;simp
    ·rw [if_neg hji];congr 1;apply propext;omega
   rw [this];exact hs
  clear hs
  rintro _ w hs
  refine wp_on ?_
  refine wp_mid (fun _ w'=>Sat w' (pt b (.cells (bitsC (crcL (BitVec.allOnes 32) bs).getLsbD).toArray T.a32_bool)::l)) ?_ ?_
  ·refine wp_loop (fun k u w=>∃ i:Nat,u=((i:Int),())∧i≤bs.length∧bs.length-i=k∧Sat w (pt b (.cells (bitsC (crcL (BitVec.allOnes 32) (bs.take i)).getLsbD).toArray T.a32_bool)::l)) bs.length ⟨0,rfl,by omega,rfl,hs⟩ ?_
   clear hs
   rintro k _ w ⟨i,rfl,hi,hk,hs⟩
   refine wp_on ?_
   refine wp_if (fun hc=>?_) fun hc=>?_
   rotate_left
   ·refine wp_pass (wp_lv ?_)
    rw [List.take_of_length_le (by omega)] at hs
    exact hs
   have hil:i<bs.length:=by omega
   refine wp_mid (fun _ w'=>Sat w' (pt b (.cells (bitsC (crcL (BitVec.allOnes 32) (bs.take (i+1))).getLsbD).toArray T.a32_bool)::l)) ?_ ?_
   rotate_left
   ·rintro _ w' hs
    refine wp_on ?_
    refine wp_dn (us':=[.int .i64 ((i+1:Nat):Int)]) (by (try simp (disch:=omega) only [w64]);first|rfl|(congr;omega)) ?_
    refine wp_lp (bs.length-(i+1)) ?_
    exact ⟨i+1,rfl,by omega,rfl,hs⟩
   rw [crcL_take _ bs i hil]
   refine wp_ix1 hs (xs:=bs) (enc:=encU) i hil ?_
   refine wp_lt ?_
   rw [crcB_bits]
   generalize crcL (BitVec.allOnes 32) (bs.take i)=s at hs ⊢
   have hcl:=bs[i].toNat_lt
   generalize bs[i]=c at *
   show Prog.wp P _ _ _ _
   refine wp_mid (fun _ w'=>Sat w' (pt b (.cells (bitsC (refN (BitVec.ofNat 32 c.toNat) 8 s).getLsbD).toArray T.a32_bool)::l)) ?_ (by rintro _ w' hs;refine wp_on ?_;exact wp_lv hs)
   refine wp_loop (fun k u w=>∃ i:Nat,u=((i:Int),())∧i≤8∧8-i=k∧Sat w (pt b (.cells (bitsC (refN (BitVec.ofNat 32 c.toNat) i s).getLsbD).toArray T.a32_bool)::l)) 8 ⟨0,rfl,by omega,rfl,hs⟩ ?_
   clear hs
   rintro k _ w ⟨i,rfl,hi,hk,hs⟩
   refine wp_on ?_
   refine wp_if (fun hc=>?_) fun hc=>?_
   rotate_left
   ·obtain rfl:i=8:=by omega
    exact wp_pass (wp_lv hs)
   refine wp_mid (fun _ w'=>Sat w' (pt b (.cells (bitsC (refN (BitVec.ofNat 32 c.toNat) (i+1) s).getLsbD).toArray T.a32_bool)::l)) ?_ ?_
   rotate_left
   ·rintro _ w' hs
    refine wp_on ?_
    refine wp_ltx (y:=((i+1:Nat):Int)) ?_ (by rw [w64 (by omega) (by omega)];omega)
    refine wp_lp (8-(i+1)) ?_
    exact ⟨i+1,rfl,by omega,rfl,hs⟩
   show Prog.wp P _ _ _ _
   have hstep:refN (BitVec.ofNat 32 c.toNat) (i+1) s=refS (refN (BitVec.ofNat 32 c.toNat) i s) ((BitVec.ofNat 32 c.toNat).getLsbD i):=rfl
   rw [hstep]
   generalize refN (BitVec.ofNat 32 c.toNat) i s=t at hs ⊢
   refine wp_must ⟨by omega,by omega⟩ ?_
   refine wp_ldB hs 0 (by omega) ?_
   refine wp_must (by rw [wu64m];omega) ?_
   rw [minW (by omega) (by omega),bitE (by omega) (by omega)]
   have hbool:(!(t.getLsbD 0 == (BitVec.ofNat 32 c.toNat).getLsbD i))=(t.getLsbD 0 != (BitVec.ofNat 32 c.toNat).getLsbD i):=rfl
   rw [hbool]
   refine wp_lt ?_
   generalize (BitVec.ofNat 32 c.toNat).getLsbD i=d
   refine wp_mid (fun _ w'=>Sat w' (pt b (.cells (bitsC fun j=>if j<31 then t.getLsbD (j+1) else t.getLsbD j).toArray T.a32_bool)::l)) ?_ ?_
   ·refine wp_loop (fun k u w=>∃ i:Nat,u=((i:Int),())∧i≤31∧31-i=k∧Sat w (pt b (.cells (bitsC fun j=>if j<i then t.getLsbD (j+1) else t.getLsbD j).toArray T.a32_bool)::l)) 31 ⟨0,rfl,by omega,rfl,by simpa using hs⟩ ?_
    clear hs
    rintro k _ w ⟨i,rfl,hi,hk,hs⟩
    refine wp_on ?_
    refine wp_if (fun hc=>?_) fun hc=>?_
    rotate_left
    ·obtain rfl:i=31:=by omega
     exact wp_pass (wp_lv hs)
    have e1:IntKind.wrap .i64 ((i:Int)+1)=((i+1:Nat):Int):=by rw [w64 (by omega) (by omega)];omega
    rw [e1]
    refine wp_must ⟨by omega,by omega⟩ ?_
    refine wp_ldB hs (i+1) (by omega) ?_
    refine wp_must ⟨by omega,by omega⟩ ?_
    refine wp_stB hs i (by omega) (fun w' hs=>?_)
    refine wp_lt ?_
    refine wp_lp (31-(i+1)) ?_
    refine ⟨i+1,rfl,by omega,rfl,?_⟩
    have:(bitsC fun j=>if j<i+1 then t.getLsbD (j+1) else t.getLsbD j)=bitsC fun j=>if j=i then (if i+1<i then t.getLsbD (i+1+1) else t.getLsbD (i+1)) else if j<i then t.getLsbD (j+1) else t.getLsbD j:=bitsC_ext fun j _=>by
     by_cases hji:j=i
     ·subst hji;rw [if_pos (by omega),if_pos rfl,if_neg (by omega)]
     ·rw [if_neg hji]
      by_cases hlt:j<i
      ·rw [if_pos hlt,if_pos (by omega)]
      ·rw [if_neg hlt,if_neg (by omega)]
    rw [this];exact hs
   clear hs
   rintro _ w hs
   refine wp_on ?_
   refine wp_must ⟨by omega,by omega⟩ ?_
   refine wp_stB hs 31 (by omega) (fun w' hs=>?_)
   have hsh:(bitsC fun j=>if j=31 then false else if j<31 then t.getLsbD (j+1) else t.getLsbD j)=bitsC (t >>> 1).getLsbD:=bitsC_ext fun j hj=>by
    rw [BitVec.getLsbD_ushiftRight]
    by_cases h31:j=31
    ·subst h31;rw [if_pos rfl]
     exact (BitVec.getLsbD_of_ge t 32 (by omega)).symm
    ·rw [if_neg h31,if_pos (by omega),Nat.add_comm]
   rw [hsh] at hs
   refine wp_mid (fun _ w'=>Sat w' (pt b (.cells (bitsC (refS t d).getLsbD).toArray T.a32_bool)::l)) ?_ (by rintro _ w' hs;refine wp_on ?_;exact wp_lv hs)
   refine wp_loop (fun k u w=>∃ i:Nat,u=((i:Int),())∧i≤32∧32-i=k∧Sat w (pt b (.cells (bitsC fun j=>if j<i then (refS t d).getLsbD j else (t >>> 1).getLsbD j).toArray T.a32_bool)::l)) 32 ⟨0,rfl,by omega,rfl,by rw [bitsC_ext (g:=(t >>> 1).getLsbD) fun j _=>if_neg (Nat.not_lt_zero j)];exact hs⟩ ?_
   clear hs
   rintro k _ w ⟨i,rfl,hi,hk,hs⟩
   refine wp_on ?_
   refine wp_if (fun hc=>?_) fun hc=>?_
   rotate_left
   ·obtain rfl:i=32:=by omega
    refine wp_pass (wp_lv ?_)
    have:(bitsC fun j=>if j<32 then (refS t d).getLsbD j else (t >>> 1).getLsbD j)=bitsC (refS t d).getLsbD:=bitsC_ext fun j hj=>if_pos hj
    rw [← this];exact hs
   refine wp_must (fun _=>by rw [wu64m];omega) ?_
   refine wp_mid (fun _ w'=>Sat w' (pt b (.cells (bitsC fun j=>if j<i+1 then (refS t d).getLsbD j else (t >>> 1).getLsbD j).toArray T.a32_bool)::l)) ?_ ?_
   rotate_left
   ·rintro _ w' hs
    refine wp_on ?_
    refine wp_ltx (y:=((i+1:Nat):Int)) ?_ (by rw [w64 (by omega) (by omega)];omega)
    refine wp_lp (32-(i+1)) ?_
    exact ⟨i+1,rfl,by omega,rfl,hs⟩
   have hb2:(Int.tmod (Int.fdiv 3988292384 (2 ^ min (Int.toNat (IntKind.wrap .u64 (i:Int))) 32)) (2:Int) == 1)=polyB.getLsbD i:=by
    rw [minW (by omega) (by omega)]
    exact bitE (c:=3988292384) (by omega) (by omega)
   rw [hb2]
   have hg:=getS t d (j:=i) (by omega)
   refine wp_if (fun h=>?_) fun h=>?_
   ·refine wp_must ⟨by omega,by omega⟩ ?_
    refine wp_ldB hs i (by omega) ?_
    refine wp_must ⟨by omega,by omega⟩ ?_
    refine wp_stB hs i (by omega) (fun w' hs=>?_)
    refine wp_lv ?_
    have:(bitsC fun j=>if j<i+1 then (refS t d).getLsbD j else (t >>> 1).getLsbD j)=bitsC fun j=>if j=i then !(if i<i then (refS t d).getLsbD i else (t >>> 1).getLsbD i) else if j<i then (refS t d).getLsbD j else (t >>> 1).getLsbD j:=bitsC_ext fun j _=>by
     by_cases hji:j=i
     ·subst hji
      have hb:((t.getLsbD 0 != d) && polyB.getLsbD j)=true:=by rw [Bool.and_eq_true];exact ⟨bne_iff_ne.2 h.1,h.2⟩
      rw [if_pos (by omega),if_pos rfl,if_neg (by omega),hg,hb]
      cases (t >>> 1).getLsbD j <;> rfl
     ·rw [if_neg hji]
      by_cases hlt:j<i
      ·rw [if_pos hlt,if_pos (by omega)]
      ·rw [if_neg hlt,if_neg (by omega)]
    rw [this];exact hs
   ·refine wp_lv ?_
    have:(bitsC fun j=>if j<i+1 then (refS t d).getLsbD j else (t >>> 1).getLsbD j)=bitsC fun j=>if j<i then (refS t d).getLsbD j else (t >>> 1).getLsbD j:=bitsC_ext fun j _=>by
     by_cases hji:j=i
     ·subst hji
      have:((t.getLsbD 0 != d) && polyB.getLsbD j)=false:=by
       cases hc:((t.getLsbD 0 != d) && polyB.getLsbD j) with
       | false=>rfl
       | true=>exact absurd (by simpa using hc) h
      rw [if_pos (by omega),if_neg (by omega),hg,this]
      cases (t >>> 1).getLsbD j <;> rfl
     ·by_cases hlt:j<i
      ·rw [if_pos hlt,if_pos (by omega)]
      ·rw [if_neg hlt,if_neg (by omega)]
    rw [this];exact hs
  clear hs
  rintro _ w hs
  refine wp_on ?_
  have hsum:sumL bs=(~~~ (crcL (BitVec.allOnes 32) bs)).toNat:=by
   unfold sumL moreL
   rw [BitVec.not_zero]
  rw [hsum]
  generalize crcL (BitVec.allOnes 32) bs=s at hs ⊢
  have hlt:=(~~~ s).isLt
  refine wp_mid (fun u w'=>u=((((~~~ s).toNat:Nat):Int),())∧Sat w' l) ?_ (by rintro _ w' ⟨rfl,hs⟩;refine wp_on ?_;refine wp_lt ?_;exact ⟨rfl,rfl,hs⟩)
  refine wp_loop (fun k u w=>∃ i:Nat,u=((((~~~ s).toNat % 2 ^ i:Nat):Int),(i:Int),())∧i≤32∧32-i=k∧Sat w (pt b (.cells (bitsC s.getLsbD).toArray T.a32_bool)::l)) 32 ⟨0,by simp [Nat.mod_one],by omega,rfl,hs⟩ ?_
  clear hs
  rintro k _ w ⟨i,rfl,hi,hk,hs⟩
  refine wp_on ?_
  refine wp_if (fun hc=>?_) fun hc=>?_
  rotate_left
  ·obtain rfl:i=32:=by omega
   refine wp_pass (wp_lv ⟨?_,hs.tail⟩)
   rw [Nat.mod_eq_of_lt hlt]
  refine wp_must ⟨by omega,by omega⟩ ?_
  refine wp_ldB hs i (by omega) ?_
  have hmod:(~~~ s).toNat % 2 ^ (i+1)=(~~~ s).toNat % 2 ^ i+2 ^ i*((~~~ s).toNat.testBit i).toNat:=by
   rw [Nat.mod_pow_succ,Nat.testBit_eq_decide_div_mod_eq]
   rcases Nat.mod_two_eq_zero_or_one ((~~~ s).toNat / 2 ^ i) with h|h <;> rw [h] <;> rfl
  have hbit:(~~~ s).toNat.testBit i=!s.getLsbD i:=by
   rw [BitVec.testBit_toNat,BitVec.getLsbD_not,decide_eq_true (show i<32 by omega),Bool.true_and]
  rw [hbit] at hmod
  refine wp_mid (fun u w'=>u=((((~~~ s).toNat % 2 ^ (i+1):Nat):Int),())∧Sat w' (pt b (.cells (bitsC s.getLsbD).toArray T.a32_bool)::l)) ?_ ?_
  rotate_left
  ·rintro _ w' ⟨rfl,hs⟩
   refine wp_on ?_
   refine wp_ltx (y:=((i+1:Nat):Int)) ?_ (by rw [w64 (by omega) (by omega)];omega)
   refine wp_lp (32-(i+1)) ?_
   exact ⟨i+1,rfl,by omega,rfl,hs⟩
  refine wp_if (fun h=>?_) fun h=>?_
  ·refine wp_must (by rw [wu64m];omega) ?_
   have h:s.getLsbD i=false:=by simpa using h
   rw [h] at hmod
   have hle:(~~~ s).toNat % 2 ^ (i+1)≤(~~~ s).toNat:=Nat.mod_le ..
   have e:IntKind.wrap .u32 ((((~~~ s).toNat % 2 ^ i:Nat):Int)+IntKind.wrap .u32 (1*2 ^ min (Int.toNat (IntKind.wrap .u64 (i:Int))) 32))=(((~~~ s).toNat % 2 ^ (i+1):Nat):Int):=by
    have e2:(1:Int)*2 ^ i=((2 ^ i:Nat):Int):=by simp
    have hm:(~~~ s).toNat % 2 ^ (i+1)=(~~~ s).toNat % 2 ^ i+2 ^ i:=by rw [hmod];simp
    rw [minW (by omega) (by omega),e2,wu32m,← Int.natCast_add,wu32m,hm,Nat.mod_eq_of_lt (show 2 ^ i<4294967296 by omega),Nat.mod_eq_of_lt (by omega)]
   refine wp_lw e ?_
   exact wp_lv ⟨rfl,hs⟩
  ·have h:s.getLsbD i=true:=by simpa using h
   rw [h] at hmod
   refine wp_lv ⟨?_,hs⟩
   rw [hmod];simp
theorem dseal_c (x:Sl) (bs:List UInt8) [hx:FocR l x 1 (bs.flatMap encU)] (hn:bs.length≤1000000000) (hs:Sat w l) :
  Ret P F.towpathref02_Seal #[x.v] w fun vs w'=>∃ z:Sl,vs=[z.v]∧Sat w' (slc T.uint8 1 z ((sealL bs).flatMap encU)::l) :=
 towpathref02_Seal_calls x <| by
  unfold towpathref02_Seal
  have hl:=hs.slen x (xs:=bs) (enc:=encU)
  refine wp_if (fun h=>?_) fun h=>?_
  ·have:sealL bs=[]:=by unfold sealL;rw [if_pos (by omega)]
   rw [this]
   exact ⟨rfl,⟨none,0,0⟩,rfl,hs.slc_nil⟩
  have e:sealL bs=headL bs++fourL (sumL (headL bs)):=by unfold sealL;rw [if_neg (by omega)]
  have hhl:(headL bs).length=bs.length+4:=by unfold headL;rw [List.length_append,four_len];omega
  have hsl:=sumL_lt (headL bs)
  rw [hl,wu32m,Nat.mod_eq_of_lt (by omega)]
  refine wp_call (dfour_c bs.length (by omega) hs) fun _ _ hs=>?_
  obtain ⟨y,rfl,hs⟩:=hs
  refine ret_of ?_
  refine wp_app' (xs:=fourL bs.length) (ys:=bs) (enc:=encU) hs (fun z w' hs=>?_) (by rw [four_len];omega)
  have hs:Sat w' (slc T.uint8 1 z ((headL bs).flatMap encU)::l):=hs
  refine wp_call (dsum_c z (headL bs) (by omega) hs) fun _ _ hs=>?_
  obtain ⟨rfl,hs⟩:=hs
  refine ret_of ?_
  refine wp_call (dfour_c (sumL (headL bs)) hsl hs) fun _ _ hs=>?_
  obtain ⟨u,rfl,hs⟩:=hs
  refine ret_of ?_
  have hs:=hs.pick [1,0]
  refine wp_app' (xs:=headL bs) (ys:=fourL (sumL (headL bs))) (enc:=encU) hs (fun z w' hs=>?_) (by rw [four_len];omega)
  rw [← e] at hs
  exact ⟨rfl,z,rfl,hs.sub⟩
end
set_option linter.unusedVariables false
set_option linter.unusedSimpArgs false
section
variable {w:World} {l r:List HP} {a:Nat} {R:RefM} {z:Sl} {g1 g2:Int}
theorem okR.base {L:List HP} (h:okR R L):∀ s ∈ R.SR,0≤s.base∧s.base≤1099511627776:=fun s hs=>(h.valid s hs).1.base
theorem rnextV_c [hb:FocB l a (.cells #[.int .i64 g1,.int .i64 g2,.slice z.a z.len z.cap] T.towpathref06_Log) r] (hz:FocR l z 3 (R.SR.flatMap encSR)) (hx:∀ s ∈ R.SR,FocR l s.x 7 (s.bs.flatMap encB7)) [hok:okR R l] (hs:Sat w l) :
  Ret P F.towpathref06_Log_Next #[.pointer (some ⟨a,0,none⟩)] w fun vs w'=>vs=[.int .i64 (nextL R.l)]∧Sat w' l :=
 towpathref06_Log_Next_calls _ <| by
  unfold towpathref06_Log_Next
  have hl:=hs.slen z (xs:=R.SR) (enc:=encSR)
  have hln:=hok.len
  refine wp_nn ?_
  refine wp_ldO hs ?_
  refine wp_if (fun h=>?_) fun h=>?_
  ·have h0:R.SR=[]:=List.length_eq_zero_iff.1 (by omega)
   refine ⟨rfl,?_,hs⟩
   unfold RefM.l;rw [h0];rfl
  have hil:R.SR.length-1<R.SR.length:=by omega
  refine wp_tk hs fun w' hs=>?_
  refine wp_nn ?_
  refine wp_ldO hs ?_
  refine wp_nn ?_
  refine wp_ldO hs ?_
  rw [w64 (by omega) (by omega)]
  refine wp_ixA hs (xs:=R.SR) (enc:=encSR) (R.SR.length-1) hil ?_
  obtain ⟨v1,v2,v3⟩:=hok.valid _ (List.getElem_mem hil)
  have hn:nextL R.l=R.SR[R.SR.length-1].p.reach:=by
   unfold nextL RefM.l
   rw [getLast_map,List.getLast?_eq_getElem?,List.getElem?_eq_getElem hil]
   rfl
  rw [hn]
  have hR:=hx _ (List.getElem_mem hil)
  have hb0:=hok.base _ (List.getElem_mem hil)
  refine wp_call (rreach_c R.SR[R.SR.length-1] (fun b hb=>(v2 b hb).1) (fun b hb=>(v2 b hb).2) (by omega) (by omega) (fun _=>hb0.1) hs) fun _ w' hs=>?_
  obtain ⟨rfl,hs⟩:=hs
  refine ret_of ?_
  refine wp_lt ?_
  refine wp_untick ?_
  exact ⟨rfl,rfl,hs⟩
theorem rplacedV_c (x:Sl) (bs:List BatM) [hb:FocB l a (.cells #[.int .i64 g1,.int .i64 g2,.slice z.a z.len z.cap] T.towpathref06_Log) r] (hz:FocR l z 3 (R.SR.flatMap encSR)) (hxs:∀ s ∈ R.SR,FocR l s.x 7 (s.bs.flatMap encB7)) [hok:okR R l]
  (hbl:bs.length≤100000) (hx:FocR l x 7 (bs.flatMap encB7)) (hbs:∀ b ∈ bs,FocR l b.x 4 (b.rs.flatMap encR)) (hs:Sat w l) :
  Ret P F.towpathref06_Log_Placed #[.pointer (some ⟨a,0,none⟩),x.v] w fun vs w' =>
   ((placeL (nextL R.l) bs).1≠0∧vs=[.slice none 0 0,.int .i64 (placeL (nextL R.l) bs).1]∧Sat w' l) ∨
   ((placeL (nextL R.l) bs).1=0∧∃ z1:Sl,vs=[z1.v,.int .i64 0]∧Sat w' (slc T.api_Batch 7 z1 ((placeL (nextL R.l) bs).2.flatMap encB7)::l)) :=
 towpathref06_Log_Placed_calls _ x <| by
  unfold towpathref06_Log_Placed
  have hl:=hs.slen x (xs:=bs) (enc:=encB7)
  refine wp_call (rnextV_c (a:=a) hz hxs hs) fun _ w' hs=>?_
  obtain ⟨rfl,hs⟩:=hs
  refine ret_of ?_
  refine wp_lt ?_
  generalize nextL R.l=n0
  refine wp_mid (fun q w'=>∃ z1:Sl,(placeL n0 bs).1=0∧q=(z1,())∧Sat w' (slc T.api_Batch 7 z1 ((placeL n0 bs).2.flatMap encB7)::l)) ?_ ?_
  rotate_left
  ·rintro _ w2 ⟨z1,h1,rfl,hs⟩
   exact ⟨rfl,.inr ⟨h1,z1,rfl,hs⟩⟩
  have h0:Sat w' (slc T.api_Batch 7 ⟨none,0,0⟩ (([]:List BatM).flatMap encB7)::l):=hs.slc_nil
  refine wp_loop (fun m v w=>∃ (i:Nat) (n:Int) (done:List BatM) (z1:Sl),v=(n,z1,(i:Int),())∧i≤bs.length∧bs.length-i=m∧done.length=i ∧
   placeL n0 bs=(if (placeL n (bs.drop i)).1≠0 then ((placeL n (bs.drop i)).1,[]) else (0,done++(placeL n (bs.drop i)).2)) ∧
   Sat w (slc T.api_Batch 7 z1 (done.flatMap encB7)::l)) bs.length
   ⟨0,n0,[],⟨none,0,0⟩,rfl,by omega,rfl,rfl,?_,h0⟩ ?_
  ·rw [List.drop_zero,List.nil_append]
   by_cases h:(placeL n0 bs).1≠0
   ·rw [if_pos h]
    have:∀ {bs:List BatM} {n:Int},(placeL n bs).1≠0→(placeL n bs).2=[]:=by
     intro bs
     induction bs with
     | nil=>intro n h;exact absurd rfl h
     | cons b bs ih =>
      intro n h
      unfold placeL at h ⊢
      split
      ·rfl
      ·split
       ·rfl
       ·rename_i h1 h2
        rw [if_neg h1,if_neg h2] at h
        exact absurd rfl h
    rw [← this h]
   ·rw [if_neg h]
    have h:=Decidable.not_not.1 h
    rw [← h]
  clear hs h0
  rintro m _ w ⟨i,n,done,z1,rfl,hi,hm,hdl,hpl,hs⟩
  refine wp_on ?_
  refine wp_if (fun hc=>?_) fun hc=>?_
  rotate_left
  ·have e:bs.drop i=[]:=List.drop_eq_nil_of_le (by omega)
   rw [e] at hpl
   simp only [placeL,List.append_nil] at hpl
   have hpl:placeL n0 bs=(0,done):=by rw [hpl];rfl
   refine wp_pass (wp_lv ⟨z1,by rw [hpl],rfl,?_⟩)
   rw [hpl]
   exact hs
  have hil:i<bs.length:=by omega
  have hdrop:bs.drop i=bs[i]::bs.drop (i+1):=List.drop_eq_getElem_cons hil
  rw [hdrop] at hpl
  have hR:=hbs bs[i] (List.getElem_mem hil)
  refine wp_ixA hs (xs:=bs) (enc:=encB7) i hil ?_
  refine wp_newO hs fun a w' hs=>?_
  refine wp_stG hs fun w' hs=>?_
  refine wp_stO hs fun w' hs=>?_
  refine wp_ldG hs ?_
  have hRt:FocR l (bs[i].to n).x 4 ((bs[i].to n).rs.flatMap encR):=hR
  refine wp_call (dvalid_c (bs[i].to n) hs) fun _ w' hs=>?_
  have hunf:placeL n (bs[i]::bs.drop (i+1))=if validB (bs[i].to n)≠0 then (validB (bs[i].to n),[]) else if (placeL (n+spanB bs[i]) (bs.drop (i+1))).1≠0 then ((placeL (n+spanB bs[i]) (bs.drop (i+1))).1,[]) else (0,bs[i].to n::(placeL (n+spanB bs[i]) (bs.drop (i+1))).2):=rfl
  obtain ⟨rfl,hs⟩:=hs
  refine ret_of ?_
  refine wp_lt ?_
  refine wp_if (fun hv=>?_) fun hv=>?_
  ·refine wp_lt ?_
   rw [if_pos hv] at hunf
   have hpl:placeL n0 bs=(validB (bs[i].to n),[]):=by rw [hpl,hunf,if_pos hv]
   refine wp_pass (wp_pass ⟨rfl,.inl ⟨by rw [hpl];exact hv,by rw [hpl],hs.sub⟩⟩)
  ·have hv:=Decidable.not_not.1 hv
   rw [if_neg (by rw [hv];simp)] at hunf
   obtain ⟨s1,s2,⟨-,hba,-⟩,-,s3⟩:=span_le _ hv
   have s1:1≤spanB bs[i]:=s1
   have s3:n+spanB bs[i]≤_:=s3
   have hba:0≤n∧n≤_:=hba
   refine wp_ldG hs ?_
   refine wp_slit1 hs (enc:=encB7) (bs[i].to n) fun y2 w' hs=>?_
   refine wp_app' (xs:=done) (ys:=[bs[i].to n]) (enc:=encB7) hs (fun z1' w' hs=>?_) (by simp only [List.length_cons,List.length_nil];omega)
   refine wp_ldG hs ?_
   refine wp_call (dspan_c (bs[i].to n) hs) fun _ w' hs=>?_
   obtain ⟨rfl,hs⟩:=hs
   refine ret_of ?_
   have e1:spanB (bs[i].to n)=spanB bs[i]:=rfl
   rw [e1,w64 (by omega) (by omega)]
   refine wp_lt ?_
   rw [show IntKind.wrap .i64 ((i:Int)+1)=((i+1:Nat):Int) by rw [w64 (by omega) (by omega)];omega]
   refine wp_lp (bs.length-(i+1)) ⟨i+1,n+spanB bs[i],done++[bs[i].to n],z1',rfl,by omega,rfl,by simp [hdl],?_,hs.sub⟩
   rw [hpl,hunf]
   by_cases h2:(placeL (n+spanB bs[i]) (bs.drop (i+1))).1≠0
   ·rw [if_pos h2,if_pos h2,if_pos h2]
   ·rw [if_neg h2,if_neg h2,if_neg (by simp),List.append_assoc]
    rfl
theorem dhead_c (base fin:Int) (hb:0≤base∧base<9223372036854775808) (hf:0≤fin∧fin<9223372036854775808) (hs:Sat w l):Ret P F.towpathref06_Head #[.int .i64 base,.int .i64 fin] w fun vs w'=>∃ z:Sl,vs=[z.v]∧Sat w' (slc T.uint8 1 z ((shL base fin).flatMap encU)::l) :=
 towpathref06_Head_calls base fin <| by
  unfold towpathref06_Head
  have u1_:=uI_len base
  have u2_:=uI_len fin
  refine wp_slit1 hs (enc:=encU) (83:UInt8) fun z1 w' hs=>?_
  refine wp_call (dint_c base hb hs) fun _ w' hs=>?_
  obtain ⟨z2,rfl,hs⟩:=hs
  refine ret_of ?_
  refine wp_app' (xs:=[(83:UInt8)]) (ys:=uI base) (enc:=encU) hs (fun z3 w' hs=>?_) (by simp only [List.length_cons,List.length_nil];omega)
  refine wp_call (dint_c fin hf hs) fun _ w' hs=>?_
  obtain ⟨z4,rfl,hs⟩:=hs
  refine ret_of ?_
  refine wp_app' (xs:=[(83:UInt8)]++uI base) (ys:=uI fin) (enc:=encU) hs (fun z5 w' hs=>?_) (by simp only [List.length_append,List.length_cons,List.length_nil];omega)
  have e:[(83:UInt8)]++uI base++uI fin=shB base fin:=by simp [shB]
  rw [e] at hs
  have:=shB_len base fin
  refine wp_call (dseal_c z5 (shB base fin) (by omega) hs) fun _ w' hs=>?_
  obtain ⟨z6,rfl,hs⟩:=hs
  refine ret_of ?_
  have hs:Sat w' (slc T.uint8 1 z6 ((shL base fin).flatMap encU)::_):=hs
  exact ⟨rfl,z6,rfl,hs.sub⟩
theorem rsize_c (b:BatM) (hv:validB b=0) [hb:FocR l b.x 4 (b.rs.flatMap encR)] (hs:Sat w l):Ret P F.towpathref06_Size #[.agg (encB7 b).toArray] w fun vs w'=>vs=[.int .i64 ((frL b).length:Nat)]∧Sat w' l :=
 towpathref06_Size_calls b.base b.pid b.epoch b.seq b.kind b.time b.x <| by
  unfold towpathref06_Size
  have hbl:=batL_len hv
  have hfl:=frL_len hv
  refine wp_boxO hs fun a0 w' hs=>?_
  refine wp_ldG hs ?_
  refine wp_call (dencode_c b hs) fun _ w' hs=>?_
  rcases hs with ⟨h,-,-⟩|⟨-,z,rfl,hs⟩
  ·exact absurd hv h
  refine ⟨(z,0,()),rfl,trivial,wp_u2 _ _ ?_⟩
  have hl:=hs.slen z (xs:=batL b) (enc:=encU)
  refine wp_lt ?_
  rw [hl,w64 (by omega) (by omega)]
  refine wp_lt ?_
  refine ⟨rfl,?_,hs.sub⟩
  rw [hfl.2];rfl
theorem rsegsize_c (s:SegR) [hx:FocR l s.x 7 (s.bs.flatMap encB7)] (hok:SegOk s.p) (hv:∀ b ∈ s.bs,validB b=0) (hbs:∀ b ∈ s.bs,FocR l b.x 4 (b.rs.flatMap encR)) (hb:s.bs.length≤1000000) (hs:Sat w l) :
  Ret P F.towpathref06_Segment_size #[.agg (encSR s).toArray] w fun vs w'=>vs=[.int .i64 (s.p.file.length:Nat)]∧Sat w' l :=
 towpathref06_Segment_size_calls s.base s.fin s.x <| by
  unfold towpathref06_Segment_size
  have hl:=hs.slen s.x (xs:=s.bs) (enc:=encB7)
  have h1:=hok.base
  have h2:=hok.fin
  have h1:0≤s.base∧s.base≤1099511627776:=h1
  have h2:s.fin=0∨(s.base<s.fin∧s.fin≤1099511627776):=h2
  have hsum:=bat_sum hv
  have hshl:=shL_len s.base s.fin
  have hfe:s.p.file.length=(shL s.base s.fin).length+(s.bs.flatMap frL).length:=by
   rw [file_len]
   show (shL s.base s.fin).length+((s.bs.map BatM.p).flatMap frL).length=_
   rw [List.flatMap_map]
   rfl
  rw [hfe]
  refine wp_boxO hs fun a0 w' hs=>?_
  refine wp_ldO hs ?_
  refine wp_ldO hs ?_
  refine wp_call (dhead_c s.base s.fin (by omega) (by omega) hs) fun _ w' hs=>?_
  obtain ⟨y,rfl,hs⟩:=hs
  refine ret_of ?_
  have hly:=hs.slen y (xs:=shL s.base s.fin) (enc:=encU)
  refine wp_lt ?_
  refine wp_ldO hs ?_
  refine wp_mid (fun q w'=>q=((((shL s.base s.fin).length+(s.bs.flatMap frL).length:Nat):Int),())∧Sat w' l) ?_ ?_
  rotate_left
  ·rintro _ w2 ⟨rfl,hs⟩
   refine wp_lt ?_
   exact ⟨rfl,rfl,hs⟩
  have hs:Sat w' l:=hs.sub
  refine wp_loop (fun m v w=>∃ i:Nat,v=((((shL s.base s.fin).length+((s.bs.take i).flatMap frL).length:Nat):Int),((i:Int),()))∧i≤s.bs.length∧s.bs.length-i=m∧Sat w l) s.bs.length ⟨0,by rw [hly];rfl,by omega,rfl,hs⟩ ?_
  clear hs
  rintro m _ w ⟨i,rfl,hi,hm,hs⟩
  refine wp_on ?_
  refine wp_if (fun hc=>?_) fun hc=>?_
  rotate_left
  ·refine wp_pass (wp_lv ⟨?_,hs⟩)
   rw [List.take_of_length_le (by omega)]
  have hil:i<s.bs.length:=by omega
  have hR:=hbs _ (List.getElem_mem hil)
  have hvi:=hv _ (List.getElem_mem hil)
  have e1:((s.bs.take (i+1)).flatMap frL).length=((s.bs.take i).flatMap frL).length+(frL s.bs[i]).length:=by
   rw [List.take_succ_eq_append_getElem hil,List.flatMap_append,List.length_append];simp
  have e2:((s.bs.take (i+1)).flatMap frL).length≤(s.bs.flatMap frL).length:=by
   have:s.bs.flatMap frL=(s.bs.take (i+1)).flatMap frL++(s.bs.drop (i+1)).flatMap frL:=by rw [← List.flatMap_append,List.take_append_drop]
   rw [this,List.length_append];omega
  refine wp_ixA hs (xs:=s.bs) (enc:=encB7) i hil ?_
  refine wp_newO hs fun c w' hs=>?_
  refine wp_stG hs fun w' hs=>?_
  refine wp_ldG hs ?_
  refine wp_call (rsize_c s.bs[i] hvi hs) fun _ w' hs=>?_
  obtain ⟨rfl,hs⟩:=hs
  refine ret_of ?_
  rw [w64 (by omega) (by omega)]
  refine wp_lt ?_
  rw [show IntKind.wrap .i64 ((i:Int)+1)=((i+1:Nat):Int) by rw [w64 (by omega) (by omega)];omega]
  refine wp_lp (s.bs.length-(i+1)) ⟨i+1,?_,by omega,rfl,hs.tail⟩
  rw [e1]
  refine Prod.ext ?_ rfl
  show _=(((shL s.base s.fin).length+(((s.bs.take i).flatMap frL).length+(frL s.bs[i]).length):Nat):Int)
  omega
end
set_option linter.unusedVariables false
set_option linter.unusedSimpArgs false
instance:EncF encSR 2 .slc (fun s=>s.x):=⟨fun _=>rfl⟩
section
variable {P:Program} {w:World} {l r:List HP} {Q:Post} {S:World→Prop} {T t:TypeId} {sz:Nat}
theorem wp_ixSFu {α:Type} {enc:α→List Value} {xs:List α} {x:Sl} {i i':Int} {j:Nat} {k:Prog} {v:Value} (hs:Sat w l) [hf:FocS l x T sz (xs.flatMap enc) r] [hE:EncN enc sz] [hT:One P t] (n:Nat) (hn:n<xs.length) (y:α)
  (h:∀ w',Sat w' (slc T sz x ((xs.set n y).flatMap enc)::r)→k.wp P tt w' Q) (hi:i=n:=by first|rfl|omega) (hi':i'=i:=by rfl) (hy:enc y=(enc xs[n]).set j v:=by rfl) [hv:Cells v [v]] [ho:Ones [v]] (hj:j<sz:=by decide) :
  (Prog.ex [.adr] (c1 fun a=>0≤i∧i<((x.len:Nat):Int)∧x.a=some a) (u1 fun a=>.untick (.actU (st t (Addr.add (Addr.add a (Int.toNat i'*sz)) j) v) k))).wp P S w Q:=by
 subst hi hi'
 have hr:=(hs.focS x).rd
 have hl:x.len=xs.length:=hr.len hE.len hE.pos
 obtain ⟨a,ha,he⟩:=hr.el hE.len (by omega)
 refine ⟨(a,()),⟨by omega,by omega,ha⟩,wp_untick ?_⟩
 exact wp_stF (xs:=xs) (i:=n) (j:=j) (y:=y) hE.len hs ha hn hj (fun b o e=>by subst e;rw [add_mk,add_mk,Int.toNat_natCast,Nat.add_assoc]) hv.ok (by have:=ho.ok v (List.mem_singleton.2 rfl);exact this) hy fun w' hs'=>⟨trivial,h w' hs'⟩
end
def SegR.add (s:SegR) (z:Sl) (q:List BatM):SegR:=⟨s.base,s.fin,z,s.bs++q⟩
theorem addR_p (s:SegR) (z:Sl) (q:List BatM):(s.add z q).p=s.p.add q:=by simp [SegR.p,SegA.add,SegR.add]
section
variable {w:World} {l r:List HP} {a:Nat} {R:RefM}
theorem all_snoc {SR:List SegR} {s:SegR} (hs:Sat w (rsgP s::HP.all (SR.map rsgP)::l)):Sat w (HP.all ((SR++[s]).map rsgP)::l):=by
 have h1:Sat w (HP.all ((s::SR).map rsgP)::l):=hs.all_put
 exact h1.all_perm ((List.perm_append_comm (l₁:=[s]) (l₂:=SR)).map rsgP)
theorem all_unsnoc {SR:List SegR} {s:SegR} (hs:Sat w (HP.all ((SR++[s]).map rsgP)::l)):Sat w (rsgP s::HP.all (SR.map rsgP)::l):=by
 have h1:Sat w (HP.all ((s::SR).map rsgP)::l):=hs.all_perm ((List.perm_append_comm (l₁:=SR) (l₂:=[s])).map rsgP)
 exact h1.all_cons
theorem roomR {seg:Int} {SR0:List SegR} {s:SegR} (h:SegOk s.p) (n:Nat):roomy seg ((SR0++[s]).map SegR.p) n=(decide (s.bs=[]) || decide (((s.p.file.length+n:Nat):Int)≤seg)):=by
 unfold roomy
 rw [List.map_append]
 show (match (SR0.map SegR.p++[s.p]).getLast? with|none=>false|some s=>_)=_
 rw [getLast_snoc]
 simp only
 congr 1
 rw [Bool.eq_iff_iff]
 simp only [decide_eq_true_eq]
 have h1:=reach_le h
 have h2:=h.base
 have h3:=(h.bs.next h2.1).2.1
 show nextG (s.bs.map BatM.p)=0↔_
 have h1':s.bs.map BatM.p≠[]→s.p.base<nextG (s.bs.map BatM.p):=h1.2.2.2.2
 have h3':s.bs.map BatM.p=[]→nextG (s.bs.map BatM.p)=0:=h3
 constructor
 ·intro h
  by_cases h4:s.bs.map BatM.p=[]
  ·exact List.map_eq_nil_iff.1 h4
  ·have:=h1' h4
   omega
 ·intro h
  exact h3' (by rw [h];rfl)
set_option maxHeartbeats 1000000 in
theorem rappend_c (x:Sl) (bs:List BatM) [hf:Fo l rfP a R r] [hok:okR R r] (hsl:R.SR.length≤900000) (hal:R.bs.length≤900000) (hseg : -9223372036854775808≤R.seg∧R.seg<9223372036854775808) (hbl:bs.length≤900)
  (hx:FocR r x 7 (bs.flatMap encB7)) (hbs:∀ b ∈ bs,FocR r b.x 4 (b.rs.flatMap encR)) (hs:Sat w l) :
  Ret P F.towpathref06_Log_Append #[.pointer (some ⟨a,0,none⟩),x.v] w fun vs w'=>vs=[.int .i64 (rappA R.seg R.l bs).1.1,.int .i64 (rappA R.seg R.l bs).1.2] ∧
   ∃ R':RefM,R'.seg=R.seg∧R'.gap=R.gap∧R'.l=(rappA R.seg R.l bs).2∧R'.SR.length≤R.SR.length+1∧R'.bs.length≤R.bs.length+bs.length∧(∀ b ∈ R'.bs,b ∈ R.bs∨∃ c ∈ bs,b.x=c.x∧b.rs=c.rs)∧okR R' r∧Sat w' (rfP a R'::r) :=
 towpathref06_Log_Append_calls _ x <| by
  unfold towpathref06_Log_Append
  have hs:=hs.perm hf.perm
  clear hf
  have hlxs:=hs.slen x (xs:=bs) (enc:=encB7)
  have hsame:∀ {w:World},Sat w (rfP a R::r)→∃ R':RefM,R'.seg=R.seg∧R'.gap=R.gap∧R'.l=R.l∧R'.SR.length≤R.SR.length+1∧R'.bs.length≤R.bs.length+bs.length∧(∀ b ∈ R'.bs,b ∈ R.bs∨∃ c ∈ bs,b.x=c.x∧b.rs=c.rs)∧okR R' r∧Sat w (rfP a R'::r):=fun hs=>⟨R,rfl,rfl,rfl,by omega,by omega,fun b hb=>.inl hb,hok,hs⟩
  have hnx:=hok.segs.next (Int.le_refl 0)
  have hrseg:=rapp_segs (seg:=R.seg) (bs:=bs) hok.segs
  unfold rappA at hrseg ⊢
  refine wp_if (fun h=>?_) fun h=>?_
  ·have:bs=[]:=List.length_eq_zero_iff.1 (by omega)
   rw [if_pos this]
   exact ⟨rfl,rfl,hsame hs⟩
  have hne:bs≠[]:=by rintro rfl;simp at hlxs;omega
  rw [if_neg hne] at hrseg ⊢
  obtain ⟨z,hs⟩:=rf_open hs
  refine wp_call (rplacedV_c (R:=R) (z:=z) (a:=a) x bs inferInstance (fun s hs=>rsg_rd hs) (by omega) inferInstance (fun b hb=>by have:=hbs b hb;infer_instance) hs) fun _ w' hs=>?_
  rcases hs with ⟨he,rfl,hs⟩|⟨he,z1,rfl,hs⟩
  ·refine ret_of ?_
   refine wp_lt ?_
   refine wp_ifT ?_ he
   refine wp_lt ?_
   rw [if_pos he]
   exact ⟨rfl,rfl,hsame (rf_close R hs)⟩
  refine ⟨(z1,0,()),rfl,trivial,wp_u2 _ _ ?_⟩
  refine wp_lt ?_
  refine wp_ifF ?_ (by simp)
  rw [if_neg (by rw [he];simp)] at hrseg ⊢
  have hplo:=placeL_ok (bs:=bs) (n:=nextL R.l) he
  obtain ⟨hp1,hp2,hp3⟩:=hplo
  have hbl0:0<bs.length:=List.length_pos_iff.2 hne
  generalize hn0:nextL R.l=n0 at *
  generalize hq:(placeL n0 bs).2=q at *
  have hsum:=bat_sum fun b hb=>(hp2 b hb).1
  have hqF:∀ b ∈ q,FocR r b.x 4 (b.rs.flatMap encR):=fun b hb=>by
   obtain ⟨-,c,hc,e1,e2⟩:=hp2 b hb
   rw [e1,e2];exact hbs c hc
  have hfsum:∀ i,((q.take i).flatMap frL).length≤(q.flatMap frL).length:=fun i=>by
   have:(q.flatMap frL)=(q.take i).flatMap frL++(q.drop i).flatMap frL:=by rw [← List.flatMap_append,List.take_append_drop]
   rw [this,List.length_append];omega
  have hlq:=hs.slen z1 (xs:=q) (enc:=encB7)
  refine wp_mid (fun v w'=>v=(((q.flatMap frL).length:Int),())∧Sat w' (slc T.api_Batch 7 z1 (q.flatMap encB7)::pt a (.cells #[.int .i64 R.seg,.int .i64 R.gap,.slice z.a z.len z.cap] T.towpathref06_Log)::slc T.towpathref06_Segment 3 z (R.SR.flatMap encSR)::HP.all (R.SR.map rsgP)::r)) ?_ ?_
  ·refine wp_loop (fun m v w=>∃ i:Nat,v=((((q.take i).flatMap frL).length:Int),((i:Int),()))∧i≤q.length∧q.length-i=m∧Sat w (slc T.api_Batch 7 z1 (q.flatMap encB7)::pt a (.cells #[.int .i64 R.seg,.int .i64 R.gap,.slice z.a z.len z.cap] T.towpathref06_Log)::slc T.towpathref06_Segment 3 z (R.SR.flatMap encSR)::HP.all (R.SR.map rsgP)::r)) q.length ⟨0,rfl,by omega,rfl,hs⟩ ?_
   clear hs
   rintro m _ w ⟨i,rfl,hi,hm,hs⟩
   refine wp_on ?_
   refine wp_if (fun hc=>?_) fun hc=>?_
   rotate_left
   ·refine wp_pass (wp_lv ⟨?_,hs⟩)
    rw [List.take_of_length_le (by omega)]
   have hil:i<q.length:=by omega
   have hR:=hqF _ (List.getElem_mem hil)
   have hvi:=(hp2 _ (List.getElem_mem hil)).1
   have e1:((q.take (i+1)).flatMap frL).length=((q.take i).flatMap frL).length+(frL q[i]).length:=by
    rw [List.take_succ_eq_append_getElem hil,List.flatMap_append,List.length_append];simp
   have e2:=hfsum (i+1)
   refine wp_ixA hs (xs:=q) (enc:=encB7) i hil ?_
   refine wp_newO hs fun c w' hs=>?_
   refine wp_stG hs fun w' hs=>?_
   refine wp_ldG hs ?_
   refine wp_call (rsize_c q[i] hvi hs) fun _ w' hs=>?_
   obtain ⟨rfl,hs⟩:=hs
   refine ret_of ?_
   rw [w64 (by omega) (by omega)]
   refine wp_lt ?_
   rw [show IntKind.wrap .i64 ((i:Int)+1)=((i+1:Nat):Int) by rw [w64 (by omega) (by omega)];omega]
   refine wp_lp (q.length-(i+1)) ⟨i+1,?_,by omega,rfl,hs.tail⟩
   rw [e1]
   refine Prod.ext ?_ rfl
   show _=((((q.take i).flatMap frL).length+(frL q[i]).length:Nat):Int)
   omega
  clear hs
  rintro _ w2 ⟨rfl,hs⟩
  have hlz:=hs.slen z (xs:=R.SR) (enc:=encSR)
  refine wp_on ?_
  refine wp_nn ?_
  refine wp_ldO hs ?_
  rw [w64 (by omega) (by omega)]
  refine wp_lt ?_
  generalize hNN:(q.flatMap frL).length=NN at *
  refine wp_mid (fun v w'=>v=(!roomy R.seg R.l NN,())∧Sat w' (slc T.api_Batch 7 z1 (q.flatMap encB7)::pt a (.cells #[.int .i64 R.seg,.int .i64 R.gap,.slice z.a z.len z.cap] T.towpathref06_Log)::slc T.towpathref06_Segment 3 z (R.SR.flatMap encSR)::HP.all (R.SR.map rsgP)::r)) ?_ ?_
  ·refine wp_tk hs fun w' hs=>?_
   refine wp_nng ?_
   refine wp_ldO hs ?_
   by_cases h0:R.SR=[]
   ·have hz0:z.len=0:=by rw [hlz,h0];rfl
    have hr0:roomy R.seg R.l NN=false:=by unfold RefM.l;rw [h0];rfl
    have hd:decide ((z.len:Int)-1<0)=true:=decide_eq_true (by omega)
    refine wp_exF (fun h=>by rw [hd] at h;cases h) ?_
    refine wp_gr (⟨none,0,0⟩:Sl) (fun h=>by rw [hd] at h;cases h) ?_
    refine wp_nng ?_
    refine wp_ldO hs ?_
    refine wp_exF (fun h=>by rw [hd] at h;cases h.1) ?_
    refine wp_read (((0:Int),(0:Int),(⟨none,0,0⟩:Sl),()):HL [.int .i64,.int .i64,.slc]) (fun h=>absurd h.1 (by rw [hd];exact Bool.noConfusion)) ?_
    refine wp_on ?_
    refine wp_nng ?_
    refine wp_hdO hs ?_
    refine wp_ifT ?_ (by omega)
    refine wp_untick ?_
    exact wp_lv ⟨by rw [hr0];rfl,hs⟩
   obtain ⟨SR0,s,hSR⟩:=snoc_of h0
   have hlen:R.SR.length=SR0.length+1:=by rw [hSR];simp
   have hil:SR0.length<R.SR.length:=by omega
   have hgs:R.SR[SR0.length]=s:=by simp [hSR]
   have hsm:s ∈ R.SR:=by rw [hSR];simp
   obtain ⟨v1,v2,v3⟩:=hok.valid s hsm
   have hrm:roomy R.seg R.l NN=(decide (s.bs=[]) || decide (((s.p.file.length+NN:Nat):Int)≤R.seg)):=by
    unfold RefM.l;rw [hSR];exact roomR v1 NN
   have hsx:FocR (HP.all (R.SR.map rsgP)::r) s.x 7 (s.bs.flatMap encB7):=rsg_rd hsm
   have hlx:=hs.slen s.x (xs:=s.bs) (enc:=encB7)
   refine wp_ixFg hs (xs:=R.SR) (enc:=encSR) SR0.length hil ?_
   rw [hgs]
   refine wp_nng ?_
   refine wp_ldO hs ?_
   refine wp_ixAg hs (xs:=R.SR) (enc:=encSR) (s.base,s.fin,s.x,()) (fun _=>⟨SR0.length,hil,by omega,by rw [hgs];rfl⟩) ?_
   refine wp_on ?_
   refine wp_nng ?_
   refine wp_hdO hs ?_
   refine wp_ifF ?_ (by omega)
   refine wp_if (fun h2=>?_) fun h2=>?_
   ·have hsb:s.bs≠[]:=by rintro h3;rw [h3] at hlx;simp at hlx;omega
    refine wp_call (rsegsize_c s v1 (fun b hb=>(v2 b hb).1) (fun b hb=>by have:=(v2 b hb).2;infer_instance) v3 hs) fun _ w' hs=>?_
    obtain ⟨rfl,hs⟩:=hs
    refine ret_of ?_ (by first|trivial|(repeat (first|exact trivial|exact fun _=>run_ldO hs|exact fun _=>run_ldG hs|refine And.intro ?_ ?_)))
    refine wp_untick ?_
    refine wp_lv ⟨?_,hs⟩
    have hfe:s.p.file.length≤1000000000000:=by
     rw [file_len]
     have h3:=shL_len s.p.base s.p.fin
     have h4:(s.p.bs.flatMap frL).length≤s.p.bs.length*262152:=bat_sum fun b hb=>(v1.bs.valid b hb).1
     have h5:s.p.bs.length=s.bs.length:=List.length_map ..
     omega
    rw [hrm,w64 (by omega) (by omega)]
    refine Prod.ext ?_ rfl
    show decide _=!(decide (s.bs=[]) || _)
    rw [decide_eq_false hsb,Bool.false_or,← decide_not]
    apply decide_eq_decide.2
    omega
   ·have hsb:s.bs=[]:=List.length_eq_zero_iff.1 (by omega)
    refine wp_untick ?_
    refine wp_lv ⟨?_,hs⟩
    rw [hrm,decide_eq_true hsb];rfl
  clear hs
  rintro _ w3 ⟨rfl,hs⟩
  refine wp_on ?_
  refine wp_mid (fun v w'=>∃ (R1:RefM) (z2:Sl) (SR0:List SegR) (s:SegR),v=((SR0.length:Int),())∧R1.SR=SR0++[s]∧R1.seg=R.seg∧R1.gap=R.gap∧R1.SR.length≤R.SR.length+1∧R1.bs=R.bs ∧
   (if roomy R.seg R.l NN then addLast R.l q else R.l++[(⟨n0,0,[]⟩:SegA).add q])=SR0.map SegR.p++[s.p.add q] ∧
   Sat w' (slc T.api_Batch 7 z1 (q.flatMap encB7)::pt a (.cells #[.int .i64 R1.seg,.int .i64 R1.gap,.slice z2.a z2.len z2.cap] T.towpathref06_Log)::slc T.towpathref06_Segment 3 z2 (R1.SR.flatMap encSR)::HP.all (R1.SR.map rsgP)::r)) ?_ ?_
  ·refine wp_if (fun hr=>?_) fun hr=>?_
   ·have hr:roomy R.seg R.l NN=false:=by simpa using hr
    refine wp_nn ?_
    refine wp_ldO hs ?_
    have hs:Sat w3 (slc T.towpathref06_Segment 3 ⟨none,0,0⟩ (([]:List SegR).flatMap encSR)::_):=hs.slc_nil
    refine wp_app' (x:=⟨none,0,0⟩) (xs:=([]:List SegR)) (ys:=R.SR) (enc:=encSR) hs (fun z3 w' hs=>?_) (by simp only [List.length_nil];omega)
    refine wp_call (rnextV_c (R:=R) (z:=z) (a:=a) inferInstance (fun s hs=>rsg_rd hs) hs) fun _ w' hs=>?_
    rw [hn0] at hs
    obtain ⟨rfl,hs⟩:=hs
    refine ret_of ?_
    refine wp_slit1 hs (enc:=encSR) (⟨n0,0,⟨none,0,0⟩,[]⟩:SegR) fun z4 w' hs=>?_
    refine wp_app' (xs:=[]++R.SR) (ys:=[(⟨n0,0,⟨none,0,0⟩,[]⟩:SegR)]) (enc:=encSR) hs (fun z5 w' hs=>?_) (by simp only [List.length_append,List.length_cons,List.length_nil];omega)
    refine wp_nn ?_
    refine wp_stO hs fun w' hs=>?_
    rw [w64 (by omega) (by omega)]
    refine wp_lt ?_
    have hs:Sat w' (pt a (.cells #[.int .i64 R.seg,.int .i64 R.gap,.slice z5.a z5.len z5.cap] T.towpathref06_Log)::slc T.towpathref06_Segment 3 z5 ((R.SR++[(⟨n0,0,⟨none,0,0⟩,[]⟩:SegR)]).flatMap encSR)::slc T.towpathref06_Segment 3 z4 _::slc T.api_Batch 7 z1 (q.flatMap encB7)::slc T.towpathref06_Segment 3 z (R.SR.flatMap encSR)::HP.all (R.SR.map rsgP)::r):=hs
    have hs:Sat w' (rsgP (⟨n0,0,⟨none,0,0⟩,[]⟩:SegR)::HP.all (R.SR.map rsgP)::slc T.api_Batch 7 z1 (q.flatMap encB7)::pt a (.cells #[.int .i64 R.seg,.int .i64 R.gap,.slice z5.a z5.len z5.cap] T.towpathref06_Log)::slc T.towpathref06_Segment 3 z5 ((R.SR++[(⟨n0,0,⟨none,0,0⟩,[]⟩:SegR)]).flatMap encSR)::r):=by
     have h1:Sat w' (HP.all (R.SR.map rsgP)::slc T.api_Batch 7 z1 (q.flatMap encB7)::pt a (.cells #[.int .i64 R.seg,.int .i64 R.gap,.slice z5.a z5.len z5.cap] T.towpathref06_Log)::slc T.towpathref06_Segment 3 z5 ((R.SR++[(⟨n0,0,⟨none,0,0⟩,[]⟩:SegR)]).flatMap encSR)::r):=hs.sub
     exact h1.slc_nil
    have hs:=all_snoc hs
    refine wp_lv ⟨⟨R.seg,R.gap,R.SR++[⟨n0,0,⟨none,0,0⟩,[]⟩]⟩,z5,R.SR,⟨n0,0,⟨none,0,0⟩,[]⟩,?_,rfl,rfl,rfl,by simp,by simp [RefM.bs],?_,?_⟩
    ·refine Prod.ext ?_ rfl
     show (z.len:Int)-1+1=_
     omega
    ·rw [hr];rfl
    ·exact hs.sub
   ·have hr:roomy R.seg R.l NN=true:=by simpa using hr
    have h0:R.SR≠[]:=by
     intro h0
     have:R.l=[]:=by unfold RefM.l;rw [h0];rfl
     rw [this] at hr
     cases hr
    obtain ⟨SR0,s,hSR⟩:=snoc_of h0
    have hlen:R.SR.length=SR0.length+1:=by rw [hSR];simp
    refine wp_lv ⟨R,z,SR0,s,?_,hSR,rfl,rfl,by omega,rfl,?_,hs⟩
    ·refine Prod.ext ?_ rfl
     show (z.len:Int)-1=_
     omega
    ·rw [hr,if_pos rfl]
     have:R.l=SR0.map SegR.p++[s.p]:=by unfold RefM.l;rw [hSR];simp
     rw [this,addLast_snoc]
  clear hs
  rintro _ w4 ⟨R1,z2,SR0,s,rfl,hSR,hr1,hr2,hr3,hr4,hres,hs⟩
  refine wp_on ?_
  have hil:SR0.length<R1.SR.length:=by rw [hSR];simp
  have hgs:R1.SR[SR0.length]=s:=by simp [hSR]
  have hsm:s ∈ R1.SR:=by rw [hSR];simp
  have hsbl:s.bs.length≤900000:=by
   have:s.bs.length≤R1.bs.length:=by
    unfold RefM.bs
    rw [hSR]
    simp only [List.flatMap_append,List.flatMap_cons,List.length_append]
    omega
   rw [hr4] at this
   omega
  have hsx:FocR (HP.all (R1.SR.map rsgP)::r) s.x 7 (s.bs.flatMap encB7):=rsg_rd hsm
  rw [hres] at hrseg ⊢
  refine wp_nn ?_
  refine wp_ldO hs ?_
  refine wp_ixF hs (xs:=R1.SR) (enc:=encSR) SR0.length hil ?_
  rw [hgs]
  have hs:Sat w4 (slc T.api_Batch 7 ⟨none,0,0⟩ (([]:List BatM).flatMap encB7)::_):=hs.slc_nil
  refine wp_app' (x:=⟨none,0,0⟩) (xs:=([]:List BatM)) (ys:=s.bs) (enc:=encB7) hs (fun z3 w' hs=>?_) (by simp only [List.length_nil];omega)
  refine wp_mid (fun _ w'=>∃ z4:Sl,Sat w' (slc T.towpathref06_Segment 3 z2 ((R1.SR.set SR0.length (s.add z4 q)).flatMap encSR)::slc T.api_Batch 7 z4 ((s.bs++q).flatMap encB7)::slc T.api_Batch 7 z1 (q.flatMap encB7)::pt a (.cells #[.int .i64 R1.seg,.int .i64 R1.gap,.slice z2.a z2.len z2.cap] T.towpathref06_Log)::HP.all (R1.SR.map rsgP)::r)) ?_ ?_
  ·refine wp_tk hs fun w' hs=>?_
   refine wp_nn ?_
   refine wp_hdO hs ?_
   rw [List.nil_append] at hs
   refine wp_app2 (x:=z3) (y:=z1) (xs:=s.bs) (ys:=q) (enc:=encB7) hs (fun z4 w' hs=>⟨(by first|trivial|(repeat (first|exact trivial|exact fun _=>run_ldO hs|exact fun _=>run_ldG hs|refine And.intro ?_ ?_))),?_⟩) (by omega)
   refine wp_ixSFu hs (xs:=R1.SR) (enc:=encSR) SR0.length hil (s.add z4 q) (fun w' hs=>?_) (hy:=by rw [hgs];rfl)
   refine wp_untick ?_
   exact wp_lv ⟨z4,hs.sub⟩
  clear hs
  rintro _ w5 ⟨z4,hs⟩
  refine wp_on ?_
  have hlq0:0<q.length:=by omega
  refine wp_ixF0 hs (xs:=q) (enc:=encB7) 0 hlq0 ?_
  refine wp_lt ?_
  have hq0:(q[0]'hlq0).base=n0:=hp3 _ (by rw [List.head?_eq_getElem?,List.getElem?_eq_getElem])
  rw [hq0]
  have hset:R1.SR.set SR0.length (s.add z4 q)=SR0++[s.add z4 q]:=by
   rw [hSR,List.set_append];simp
  rw [hset,hSR] at hs
  have hs:=all_unsnoc (hs.pick [4])
  have hs:Sat w5 (slc T.api_Batch 7 z4 ((s.bs++q).flatMap encB7)::HP.all (SR0.map rsgP)::pt a (.cells #[.int .i64 R1.seg,.int .i64 R1.gap,.slice z2.a z2.len z2.cap] T.towpathref06_Log)::slc T.towpathref06_Segment 3 z2 ((SR0++[s.add z4 q]).flatMap encSR)::r):=hs.sub
  have hs:=all_snoc (s:=s.add z4 q) hs
  have hs:=rf_close ⟨R1.seg,R1.gap,SR0++[s.add z4 q]⟩ (z:=z2) (hs.pick [1,1])
  have hRl:RefM.l ⟨R1.seg,R1.gap,SR0++[s.add z4 q]⟩=SR0.map SegR.p++[s.p.add q]:=by
   unfold RefM.l
   rw [List.map_append,List.map_cons,List.map_nil,addR_p]
  have hRb:RefM.bs ⟨R1.seg,R1.gap,SR0++[s.add z4 q]⟩=R1.bs++q:=by
   unfold RefM.bs
   rw [hSR]
   simp [SegR.add]
  refine ⟨rfl,rfl,⟨R1.seg,R1.gap,SR0++[s.add z4 q]⟩,hr1,hr2,hRl,?_,?_,fun b hb=>?_,⟨by rw [hRl];exact hrseg,fun b hb=>?_,?_,?_⟩,hs⟩
  ·show (SR0++[_]).length≤_
   rw [hSR] at hr3
   simpa using hr3
  ·rw [hRb,hr4,List.length_append];omega
  ·rw [hRb,hr4] at hb
   rcases List.mem_append.1 hb with hb|hb
   ·exact .inl hb
   ·exact .inr (hp2 b hb).2
  ·rw [hRb,hr4] at hb
   rcases List.mem_append.1 hb with hb|hb
   ·exact hok.rd b hb
   ·exact hqF b hb
  ·show (SR0++[_]).length≤_
   rw [hSR] at hr3
   simp at hr3 ⊢
   omega
  ·rw [hRb,hr4,List.length_append];omega
end
set_option linter.unusedVariables false
set_option linter.unusedSimpArgs false
def smallT (t:ByteArray):ByteArray:=if t.size>30 then t.extract 0 30 else t
def smallR (r:RecM):RecM:=⟨smallT r.key,smallT r.value,r.gone,r.time⟩
def smallB (b:BatM):BatM:=⟨b.base,b.pid,b.epoch,b.seq,b.kind,b.time,noSl,(b.rs.take 6).map smallR⟩
theorem smallT_size (t:ByteArray):(smallT t).size≤30:=by
 unfold smallT
 split
 ·rw [ByteArray.size_extract];omega
 ·omega
theorem small_len (b:BatM) (n:Int) (z:Sl):2≤(batL (((smallB b).at z).to n)).length∧(batL (((smallB b).at z).to n)).length≤668:=by
 have h:=batL_le (b:=((smallB b).at z).to n) (n:=60) fun r hr=>by
  obtain ⟨q,-,rfl⟩:=List.mem_map.1 (show r ∈ (b.rs.take 6).map smallR from hr)
  have h1:=smallT_size q.key
  have h2:=smallT_size q.value
  show (smallT q.key).size+(smallT q.value).size≤60
  omega
 have h3:(((smallB b).at z).to n).rs.length≤6:=by
  show ((b.rs.take 6).map smallR).length≤6
  rw [List.length_map,List.length_take];omega
 omega
abbrev cZ (b:BatM) (z:Sl):Array Value:=#[.int .i64 b.base,.int .i64 b.pid,.int .i64 b.epoch,.int .i64 b.seq,.int .i64 b.kind,.int .i64 b.time,.slice z.a z.len z.cap]
section
variable {w:World} {l r:List HP}
theorem config_c (seg gap:Int) (hs:Sat w l):Ret P F.towpathlaw06_config #[.int .i64 seg,.int .i64 gap] w fun vs w'=>∃ s g:Int,(64≤s∧s≤463)∧(1≤g∧g≤100)∧vs=[.agg #[.int .i64 s,.int .i64 g]]∧Sat w' l :=
 towpathlaw06_config_calls seg gap <| by
  unfold towpathlaw06_config
  have hm1 : -400<Int.tmod seg 400∧Int.tmod seg 400<400:=⟨by have:=Int.lt_tmod_of_pos seg (b:=400) (by omega);omega,Int.tmod_lt_of_pos seg (by omega)⟩
  have hm2 : -100<Int.tmod gap 100∧Int.tmod gap 100<100:=⟨by have:=Int.lt_tmod_of_pos gap (b:=100) (by omega);omega,Int.tmod_lt_of_pos gap (by omega)⟩
  generalize Int.tmod seg 400=s at *
  generalize Int.tmod gap 100=g at *
  refine wp_newO hs fun a0 w' hs=>?_
  refine wp_lt ?_
  refine wp_lt ?_
  refine wp_mid (fun q w'=>∃ s:Int,(0≤s∧s<400)∧q=(s,())∧Sat w' (pt a0 (.cells [.int .i64 0,.int .i64 0].toArray T.seglog_Config)::l)) ?_ ?_
  ·refine wp_if (fun h=>?_) fun h=>?_
   ·rw [w64 (by omega) (by omega)]
    refine wp_lt ?_
    exact wp_lv ⟨0-s,by omega,rfl,hs⟩
   ·exact wp_lv ⟨s,by omega,rfl,hs⟩
  clear hs
  rintro _ w ⟨s,hm1,rfl,hs⟩
  refine wp_on ?_
  refine wp_mid (fun q w'=>∃ g:Int,(0≤g∧g<100)∧q=(g,())∧Sat w' (pt a0 (.cells [.int .i64 0,.int .i64 0].toArray T.seglog_Config)::l)) ?_ ?_
  ·refine wp_if (fun h=>?_) fun h=>?_
   ·rw [w64 (by omega) (by omega)]
    refine wp_lt ?_
    exact wp_lv ⟨0-g,by omega,rfl,hs⟩
   ·exact wp_lv ⟨g,by omega,rfl,hs⟩
  clear hs
  rintro _ w ⟨g,hm2,rfl,hs⟩
  refine wp_on ?_
  rw [w64 (by omega) (by omega),w64 (by omega) (by omega)]
  refine wp_stG hs fun w' hs=>?_
  refine wp_ldG hs ?_
  exact ⟨rfl,64+s,1+g,by omega,by omega,rfl,hs.tail⟩
theorem small_c (b:BatM) [hb:FocR l b.x 4 (b.rs.flatMap encR)] (hs:Sat w l):Ret P F.towpathlaw06_Small #[.agg (encB7 b).toArray] w fun vs w'=>∃ z:Sl,vs=[.agg (encB7 ((smallB b).at z)).toArray]∧Sat w' (slc T.api_Record 4 z ((smallB b).rs.flatMap encR)::l) :=
 towpathlaw06_Small_calls b.base b.pid b.epoch b.seq b.kind b.time b.x <| by
  unfold towpathlaw06_Small
  have hl:=hs.slen b.x (xs:=b.rs) (enc:=encR)
  refine wp_boxO hs fun a0 w' hs=>?_
  refine wp_newO hs fun a1 w' hs=>?_
  refine wp_ldG hs ?_
  refine wp_newO hs fun a9 w' hs=>?_
  refine wp_stG hs fun w' hs=>?_
  refine wp_stO hs fun w' hs=>?_
  refine wp_ldO hs ?_
  have hs:Sat w' (slc T.api_Record 4 ⟨none,0,0⟩ (([]:List RecM).flatMap encR)::pt a9 (.cells (cZ b ⟨none,0,0⟩) T.api_Batch)::pt a1 (.cells #[.int .i64 0,.int .i64 0,.int .i64 0,.int .i64 0,.int .i64 0,.int .i64 0,.slice none 0 0] T.api_Batch)::l):=by
   have h1:Sat w' (pt a9 (.cells (cZ b ⟨none,0,0⟩) T.api_Batch)::pt a1 (.cells #[.int .i64 0,.int .i64 0,.int .i64 0,.int .i64 0,.int .i64 0,.int .i64 0,.slice none 0 0] T.api_Batch)::l):=hs.sub
   exact h1.slc_nil
  refine wp_mid (fun _ w'=>∃ z:Sl,Sat w' (slc T.api_Record 4 z ((smallB b).rs.flatMap encR)::pt a9 (.cells (cZ b z) T.api_Batch)::pt a1 (.cells #[.int .i64 0,.int .i64 0,.int .i64 0,.int .i64 0,.int .i64 0,.int .i64 0,.slice none 0 0] T.api_Batch)::l)) ?_ ?_
  rotate_left
  ·rintro _ w2 ⟨z,hs⟩
   refine wp_on ?_
   refine wp_ldG hs ?_
   refine wp_stG hs fun w' hs=>?_
   refine wp_ldG hs ?_
   exact ⟨rfl,z,rfl,hs.sub⟩
  refine wp_loop (fun m v w=>∃ (i:Nat) (z:Sl),v=((i:Int),())∧i≤b.rs.length∧i≤6∧b.rs.length-i=m∧Sat w (slc T.api_Record 4 z (((b.rs.take i).map smallR).flatMap encR)::pt a9 (.cells (cZ b z) T.api_Batch)::pt a1 (.cells #[.int .i64 0,.int .i64 0,.int .i64 0,.int .i64 0,.int .i64 0,.int .i64 0,.slice none 0 0] T.api_Batch)::l)) b.rs.length ⟨0,⟨none,0,0⟩,rfl,by omega,by omega,rfl,hs⟩ ?_
  clear hs
  rintro m _ w ⟨i,z,rfl,hi,hi6,hm,hs⟩
  refine wp_on ?_
  refine wp_if (fun hc=>?_) fun hc=>?_
  rotate_left
  ·refine wp_pass (wp_lv ⟨z,?_⟩)
   have e:b.rs.take i=b.rs.take 6:=by rw [List.take_of_length_le (by omega),List.take_of_length_le (by omega)]
   rw [e] at hs
   exact hs
  have hil:i<b.rs.length:=by omega
  refine wp_ixA hs (xs:=b.rs) (enc:=encR) i hil ?_
  refine wp_newO hs fun a18 w' hs=>?_
  refine wp_lt ?_
  refine wp_stG hs fun w' hs=>?_
  refine wp_if (fun h6=>?_) fun h6=>?_
  ·have:i=6:=by omega
   subst this
   exact wp_pass (wp_lv ⟨z,hs.tail⟩)
  have hx:(b.rs.take (i+1)).map smallR=(b.rs.take i).map smallR++[smallR b.rs[i]]:=by rw [List.take_succ_eq_append_getElem hil,List.map_append];rfl
  generalize b.rs[i]=q at hx hs ⊢
  refine wp_ldO hs ?_
  refine wp_mid (fun _ w'=>Sat w' (pt a18 (.cells #[.string (smallT q.key),.string q.value,.bool q.gone,.int .i64 q.time] T.api_Record)::slc T.api_Record 4 z (((b.rs.take i).map smallR).flatMap encR)::pt a9 (.cells (cZ b z) T.api_Batch)::pt a1 (.cells #[.int .i64 0,.int .i64 0,.int .i64 0,.int .i64 0,.int .i64 0,.int .i64 0,.slice none 0 0] T.api_Batch)::l)) ?_ ?_
  ·unfold smallT
   refine wp_if (fun h=>?_) fun h=>?_
   ·refine wp_ldO hs ?_
    refine wp_must (by omega) ?_
    refine wp_stO hs fun w' hs=>?_
    refine wp_lv ?_
    rw [if_pos (by omega)]
    exact hs
   ·refine wp_lv ?_
    rw [if_neg (by omega)]
    exact hs
  clear hs
  rintro _ w hs
  refine wp_on ?_
  refine wp_ldO hs ?_
  refine wp_mid (fun _ w'=>Sat w' (pt a18 (.cells #[.string (smallT q.key),.string (smallT q.value),.bool q.gone,.int .i64 q.time] T.api_Record)::slc T.api_Record 4 z (((b.rs.take i).map smallR).flatMap encR)::pt a9 (.cells (cZ b z) T.api_Batch)::pt a1 (.cells #[.int .i64 0,.int .i64 0,.int .i64 0,.int .i64 0,.int .i64 0,.int .i64 0,.slice none 0 0] T.api_Batch)::l)) ?_ ?_
  ·generalize smallT q.key=k0 at hs ⊢
   unfold smallT
   refine wp_if (fun h=>?_) fun h=>?_
   ·refine wp_ldO hs ?_
    refine wp_must (by omega) ?_
    refine wp_stO hs fun w' hs=>?_
    refine wp_lv ?_
    rw [if_pos (by omega)]
    exact hs
   ·refine wp_lv ?_
    rw [if_neg (by omega)]
    exact hs
  clear hs
  rintro _ w hs
  refine wp_on ?_
  refine wp_ldO hs ?_
  refine wp_ldG hs ?_
  refine wp_slit1 hs (enc:=encR) (smallR q) fun y w' hs=>?_
  refine wp_app' (xs:=(b.rs.take i).map smallR) (ys:=[smallR q]) (enc:=encR) hs (fun z' w' hs=>?_) (by simp only [List.length_map,List.length_take,List.length_cons,List.length_nil];omega)
  refine wp_stO hs fun w' hs=>?_
  rw [show IntKind.wrap .i64 ((i:Int)+1)=((i+1:Nat):Int) by rw [w64 (by omega) (by omega)];omega]
  refine wp_lp (b.rs.length-(i+1)) ⟨i+1,z',rfl,by omega,by omega,rfl,?_⟩
  rw [hx]
  have hs:Sat w' (pt a9 (.cells (cZ b z') T.api_Batch)::slc T.api_Record 4 z' (((b.rs.take i).map smallR++[smallR q]).flatMap encR)::slc T.api_Record 4 y _::pt a18 _::pt a1 (.cells #[.int .i64 0,.int .i64 0,.int .i64 0,.int .i64 0,.int .i64 0,.int .i64 0,.slice none 0 0] T.api_Batch)::l):=hs
  exact hs.sub
end
set_option linter.unusedVariables false
set_option linter.unusedSimpArgs false
theorem sum_names {nm:SegA→ByteArray}:∀ {fs:List FileA} {l:List SegA},fs.map (·.name)=l.map nm→(∀ f ∈ fs,∀ s ∈ l,f.name=nm s→f.b=s.file)→used fs=sumF l
 | [],[],_,_=>rfl
 | [],s::l,h,_=>by simp at h
 | f::fs,[],h,_=>by simp at h
 | f::fs,s::l,h,hh=>by
  rw [List.map_cons,List.map_cons,List.cons.injEq] at h
  have h1:=hh f (List.mem_cons_self ..) s (List.mem_cons_self ..) h.1
  have h2:=sum_names h.2 fun f hf s hs=>hh f (List.mem_cons_of_mem _ hf) s (List.mem_cons_of_mem _ hs)
  rw [used_cons,h2,h1]
  simp [sumF]
theorem Cpl.sizes {pre:ByteArray} {l:List SegA} {D:DiskA} (h:Cpl pre l D):l.length≤D.fs.length∧sumF l≤used D.fs:=by
 have hn:=h.names
 have e:(D.fs.filter fun f=>(bl (dashN pre)).isPrefixOf (bl f.name)).map (·.name)=l.map fun s=>nameS pre s.base logX:=by
  rw [← hn]
  unfold namesF
  rw [List.filter_map]
  congr 1
  apply List.filter_congr
  intro f _
  show _=Go.Proofs.YtfnldnodhfkojaaGreat.preF (dashN pre) f.name
  rw [preF_bl]
 have hs:=sum_names e fun f hf s hs hfs=>by
  have h1:=fileD_mem (names_nodup h.ok.sorted) (List.mem_filter.1 hf).1
  obtain ⟨k,hk⟩:=h.has s hs
  rw [hfs,hk] at h1
  simp only [Option.some.injEq,Prod.mk.injEq] at h1
  exact h1.1.symm
 have hl:=congrArg List.length e
 rw [List.length_map,List.length_map] at hl
 exact ⟨by rw [← hl];exact List.length_filter_le _ _,by rw [← hs];exact used_sub List.filter_sublist⟩
theorem sumF_bs:∀ {n:Int} {l:List SegA},SegsOk n l→(allB l).length*10≤sumF l
 | _,[],_=>Nat.le_refl _
 | n,s::l,⟨h1,h2,h3⟩=>by
  have h4:=sumF_bs h3
  have h5:=file_bs h2
  have e1:allB (s::l)=s.bs++allB l:=by simp [allB]
  have e2:sumF (s::l)=s.file.length+sumF l:=by simp [sumF]
  rw [e1,e2,List.length_append]
  omega
theorem Cpl.len {pre:ByteArray} {l:List SegA} {D:DiskA} (h:Cpl pre l D):l.length≤128∧(allB l).length≤500000∧∀ s ∈ l,s.file.length≤4194304:=by
 obtain ⟨h1,h2⟩:=h.sizes
 have h3:=sumF_bs h.segs
 have h4:=h.ok.many
 have h5:=h.ok.used
 refine ⟨by omega,by omega,fun s hs=>?_⟩
 obtain ⟨k,hk⟩:=h.has s hs
 exact Nat.le_trans (used_file hk) h5
theorem place_small (b:BatM) (z:Sl) (n:Int):((placeL n [(smallB b).at z]).2.flatMap frL).length≤676:=by
 unfold placeL
 split
 ·exact Nat.zero_le _
 ·rename_i hv
  have hv:=Decidable.not_not.1 hv
  split
  ·exact Nat.zero_le _
  ·show ((((smallB b).at z).to n)::(placeL _ []).2 |>.flatMap frL).length≤676
   have h1:=small_len b n z
   have h2:=frL_len hv
   simp only [placeL,List.flatMap_cons,List.flatMap_nil,List.append_nil]
   omega
theorem sum_rapp {seg:Int} {l:List SegA} {bs:List BatM}:sumF (rappA seg l bs).2≤sumF l+((placeL (nextL l) bs).2.flatMap frL).length+29:=by
 unfold rappA
 split
 ·simp only;omega
 split
 ·simp only;omega
 simp only
 split
 ·rename_i hr
  have hne:l≠[]:=by rintro rfl;cases hr
  obtain ⟨l0,s,rfl⟩:=snoc_of hne
  rw [addLast_snoc,sumF_snoc,sumF_snoc,file_add,List.length_append]
  omega
 ·have:=shL_len (nextL l) 0
  rw [sumF_snoc,shL_file,List.length_append]
  omega
theorem rapp_small (seg:Int) (l:List SegA) (b:BatM) (z1 z2:Sl):rappA seg l [(smallB b).at z1]=rappA seg l [(smallB b).at z2]:=by
 rw [← rapp_p,← rapp_p seg l [(smallB b).at z2]]
 rfl
set_option linter.unusedVariables false
set_option linter.unusedSimpArgs false
theorem allB_snoc (l:List SegA) (s:SegA):allB (l++[s])=allB l++s.bs:=by simp [allB]
theorem nextG_app {a b:List BatM} (h:b≠[]):nextG (a++b)=nextG b:=by
 obtain ⟨b0,x,rfl⟩:=snoc_of h
 rw [← List.append_assoc,nextG_snoc,nextG_snoc]
theorem rapp_all {seg:Int} {l:List SegA} {bs:List BatM} (hok:SegsOk 0 l) (hb:bs≠[]) (hp:(placeL (nextL l) bs).1=0) :
  allB (rappA seg l bs).2=allB l++(placeL (nextL l) bs).2.map BatM.p∧nextL (rappA seg l bs).2=nextG ((placeL (nextL l) bs).2.map BatM.p):=by
 have hq1:=(placeL_ok hp).1
 have hq:(placeL (nextL l) bs).2.map BatM.p≠[]:=by
  intro h
  have:=List.map_eq_nil_iff.1 h
  rw [this] at hq1
  exact hb (List.length_eq_zero_iff.1 hq1.symm)
 have hnx:=hok.next (Int.le_refl 0)
 have hlt:=((placeL_bs hnx.1 hp).1.next hnx.1).1 hq
 unfold rappA
 rw [if_neg hb,if_neg (by rw [hp];simp)]
 simp only
 split
 ·rename_i hr
  have hne:l≠[]:=by rintro rfl;cases hr
  obtain ⟨l0,s,rfl⟩:=snoc_of hne
  rw [addLast_snoc,allB_snoc,allB_snoc,nextL_snoc]
  refine ⟨by simp [SegA.add],?_⟩
  have hsr:=reach_le hok.front.2.1
  rw [nextL_snoc] at hlt hq ⊢
  show max (max s.base s.fin) (nextG (s.bs++_))=_
  rw [nextG_app hq]
  omega
 ·rw [allB_snoc,nextL_snoc]
  refine ⟨by simp [SegA.add],?_⟩
  show max (max (nextL l) 0) (nextG ([]++_))=_
  rw [List.nil_append]
  omega
theorem rapp_err {seg:Int} {l:List SegA} {bs:List BatM} (h:bs=[]∨(placeL (nextL l) bs).1≠0):(rappA seg l bs).2=l∧(rappA seg l bs).1.2≠0:=by
 unfold rappA
 by_cases hb:bs=[]
 ·rw [if_pos hb];exact ⟨rfl,by simp⟩
 ·rw [if_neg hb]
  rcases h with h|h
  ·exact absurd h hb
  ·rw [if_pos h];exact ⟨rfl,h⟩
theorem rapp_fst {seg:Int} {l:List SegA} {bs:List BatM} (hb:bs≠[]):(rappA seg l bs).1.2=(placeL (nextL l) bs).1:=by
 unfold rappA
 rw [if_neg hb]
 split
 ·rfl
 ·rename_i h;exact (Decidable.not_not.1 h).symm
def replay (seg:Int) (bs:List BatM):List SegA:=bs.foldl (fun l b=>(rappA seg l [b]).2) []
theorem replay_snoc (seg:Int) (bs:List BatM) (b:BatM):replay seg (bs++[b])=(rappA seg (replay seg bs) [b]).2:=by
 unfold replay
 rw [List.foldl_append]
 rfl
theorem place_one (b:BatM) (n:Int) (h:(placeL n [b]).1=0):(placeL n [b]).2=[b.to n]:=by
 unfold placeL at h ⊢
 split at h
 ·rename_i h1;exact absurd h h1
 ·rename_i h1
  rw [if_neg h1]
  split at h
  ·rename_i h2;exact absurd rfl h2
  ·rename_i h2;rw [if_neg h2];rfl
theorem rapp_to (seg:Int) (l:List SegA) (b:BatM):rappA seg l [(b.to (nextL l)).p]=rappA seg l [b]:=by
 rw [← rapp_p seg l [b]]
 have e:placeL (nextL l) [(b.to (nextL l)).p]=placeL (nextL l) ([b].map BatM.p):=rfl
 unfold rappA
 rw [e]
 rfl
theorem lapp_gen {pre:ByteArray} (seg:Int) {l:List SegA} {D:DiskA} (bs:List BatM) (hp:preS pre=true) (h:Cpl pre l D) :
  ((lappA pre seg l D bs).1=(rappA seg l bs).1∧(lappA pre seg l D bs).2.1=(rappA seg l bs).2) ∨
  ((lappA pre seg l D bs).1=(0,5)∧(lappA pre seg l D bs).2.1=l∧(rappA seg l bs).1.2=0∧(placeL (nextL l) bs).1=0∧(((placeL (nextL l) bs).2.flatMap frL).length+(shL (nextL l) 0).length>D.free∨D.fs.length≥128)) ∨
  ((lappA pre seg l D bs).1=(0,9)∧(lappA pre seg l D bs).2.1=l∧(rappA seg l bs).1.2=0∧(placeL (nextL l) bs).1=0∧(lappA pre seg l D bs).2.2.gone=true):=by
 unfold lappA rappA
 split
 ·exact .inl ⟨rfl,rfl⟩
 split
 ·exact .inl ⟨rfl,rfl⟩
 rename_i hpl
 have hpl:=Decidable.not_not.1 hpl
 split
 ·rename_i hr
  split
  ·rename_i he
   have hne:l≠[]:=by rintro rfl;cases hr
   obtain ⟨l0,s,rfl⟩:=snoc_of hne
   rw [baseL_snoc] at he ⊢
   obtain ⟨k,hk⟩:=h.has s (by simp)
   rcases append_errs (A:=D) (n:=nameS pre s.base logX) (bs:=(placeL (nextL (l0++[s])) bs).2.flatMap frL) (name_ok hp _) with h6|⟨h6,h7⟩|⟨h6,h7⟩
   ·exact absurd h6 he
   ·refine .inr (.inr ⟨by rw [h6],rfl,rfl,hpl,?_⟩)
    simp only
    rw [append_err he,h7]
   ·refine .inr (.inl ⟨by rw [h6],rfl,rfl,hpl,.inl ?_⟩)
    apply Nat.lt_of_not_le
    intro hle
    exact he (append_goes h7 (name_ok hp _) (by omega) (.inl (by rw [hk];simp)))
  ·exact .inl ⟨rfl,rfl⟩
 ·rename_i hr
  obtain ⟨s1,s2,s3,s4,-⟩:=lsync_all h
  split
  ·rename_i he
   have hne:l≠[]:=by rintro rfl;exact he rfl
   obtain ⟨l0,s,rfl⟩:=snoc_of hne
   have e:lsyncA pre (l0++[s]) D=syncA D [nameS pre s.base logX]:=by unfold lsyncA;rw [getLast_snoc]
   rw [e] at he ⊢
   rcases sync_one (A:=D) (n:=nameS pre s.base logX) with ⟨h6,-,-,-⟩|⟨h6,h7,h8⟩|⟨-,-,h6,-⟩
   ·exact absurd h6 he
   ·exact .inr (.inr ⟨by rw [h6],rfl,rfl,hpl,by simp only;rw [h8,h7]⟩)
   ·obtain ⟨k,hk⟩:=h.has s (by simp)
    rw [hk] at h6;cases h6
  split
  ·rename_i he
   rcases append_errs (A:=(lsyncA pre l D).2) (n:=nameS pre (nextL l) logX) (bs:=shL (nextL l) 0++(placeL (nextL l) bs).2.flatMap frL) (name_ok hp _) with h6|⟨h6,h7⟩|⟨h6,h7⟩
   ·exact absurd h6 he
   ·refine .inr (.inr ⟨by rw [h6],rfl,rfl,hpl,?_⟩)
    simp only
    rw [append_err he,h7]
   ·refine .inr (.inl ⟨by rw [h6],rfl,rfl,hpl,?_⟩)
    by_cases hfl:D.fs.length≥128
    ·exact .inr hfl
    refine .inl ?_
    apply Nat.lt_of_not_le
    intro hle
    refine he (append_goes h7 (name_ok hp _) ?_ (.inr (by omega)))
    have:(lsyncA pre l D).2.free=D.free:=by unfold DiskA.free;rw [s2.room,s3]
    rw [this,List.length_append]
    omega
  ·exact .inl ⟨rfl,rfl⟩
def SynP (pre:ByteArray) (l:List SegA) (D:DiskA) (n:Nat):Prop:=n≤(allB l).length∧∀ l0 t,l=l0++[t]→(∀ s ∈ l0,fileD D.fs (nameS pre s.base logX)=some (s.file,s.file.length)) ∧
 ∃ k,fileD D.fs (nameS pre t.base logX)=some (t.file,k)∧∀ j,1≤j→j≤t.bs.length→(allB l0).length+j≤n→(t.cut j).file.length≤k
theorem snoc_inj {α:Type} {a b:List α} {x y:α} (h:a++[x]=b++[y]):a=b∧x=y:=by
 have:=List.append_inj' h rfl
 exact ⟨this.1,by simpa using this.2⟩
theorem file_cut_le (t:SegA) (j:Nat):(t.cut j).file.length≤t.file.length:=by
 rw [file_len,file_len]
 show (shL t.base t.fin).length+((t.bs.take j).flatMap frL).length≤_
 have:t.bs.flatMap frL=(t.bs.take j).flatMap frL++(t.bs.drop j).flatMap frL:=by rw [← List.flatMap_append,List.take_append_drop]
 rw [this,List.length_append];omega
theorem SynP.sync {pre:ByteArray} {l:List SegA} {D:DiskA} {n:Nat} (h:SynP pre l D n) (hc:Cpl pre l D):SynP pre l (lsyncA pre l D).2 n∧((lsyncA pre l D).1=0→SynP pre l (lsyncA pre l D).2 (allB l).length ∧
  ∀ s ∈ l,fileD (lsyncA pre l D).2.fs (nameS pre s.base logX)=some (s.file,s.file.length)):=by
 by_cases h0:l=[]
 ·subst h0
  exact ⟨h,fun _=>⟨⟨Nat.le_refl _,fun l0 t e=>by simp at e⟩,fun s hs=>by cases hs⟩⟩
 obtain ⟨l0,t,rfl⟩:=snoc_of h0
 have e:lsyncA pre (l0++[t]) D=syncA D [nameS pre t.base logX]:=by unfold lsyncA;rw [getLast_snoc]
 rw [e]
 obtain ⟨h1,k,h2,h3⟩:=h.2 l0 t rfl
 obtain ⟨-,-,-,-,h5⟩:=sync_all hc.ok (nameS pre t.base logX)
 obtain ⟨f1,f2,f3,f4⟩:=hc.segs.front
 have hold:∀ s ∈ l0,fileD (syncA D [nameS pre t.base logX]).2.fs (nameS pre s.base logX)=some (s.file,s.file.length):=fun s hs=>by
  rcases h5 (nameS pre s.base logX) with h6|⟨h6,-,-⟩
  ·rw [h6];exact h1 s hs
  ·exact absurd h6 (name_ne (f1.mem s hs).1 f2 (by have:=(f4 s hs).2;omega))
 constructor
 ·refine ⟨h.1,fun l0' t' e'=>?_⟩
  obtain ⟨rfl,rfl⟩:=snoc_inj e'
  refine ⟨hold,?_⟩
  rcases h5 (nameS pre t.base logX) with h6|⟨-,-,h6⟩
  ·rw [h6];exact ⟨k,h2,h3⟩
  ·rw [h6,h2]
   exact ⟨t.file.length,rfl,fun j h7 h8 h9=>file_cut_le _ _⟩
 ·intro h0
  have hnew:fileD (syncA D [nameS pre t.base logX]).2.fs (nameS pre t.base logX)=some (t.file,t.file.length):=by
   obtain ⟨-,-,-,-,-,h7⟩:=sync_ok hc.ok h0
   rw [h7,h2];simp
  refine ⟨⟨Nat.le_refl _,fun l0' t' e'=>?_⟩,fun s hs=>?_⟩
  ·obtain ⟨rfl,rfl⟩:=snoc_inj e'
   exact ⟨hold,t.file.length,hnew,fun j _ _ _=>file_cut_le _ _⟩
  ·rcases List.mem_append.1 hs with hs|hs
   ·exact hold s hs
   ·simp only [List.mem_cons,List.not_mem_nil,or_false] at hs
    subst hs;exact hnew
theorem SynP.begin {pre:ByteArray} {l:List SegA} {s:SegA} {D:DiskA} {n:Nat} (h:SynP pre l D n) (hc:Cpl pre l D) (hsegs:SegsOk 0 (l++[s])) (hall:∀ t ∈ l,fileD D.fs (nameS pre t.base logX)=some (t.file,t.file.length)) (ha:(appendA D (nameS pre s.base logX) s.file).1=0):SynP pre (l++[s]) (appendA D (nameS pre s.base logX) s.file).2 n:=by
 obtain ⟨-,-,-,-,-,-,h7⟩:=append_ok hc.ok ha
 obtain ⟨f1,f2,f3,f4⟩:=hsegs.front
 have hn:=h.1
 have hnone:fileD D.fs (nameS pre s.base logX)=none:=by
  cases hq:fileD D.fs (nameS pre s.base logX) with
  | none=>rfl
  | some q =>
   obtain ⟨t,ht,e⟩:=hc.only _ (by rw [hq];rfl) (pre_nameS pre s.base logX)
   exact absurd e (name_ne f2 (f1.mem t ht).1 (by have:=(f4 t ht).2;omega))
 refine ⟨by rw [allB_snoc,List.length_append];omega,fun l0' t' e'=>?_⟩
 obtain ⟨rfl,rfl⟩:=snoc_inj e'
 refine ⟨fun t ht=>?_,0,?_,fun j j1 j2 j3=>?_⟩
 ·rw [h7,if_neg (name_ne (f1.mem t ht).1 f2 (by have:=(f4 t ht).2;omega))]
  exact hall t ht
 ·rw [h7,if_pos rfl,hnone]
  rfl
 ·omega
theorem SynP.app {pre:ByteArray} {seg:Int} {l:List SegA} {D:DiskA} {bs:List BatM} {n:Nat} (hp:preS pre=true) (h:SynP pre l D n) (hc:Cpl pre l D):SynP pre (lappA pre seg l D bs).2.1 (lappA pre seg l D bs).2.2 n:=by
 have hsegs:=rapp_segs (seg:=seg) (bs:=bs) hc.segs
 unfold lappA
 unfold rappA at hsegs
 split
 ·exact h
 rename_i hb
 rw [if_neg hb] at hsegs
 split
 ·exact h
 rename_i hpl
 rw [if_neg hpl] at hsegs
 simp only at hsegs
 split
 ·rename_i hr
  have hne:l≠[]:=by rintro rfl;cases hr
  obtain ⟨l0,t,rfl⟩:=snoc_of hne
  rw [baseL_snoc]
  split
  ·rename_i he
   simp only
   rw [append_err he];exact h
  ·rename_i he
   have he:=Decidable.not_not.1 he
   simp only
   rw [addLast_snoc]
   obtain ⟨h1,k,h2,h3⟩:=h.2 l0 t rfl
   obtain ⟨-,-,-,-,-,-,h7⟩:=append_ok hc.ok he
   obtain ⟨f1,f2,f3,f4⟩:=hc.segs.front
   have hn:=h.1
   rw [allB_snoc,List.length_append] at hn
   refine ⟨by rw [allB_snoc,List.length_append];simp only [SegA.add,List.length_append];omega,fun l0' t' e'=>?_⟩
   obtain ⟨rfl,rfl⟩:=snoc_inj e'
   refine ⟨fun s hs=>?_,k,?_,fun j j1 j2 j3=>?_⟩
   ·rw [h7,if_neg (name_ne (f1.mem s hs).1 f2 (by have:=(f4 s hs).2;omega))]
    exact h1 s hs
   ·show fileD _ (nameS pre t.base logX)=_
    rw [h7,if_pos rfl,h2,file_add]
    rfl
   ·have hj:j≤t.bs.length:=by omega
    have e:(t.add (placeL (nextL (l0++[t])) bs).2).cut j=t.cut j:=by
     unfold SegA.cut SegA.add
     simp only
     rw [List.take_append_of_le_length hj]
    rw [e]
    exact h3 j j1 hj j3
 ·rename_i hr
  obtain ⟨hs1,hs2⟩:=h.sync hc
  split
  ·exact hs1
  rename_i hse
  have hse:=Decidable.not_not.1 hse
  split
  ·rename_i he
   simp only
   rw [append_err he];exact hs1
  ·rename_i he
   have he:=Decidable.not_not.1 he
   rw [if_neg hr] at hsegs
   simp only
   obtain ⟨hs3,hs4⟩:=hs2 hse
   rw [← shL_file] at he ⊢
   exact hs1.begin (s:=SegA.add ⟨nextL l,0,[]⟩ (placeL (nextL l) bs).2) (lsync_all hc).1 hsegs hs4 he
set_option linter.unusedVariables false
set_option linter.unusedSimpArgs false
section
variable {w:World} {l r:List HP} {lg d:Nat} {D:DiskA} {A:LogA}
theorem one_c (k v:ByteArray) (hs:Sat w l):Ret P F.towpathlaw06_one #[.string k,.string v] w fun vs w'=>∃ x:Sl,vs=[.agg (encB7 (oneB k v x)).toArray]∧Sat w' (slc T.api_Record 4 x ((oneB k v x).rs.flatMap encR)::l) :=
 towpathlaw06_one_calls k v <| by
  unfold towpathlaw06_one
  refine wp_newO hs fun a0 w' hs=>?_
  refine wp_lits hs (enc:=encR) [(⟨k,v,false,0⟩:RecM)] fun x w' hs=>?_
  refine wp_stG hs fun w' hs=>?_
  refine wp_ldG hs ?_
  refine ⟨rfl,x,rfl,?_⟩
  have hs:Sat w' (pt a0 _::slc T.api_Record 4 x ((oneB k v x).rs.flatMap encR)::l):=hs
  exact hs.tail
theorem app1_c (b:BatM) (x:Sl) {r1:List HP} [hf:Fo l lgP lg A r1] [hf2:Fo r1 dk A.d D r] (hlen:A.l.length≤1000000) (hok:SegsOk 0 A.l) (hfl:∀ s ∈ A.l,s.file.length≤500000000)
  (hx:FocR r x 7 ([b].flatMap encB7)) (hb:FocR r b.x 4 (b.rs.flatMap encR)) (hs:Sat w l) :
  Ret P F.seglog_Log_Append #[.pointer (some ⟨lg,0,none⟩),x.v] w fun vs w'=>vs=[.int .i64 (lappA A.pre A.seg A.l D [b]).1.1,.int .i64 (lappA A.pre A.seg A.l D [b]).1.2] ∧
   Sat w' (lgP lg (A.set (lappA A.pre A.seg A.l D [b]).2.1)::dk A.d (lappA A.pre A.seg A.l D [b]).2.2::r) :=
 lappend_c x [b] hlen hok hfl (by show 1≤900;omega) hx (fun c hc=>by
  simp only [List.mem_cons,List.not_mem_nil,or_false] at hc
  subst hc
  exact hb) hs
theorem files_le {l:List SegA} {n:Nat} {ns:List Nat} (h:l.map (fun s=>s.file.length)=ns) (hn:∀ x ∈ ns,x≤n):∀ s ∈ l,s.file.length≤n:=fun s hs=>hn _ (by rw [← h];exact List.mem_map.2 ⟨s,hs,rfl⟩)
set_option maxHeartbeats 1000000 in
theorem awake6_c (hs:Sat w l):Ret P F.towpathlaw06_awake #[] w fun vs w'=>vs=[.bool true]∧Sat w' l :=
 towpathlaw06_awake_calls <| by
  unfold towpathlaw06_awake
  refine wp_call (new_ok 1000 (by omega) hs) fun _ w' hs=>?_
  obtain ⟨d,rfl,hs⟩:=hs
  refine ⟨(some ⟨d,0,none⟩,0,()),rfl,trivial,wp_u2 _ _ ?_⟩
  refine wp_lt ?_
  have hs:Sat w' (dk d aD0::l):=hs
  refine wp_call (lopen_c (d:=d) (D:=aD0) aP 64 1 (by kernel_rfl) ⟨by decide,by decide⟩ rfl hs) fun _ w' hs=>?_
  rw [aw_open] at hs
  rcases hs with ⟨he,-,-⟩|⟨-,lg,rfl,hs⟩
  ·exact absurd rfl he
  refine ⟨(some ⟨lg,0,none⟩,0,()),rfl,trivial,wp_u2 _ _ ?_⟩
  refine wp_lt ?_
  refine wp_ifF ?_ (by simp)
  have hs:Sat w' (lgP lg ⟨d,aP,64,1,[]⟩::dk d aD0::l):=hs
  have step:∀ {w:World} {L:List SegA} {DD:DiskA} {X:List HP} (y x:Sl),Sat w (slc T.api_Batch 7 x ([oneB (ByteArray.mk #[97]) (ByteArray.mk #[120]) y].flatMap encB7)::slc T.api_Record 4 y ((oneB (ByteArray.mk #[97]) (ByteArray.mk #[120]) y).rs.flatMap encR)::lgP lg ⟨d,aP,64,1,L⟩::dk d DD::l)→L.length≤1000000→SegsOk 0 L→(∀ s ∈ L,s.file.length≤500000000) →
    Ret P F.seglog_Log_Append #[.pointer (some ⟨lg,0,none⟩),x.v] w fun vs w'=>vs=[.int .i64 (lappA aP 64 L DD [aB]).1.1,.int .i64 (lappA aP 64 L DD [aB]).1.2]∧Sat w' (lgP lg ⟨d,aP,64,1,(lappA aP 64 L DD [aB]).2.1⟩::dk d (lappA aP 64 L DD [aB]).2.2::l):=by
   intro w L DD X y x hs h1 h2 h3
   have h:=app1_c (lg:=lg) (A:=⟨d,aP,64,1,L⟩) (D:=DD) (oneB (ByteArray.mk #[97]) (ByteArray.mk #[120]) y) x h1 h2 h3 inferInstance (FocR.tail (h:=FocR.head):FocR (slc T.api_Batch 7 x ([oneB (ByteArray.mk #[97]) (ByteArray.mk #[120]) y].flatMap encB7)::slc T.api_Record 4 y ((oneB (ByteArray.mk #[97]) (ByteArray.mk #[120]) y).rs.flatMap encR)::l) y 4 ((oneB (ByteArray.mk #[97]) (ByteArray.mk #[120]) y).rs.flatMap encR)) hs
   have e:lappA aP 64 L DD [oneB (ByteArray.mk #[97]) (ByteArray.mk #[120]) y]=lappA aP 64 L DD [aB]:=by
    rw [← lapp_p,← lapp_p aP 64 L DD [aB]]
    rfl
   refine h.mono fun vs w' ⟨hv,hs⟩=>⟨?_,?_⟩
   ·rw [hv]
    show [Value.int .i64 (lappA aP 64 L DD [oneB (ByteArray.mk #[97]) (ByteArray.mk #[120]) y]).1.1,Value.int .i64 (lappA aP 64 L DD [oneB (ByteArray.mk #[97]) (ByteArray.mk #[120]) y]).1.2]=_
    rw [e]
   ·have hs:Sat w' (lgP lg ⟨d,aP,64,1,(lappA aP 64 L DD [oneB (ByteArray.mk #[97]) (ByteArray.mk #[120]) y]).2.1⟩::dk d (lappA aP 64 L DD [oneB (ByteArray.mk #[97]) (ByteArray.mk #[120]) y]).2.2::slc T.api_Batch 7 x ([oneB (ByteArray.mk #[97]) (ByteArray.mk #[120]) y].flatMap encB7)::slc T.api_Record 4 y ((oneB (ByteArray.mk #[97]) (ByteArray.mk #[120]) y).rs.flatMap encR)::l):=hs
    rw [e] at hs
    exact hs.sub
  refine wp_call (one_c _ _ hs) fun _ w' hs=>?_
  obtain ⟨y1,rfl,hs⟩:=hs
  refine ⟨(0,0,0,0,0,0,y1,()),rfl,trivial,wp_u7 _ _ _ _ _ _ _ ?_⟩
  refine wp_lits hs (enc:=encB7) [oneB (ByteArray.mk #[97]) (ByteArray.mk #[120]) y1] fun x1 w' hs=>?_
  refine wp_call (step (X:=[]) y1 x1 hs (by decide) trivial (fun s hs=>by cases hs)) fun _ w' hs=>?_
  obtain ⟨hv,hs⟩:=hs
  have hv:_=[Value.int .i64 aS1.1.1,Value.int .i64 aS1.1.2]:=hv
  have hs:Sat w' (lgP lg ⟨d,aP,64,1,aS1.2.1⟩::dk d aS1.2.2::l):=hs
  have k1:SegsOk 0 aS1.2.1:=lapp_segs trivial
  rw [aw_1] at hv
  subst hv
  refine ⟨(0,0,()),rfl,trivial,wp_u2 _ _ ?_⟩
  refine wp_lt ?_
  refine wp_lt ?_
  refine wp_call (one_c _ _ hs) fun _ w' hs=>?_
  obtain ⟨y2,rfl,hs⟩:=hs
  refine ⟨(0,0,0,0,0,0,y2,()),rfl,trivial,wp_u7 _ _ _ _ _ _ _ ?_⟩
  refine wp_lits hs (enc:=encB7) [oneB (ByteArray.mk #[97]) (ByteArray.mk #[120]) y2] fun x2 w' hs=>?_
  refine wp_call (step (X:=[]) y2 x2 hs (by rw [aw_l1.1];decide) k1 (files_le aw_l1.2 (by simp))) fun _ w' hs=>?_
  obtain ⟨hv,hs⟩:=hs
  have hv:_=[Value.int .i64 aS2.1.1,Value.int .i64 aS2.1.2]:=hv
  have hs:Sat w' (lgP lg ⟨d,aP,64,1,aS2.2.1⟩::dk d aS2.2.2::l):=hs
  have k2:SegsOk 0 aS2.2.1:=lapp_segs k1
  rw [aw_2] at hv
  subst hv
  refine ⟨(1,0,()),rfl,trivial,wp_u2 _ _ ?_⟩
  refine wp_lt ?_
  refine wp_lt ?_
  refine wp_call (one_c _ _ hs) fun _ w' hs=>?_
  obtain ⟨y3,rfl,hs⟩:=hs
  refine ⟨(0,0,0,0,0,0,y3,()),rfl,trivial,wp_u7 _ _ _ _ _ _ _ ?_⟩
  refine wp_lits hs (enc:=encB7) [oneB (ByteArray.mk #[97]) (ByteArray.mk #[120]) y3] fun x3 w' hs=>?_
  refine wp_call (step (X:=[]) y3 x3 hs (by rw [aw_l2.1];decide) k2 (files_le aw_l2.2 (by simp))) fun _ w' hs=>?_
  obtain ⟨hv,hs⟩:=hs
  have hv:_=[Value.int .i64 aS3.1.1,Value.int .i64 aS3.1.2]:=hv
  have hs:Sat w' (lgP lg ⟨d,aP,64,1,aS3.2.1⟩::dk d aS3.2.2::l):=hs
  rw [aw_3] at hv
  subst hv
  refine ⟨(2,0,()),rfl,trivial,wp_u2 _ _ ?_⟩
  refine wp_lt ?_
  refine wp_lt ?_
  obtain ⟨M,hM,hs⟩:=lgP_open hs
  have hMl:M.l=aS3.2.1:=congrArg LogA.l hM
  have hMd:M.d=d:=congrArg LogA.d hM
  refine wp_call (segments_c (lg:=lg) (by have:=aw_l3;rw [← hMl] at this;have h2:M.l.length=M.SM.length:=List.length_map ..;omega) hs) fun _ w' hs=>?_
  obtain ⟨z,rfl,hs⟩:=hs
  refine ret_of ?_
  rw [hMl,aw_segs] at hs
  have hlz:=hs.slen z (xs:=([0,2]:List Int)) (enc:=encI)
  obtain ⟨p,hp,hpf⟩:∃ p,fileD aS3.2.2.fs (ByteArray.mk #[112,45,48,48,48,48,48,48,48,48,48,48,48,46,108,111,103])=some p∧(p.1.length,p.1[0]?,p.1[4]?)=(53,some 3,some 83):=by
   have:=aw_file
   rw [Option.map_eq_some_iff] at this
   exact this
  simp only [Prod.mk.injEq] at hpf
  obtain ⟨q1,q2,q3⟩:=hpf
  refine wp_call (read_f (d:=d) (D:=aS3.2.2) _ p hp hs) fun _ w' hs=>?_
  obtain ⟨u,rfl,hs⟩:=hs
  refine ⟨(u,0,()),rfl,trivial,wp_u2 _ _ ?_⟩
  refine wp_lt ?_
  have hlu:=hs.slen u (xs:=p.1) (enc:=encU)
  have hq2:(p.1[0]'(by omega))=3:=by
   rw [List.getElem?_eq_getElem (by omega)] at q2;exact Option.some.inj q2
  have hq3:(p.1[4]'(by omega))=83:=by
   rw [List.getElem?_eq_getElem (by omega)] at q3;exact Option.some.inj q3
  refine wp_ix1k hs (xs:=([0,2]:List Int)) (enc:=encI) 1 (by decide) ?_
  refine wp_ix1k hs (xs:=p.1) (enc:=encU) 0 (by omega) ?_ (by omega)
  refine wp_ix1k hs (xs:=p.1) (enc:=encU) 4 (by omega) ?_
  refine wp_lt ?_
  refine ⟨rfl,?_,hs.sub⟩
  rw [hq2,hq3,hlz,hlu,q1]
  rfl
theorem nil_append (x:Sl) (hs:Sat w l):Ret P F.seglog_Log_Append #[.pointer none,x.v] w fun vs w'=>vs=[.int .i64 0,.int .i64 1]∧Sat w' l :=
 seglog_Log_Append_calls _ x <| by
  unfold seglog_Log_Append
  refine wp_ifT ?_ (by rfl)
  exact ⟨rfl,rfl,hs⟩
end
set_option linter.unusedVariables false
set_option linter.unusedSimpArgs false
section
variable {w:World} {l r:List HP}
theorem rf_new {a:Nat} {seg gap:Int} (hs:Sat w (pt a (.cells #[.int .i64 seg,.int .i64 gap,.slice none 0 0] T.towpathref06_Log)::l)):Sat w (rfP a ⟨seg,gap,[]⟩::l):=by
 have h1:Sat w (slc T.towpathref06_Segment 3 ⟨none,0,0⟩ (([]:List SegR).flatMap encSR)::HP.all (([]:List SegR).map rsgP)::pt a (.cells #[.int .i64 seg,.int .i64 gap,.slice none 0 0] T.towpathref06_Log)::l):=(Sat.all_nil hs).slc_nil
 exact rf_close ⟨seg,gap,[]⟩ (z:=⟨none,0,0⟩) (h1.pick [2])
end
set_option linter.unusedVariables false
set_option linter.unusedSimpArgs false
def InP (pool:List BatM) (R:RefM):Prop:=∀ b ∈ R.bs,∃ c ∈ pool,b.x=c.x∧b.rs=c.rs
structure Grw (pre:ByteArray) (D:DiskA) (l':List SegA) (D':DiskA):Prop where
 cpl:Cpl pre l' D'
 fr:Fr pre D D'
 calm:Calm D'
 used:used D'.fs≤used D.fs+705
 len:D'.fs.length≤D.fs.length+1
theorem bats_put2 {w:World} {l:List HP} {outs:List BatM} {b:BatM} {z:Sl} (hs:Sat w (slc T.api_Record 4 z (b.rs.flatMap encR)::batsP outs::l)):Sat w (batsP (outs++[b.at z])::l):=bats_put (b:=b.at z) hs
theorem InP.rd {pool:List BatM} {R:RefM} {l:List HP} (h:InP pool R):∀ b ∈ R.bs,FocR (batsP pool::l) b.x 4 (b.rs.flatMap encR):=fun b hb=>by
 obtain ⟨c,hc,e1,e2⟩:=h b hb
 rw [e1,e2]
 exact bats_rd hc
theorem InP.more {pool:List BatM} {R:RefM} (h:InP pool R) (x:BatM):InP (pool++[x]) R:=fun b hb=>by
 obtain ⟨c,hc,e⟩:=h b hb
 exact ⟨c,List.mem_append_left _ hc,e⟩
theorem InP.app {pool:List BatM} {R R':RefM} {b0:BatM} {z:Sl} (h:InP pool R) (hR:∀ b ∈ R'.bs,b ∈ R.bs∨(b.x=z∧b.rs=(smallB b0).rs)):InP (pool++[(smallB b0).at z]) R':=fun b hb=>by
 rcases hR b hb with h1|⟨h1,h2⟩
 ·exact h.more _ b h1
 ·exact ⟨(smallB b0).at z,by simp,h1,h2⟩
set_option linter.unusedVariables false
set_option linter.unusedSimpArgs false
abbrev qP:ByteArray:=ByteArray.mk #[113]
abbrev qqP:ByteArray:=ByteArray.mk #[113,113]
theorem qP_ok:preS qP=true:=by kernel_rfl
theorem qqP_ok:preS qqP=true:=by kernel_rfl
theorem q_ne:qP≠qqP:=fun h=>by have:=congrArg ByteArray.size h;cases this
structure ApP (s:Int) (k:Nat) (D:DiskA) (R S:RefM) (pool:List BatM):Prop where
 rs:R.seg=s
 ss:S.seg=s
 c1:Cpl qP R.l D
 c2:Cpl qqP S.l D
 calm:Calm D
 room:D.room=1048576
 used:used D.fs≤705*k
 len:D.fs.length≤k
 in1:InP pool R
 in2:InP pool S
theorem ApP.left {s:Int} {k:Nat} {D D':DiskA} {R R' S:RefM} {pool:List BatM} {b0:BatM} {z:Sl} (h:ApP s k D R S pool) (hg:Grw qP D R'.l D') (h1:R'.seg=R.seg) (hR:∀ b ∈ R'.bs,b ∈ R.bs∨(b.x=z∧b.rs=(smallB b0).rs)):ApP s (k+1) D' R' S (pool++[(smallB b0).at z]) :=
 ⟨h1.trans h.rs,h.ss,hg.cpl,h.c2.frame hg.cpl.ok qP_ok qqP_ok q_ne hg.fr,hg.calm,hg.fr.room.trans h.room,by have:=hg.used;have:=h.used;omega,by have:=hg.len;have:=h.len;omega,h.in1.app hR,h.in2.more _⟩
theorem ApP.right {s:Int} {k:Nat} {D D':DiskA} {R S S':RefM} {pool:List BatM} {b0:BatM} {z:Sl} (h:ApP s k D R S pool) (hg:Grw qqP D S'.l D') (h1:S'.seg=S.seg) (hR:∀ b ∈ S'.bs,b ∈ S.bs∨(b.x=z∧b.rs=(smallB b0).rs)):ApP s (k+1) D' R S' (pool++[(smallB b0).at z]) :=
 ⟨h.rs,h1.trans h.ss,h.c1.frame hg.cpl.ok qqP_ok qP_ok q_ne.symm hg.fr,hg.cpl,hg.calm,hg.fr.room.trans h.room,by have:=hg.used;have:=h.used;omega,by have:=hg.len;have:=h.len;omega,h.in1.more _,h.in2.app hR⟩
theorem ApP.free {s:Int} {k:Nat} {D:DiskA} {R S:RefM} {pool:List BatM} (h:ApP s k D R S pool) (hk:k≤100):705≤D.free:=by
 have:=h.used
 have:=h.room
 unfold DiskA.free
 omega
end Go.Dec
