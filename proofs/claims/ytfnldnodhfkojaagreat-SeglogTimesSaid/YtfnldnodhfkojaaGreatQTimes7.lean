/- What the claim of this folder leans on: our own texts, joined, without what it does not use. -/
import Derived.Test.YtfnldnodhfkojaaGreatRows
import Derived.WalkKit
import Derived.ProofKit
import Derived.OpenShut
import Derived.RowKit3
import Derived.OrdersHeld
import Derived.Scope
import Derived.KernelRfl
import Derived.Laws.Sem
import Derived.Laws.StructEq
import Derived.Deep.AppendSrc
import Derived.Laws.BytesArg
import Derived.Laws.RangeString
import Derived.Maps.RangeRun
import Derived.Lib.ConvBytes
import Derived.Lib.SlBytesConst
import Derived.ChangeSlices
import Derived.ChangeMaps5
import Derived.ChangeSame
import Derived.Deep.Slices
import Derived.Deep.Fields
import Derived.Test.YtfnldnodhfkojaaGreatProg
import Derived.Laws.MakeOwn
import Derived.Sort.MapsRangeIn
import Derived.Sort.KeysCollected
import Derived.RangeFuncNested
import Derived.RangeFuncBound
import Derived.RangeFuncCalls
import Derived.RangeFuncLeaves
import Derived.RangeFuncBox
import Derived.OwnWalkIn
import Derived.TacticsInMore
import Derived.RegionIn
import Derived.LoopNIn
import Derived.LoopIn
import Derived.Maps.AppendAt
import Derived.Shelf.Abstract
import Derived.Test.YtfnldnodhfkojaaGreatQTimes1
import Derived.Test.YtfnldnodhfkojaaGreatQTimes2
import Derived.Test.YtfnldnodhfkojaaGreatQTimes3
import Derived.Test.YtfnldnodhfkojaaGreatQTimes4
import Derived.Test.YtfnldnodhfkojaaGreatQTimes5
import Derived.Test.YtfnldnodhfkojaaGreatQTimes6
namespace Go.Dec
set_option linter.unusedVariables false
set_option linter.unusedSimpArgs false
theorem recF_cases (r:RecM):recF r=0∨recF r=2∨recF r=7:=by
 unfold recF
 split
 ·exact .inr (.inr rfl)
 split
 ·exact .inr (.inl rfl)
 ·exact .inl rfl
theorem badF_cases:∀ rs:List RecM,badF rs=0∨badF rs=2∨badF rs=7
 | []=>.inl rfl
 | r::rs=>by
  unfold badF
  split
  ·exact recF_cases r
  ·exact badF_cases rs
theorem validB_cases (b:BatM):validB b=0∨validB b=2∨validB b=7∨validB b=24:=by
 unfold validB
 split
 ·exact .inr (.inl rfl)
 split
 ·exact .inr (.inr (.inl rfl))
 split
 ·have:=badF_cases b.rs
  omega
 split
 ·exact .inr (.inr (.inr rfl))
 ·exact .inl rfl
theorem place_cases:∀ (bs:List BatM) (n:Int),(placeL n bs).1=0∨(placeL n bs).1=2∨(placeL n bs).1=7∨(placeL n bs).1=24
 | [],n=>.inl rfl
 | b::bs,n=>by
  unfold placeL
  split
  ·exact validB_cases _
  split
  ·exact place_cases bs _
  ·exact .inl rfl
def encBo (b:Bool):List Value:=[.bool b]
instance:Enc1 encBo .bool (fun b=>b):=⟨fun _=>rfl⟩
instance:EncN encBo 1:=⟨fun _=>rfl,by decide,by simp [encBo,Value.oneCell']⟩
section
variable {w:World} {l r:List HP} {lg a:Nat} {A:LogA} {D:DiskA} {R:RefM}
theorem lsyncP_c {r1:List HP} [hf:Fo l lgP lg A r1] [hf2:Fo r1 dk A.d D r] (hlen:A.l.length≤1000000000) (hok:SegsOk 0 A.l) (hs:Sat w l) :
  Ret P F.seglog_Log_Sync #[.pointer (some ⟨lg,0,none⟩)] w fun vs w'=>vs=[.int .i64 (lsyncA A.pre A.l D).1]∧Sat w' (lgP lg A::dk A.d (lsyncA A.pre A.l D).2::r):=by
 have hs:=hs.perm (hf.perm.trans (.cons _ hf2.perm))
 clear hf hf2
 obtain ⟨M,rfl,hs⟩:=lgP_open hs
 have hll:M.l.length=M.SM.length:=List.length_map ..
 have hMl:M.A.l=M.l:=rfl
 rw [hMl] at hlen hok
 have hs:Sat w (lgQ lg M::dk M.d D::r):=hs
 refine (lsync_c (lg:=lg) (M:=M) (D:=D) (by omega) hok hs).mono fun vs w' h=>?_
 obtain ⟨h1,h2⟩:=h
 exact ⟨h1,lgP_close M h2⟩
theorem okR_in {pool:List BatM} (hsegs:SegsOk 0 R.l) (h1:R.SR.length≤1000000) (h2:R.bs.length≤1000000) (hin:InP pool R):okR R (batsP pool::l):=⟨hsegs,hin.rd,h1,h2⟩
structure FilI (s:Int) (k:Nat) (D:DiskA) (l:List SegA) (R:RefM) (pool:List BatM) (n:Nat) (C:Prop):Prop where
 cpl:Cpl qP l D
 syn:SynP qP l D n
 rseg:R.seg=4194304
 segs:SegsOk 0 R.l
 srl:R.SR.length≤k
 brl:R.bs.length≤k
 all:R.bs.map BatM.p=allB l
 next:nextL R.l=nextL l
 rep:l=replay s (allB l)
 room:D.room=1048576
 used:used D.fs≤705*k
 len:D.fs.length≤k
 in1:InP pool R
 calm:C→Calm D
structure FilE (s:Int) (D:DiskA) (l:List SegA) (outs pool:List BatM) (n:Nat) (C:Prop):Prop where
 cpl:Cpl qP l D
 syn:SynP qP l D n
 told:outs.map BatM.p=allB l∨(D.gone=true∧∃ b,outs.map BatM.p=allB l++[b])
 rep:l=replay s (allB l)
 room:D.room=1048576
 used:used D.fs≤14805
 len:D.fs.length≤21
 num:outs.length≤21
 in1:∀ b ∈ outs,∃ c ∈ pool,b.x=c.x∧b.rs=c.rs
 calm:C→Calm D∧outs.map BatM.p=allB l
theorem FilI.free {s:Int} {k n:Nat} {l:List SegA} {pool:List BatM} {C:Prop} (h:FilI s k D l R pool n C) (hk:k≤100):705≤D.free:=by
 have:=h.used
 have:=h.room
 unfold DiskA.free
 omega
theorem FilI.done {s:Int} {k n:Nat} {l:List SegA} {pool:List BatM} {C:Prop} (h:FilI s k D l R pool n C) (hk:k≤20):FilE s D l R.bs pool n C :=
 ⟨h.cpl,h.syn,.inl h.all,h.rep,h.room,by have:=h.used;omega,by have:=h.len;omega,by have:=h.brl;omega,h.in1,fun c=>⟨h.calm c,h.all⟩⟩
theorem FilI.step {s:Int} {k n:Nat} {l:List SegA} {pool:List BatM} {C:Prop} {R':RefM} {b0:BatM} {z z':Sl} (h:FilI s k D l R pool n C) (hk:k≤100)
  (h1:(lappA qP s l D [(smallB b0).at z]).1=(rappA s l [(smallB b0).at z]).1) (h2:(lappA qP s l D [(smallB b0).at z]).2.1=(rappA s l [(smallB b0).at z]).2)
  (r1:R'.seg=R.seg) (r2:R'.l=(rappA R.seg R.l [(smallB b0).at z']).2) (r3:R'.SR.length≤R.SR.length+1) (r4:R'.bs.length≤R.bs.length+1) (r5:∀ b ∈ R'.bs,b ∈ R.bs∨(b.x=z'∧b.rs=(smallB b0).rs)) :
  FilI s (k+1) (lappA qP s l D [(smallB b0).at z]).2.2 (lappA qP s l D [(smallB b0).at z]).2.1 R' (pool++[(smallB b0).at z']) n C:=by
 have hst:=lapp_stp s [(smallB b0).at z] qP_ok h.cpl
 have hsy:=h.syn.app (seg:=s) (bs:=[(smallB b0).at z]) qP_ok h.cpl
 have hsum:=sum_rapp (seg:=s) (l:=l) (bs:=[(smallB b0).at z])
 have hsm:=place_small b0 z (nextL l)
 have hsl:=shL_len (nextL l) 0
 have hR:R'.bs.map BatM.p=allB R'.l:=by rw [allB_l]
 have hRR:R.bs.map BatM.p=allB R.l:=by rw [allB_l]
 have hrall:allB R.l=allB l:=hRR.symm.trans h.all
 have er:rappA R.seg R.l [(smallB b0).at z']=rappA R.seg R.l [(smallB b0).at z]:=rapp_small _ _ _ _ _
 rw [er] at r2
 have hsegR:SegsOk 0 R'.l:=by rw [r2];exact rapp_segs h.segs
 have hallN:allB R'.l=allB (rappA s l [(smallB b0).at z]).2∧nextL R'.l=nextL (rappA s l [(smallB b0).at z]).2∧(rappA s l [(smallB b0).at z]).2=replay s (allB (rappA s l [(smallB b0).at z]).2):=by
  by_cases hp:(placeL (nextL l) [(smallB b0).at z]).1=0
  ·obtain ⟨g1,g2⟩:=rapp_all (seg:=s) h.cpl.segs (by simp) hp
   obtain ⟨g3,g4⟩:=rapp_all (seg:=R.seg) (bs:=[(smallB b0).at z]) h.segs (by simp) (by rw [h.next];exact hp)
   rw [h.next] at g3 g4
   rw [r2]
   refine ⟨by rw [g1,g3,hrall],by rw [g2,g4],?_⟩
   rw [g1,place_one _ _ hp]
   show _=replay s (allB l++[(((smallB b0).at z).to (nextL l)).p])
   rw [replay_snoc,← h.rep,rapp_to]
  ·obtain ⟨g1,-⟩:=rapp_err (seg:=s) (l:=l) (bs:=[(smallB b0).at z]) (.inr hp)
   obtain ⟨g3,-⟩:=rapp_err (seg:=R.seg) (l:=R.l) (bs:=[(smallB b0).at z]) (.inr (by rw [h.next];exact hp))
   rw [r2,g1,g3]
   exact ⟨hrall,h.next,h.rep⟩
 rw [h2] at hst hsy ⊢
 have hu:=hst.2.2.1
 have hl:=hst.2.2.2.1
 have hll:(rappA s l [(smallB b0).at z]).2.length≤l.length+1:=by
  unfold rappA
  split
  ·simp
  split
  ·simp
  ·simp only
   split
   ·rename_i hr
    have hne:l≠[]:=by rintro rfl;cases hr
    obtain ⟨l0,t,rfl⟩:=snoc_of hne
    rw [addLast_snoc];simp
   ·simp
 have hlen2:(lappA qP s l D [(smallB b0).at z]).2.2.fs.length≤D.fs.length+1:=by
  unfold lappA
  split
  ·simp only;omega
  split
  ·simp only;omega
  split
  ·split <;> exact append_len.1
  ·obtain ⟨-,-,-,s4,-⟩:=lsync_all h.cpl
   split
   ·simp only;omega
   split
   ·simp only
    have:=(append_len (A:=(lsyncA qP l D).2) (n:=nameS qP (nextL l) logX) (bs:=shL (nextL l) 0++(placeL (nextL l) [(smallB b0).at z]).2.flatMap frL)).1
    omega
   ·simp only
    have:=(append_len (A:=(lsyncA qP l D).2) (n:=nameS qP (nextL l) logX) (bs:=shL (nextL l) 0++(placeL (nextL l) [(smallB b0).at z]).2.flatMap frL)).1
    omega
 exact ⟨hst.1,hsy,r1.trans h.rseg,hsegR,by have:=h.srl;omega,by have:=h.brl;omega,by rw [hR];exact hallN.1,hallN.2.1,hallN.2.2,hst.2.1.room.trans h.room,by have:=h.used;omega,by have:=h.len;omega,h.in1.app r5,fun c=>hst.2.2.2.2 (h.calm c)⟩
theorem FilI.fail {s:Int} {k n:Nat} {l:List SegA} {pool:List BatM} {C:Prop} {R':RefM} {b0:BatM} {z z':Sl} (h:FilI s k D l R pool n C) (hk:k<20)
  (h1:(lappA qP s l D [(smallB b0).at z]).2.1=l) (h2:(lappA qP s l D [(smallB b0).at z]).2.2.gone=true)
  (r2:R'.l=(rappA R.seg R.l [(smallB b0).at z']).2) (r4:R'.bs.length≤R.bs.length+1) (r5:∀ b ∈ R'.bs,b ∈ R.bs∨(b.x=z'∧b.rs=(smallB b0).rs)) :
  FilE s (lappA qP s l D [(smallB b0).at z]).2.2 l R'.bs (pool++[(smallB b0).at z']) n C:=by
 have hst:=lapp_stp s [(smallB b0).at z] qP_ok h.cpl
 have hsy:=h.syn.app (seg:=s) (bs:=[(smallB b0).at z]) qP_ok h.cpl
 rw [h1] at hst hsy
 have hR:R'.bs.map BatM.p=allB R'.l:=by rw [allB_l]
 have hRR:R.bs.map BatM.p=allB R.l:=by rw [allB_l]
 have hrall:allB R.l=allB l:=hRR.symm.trans h.all
 have hu:=hst.2.2.1
 have hl:=hst.2.2.2.1
 refine ⟨hst.1,hsy,?_,h.rep,hst.2.1.room.trans h.room,by have:=h.used;omega,by have:=h.len;omega,by have:=h.brl;omega,h.in1.app r5,fun c=>?_⟩
 ·by_cases hp:(placeL (nextL R.l) [(smallB b0).at z']).1=0
  ·obtain ⟨g3,-⟩:=rapp_all (seg:=R.seg) (bs:=[(smallB b0).at z']) h.segs (by simp) hp
   refine .inr ⟨h2,?_⟩
   rw [hR,r2,g3,place_one _ _ hp,hrall]
   exact ⟨_,rfl⟩
  ·obtain ⟨g3,-⟩:=rapp_err (seg:=R.seg) (l:=R.l) (bs:=[(smallB b0).at z']) (.inr hp)
   refine .inl ?_
   rw [hR,r2,g3,hrall]
 ·have:=(hst.2.2.2.2 (h.calm c)).gone
  rw [this] at h2;cases h2
set_option maxHeartbeats 1000000 in
theorem filled_c (d:Nat) (x sy:Sl) (bs:List BatM) (ss:List Bool) (s g:Int) (C:Prop) [hf:Fo l dk d D r] (hgone:D.gone=false) (hD:Cpl qP [] D) (hroom:D.room=1048576) (hused:used D.fs=0) (hlen0:D.fs.length=0) (hC:C→Calm D) (hcfg:okCfg s g)
  (hx:FocR r x 7 (bs.flatMap encB7)) (hbs:∀ b ∈ bs,FocR r b.x 4 (b.rs.flatMap encR)) (hsy:FocR r sy 1 (ss.flatMap encBo)) (hs:Sat w l) :
  Ret P F.towpathlaw06_filled #[.pointer (some ⟨d,0,none⟩),.agg #[.int .i64 s,.int .i64 g],x.v,sy.v] w fun vs w' =>
   ∃ (lg:Nat) (y:Sl) (outs:List BatM) (n:Nat) (D':DiskA) (l':List SegA) (pool:List BatM),vs=[.pointer (some ⟨lg,0,none⟩),y.v,.int .i64 (n:Nat)]∧FilE s D' l' outs pool n C ∧
    Sat w' (lgP lg ⟨d,qP,s,g,l'⟩::dk d D'::slc T.api_Batch 7 y (outs.flatMap encB7)::batsP pool::r) :=
 towpathlaw06_filled_calls _ s g x sy <| by
  unfold towpathlaw06_filled
  have hs:=hs.perm hf.perm
  clear hf
  have hlx:=hs.slen x (xs:=bs) (enc:=encB7)
  have hly:=hs.slen sy (xs:=ss) (enc:=encBo)
  refine wp_boxO hs fun a0 w' hs=>?_
  refine wp_ldG hs ?_
  refine wp_call (lopen_c (d:=d) (D:=D) qP s g qP_ok hcfg hgone hs) fun _ w' hs=>?_
  rw [hD.opened] at hs
  rcases hs with ⟨he,-,-⟩|⟨-,lg,rfl,hs⟩
  ·exact absurd rfl he
  have hs:Sat w' (lgP lg ⟨d,qP,s,g,[]⟩::dk d D::pt a0 (.cells #[.int .i64 s,.int .i64 g] T.seglog_Config)::r):=hs
  refine ⟨(some ⟨lg,0,none⟩,0,()),rfl,trivial,wp_u2 _ _ ?_⟩
  refine wp_lt ?_
  refine wp_ifF ?_ (by simp)
  refine wp_boxO hs fun a6 w' hs=>?_
  have hs:=rf_new hs
  refine wp_mid (fun q w'=>∃ (R:RefM) (D':DiskA) (l':List SegA) (pool:List BatM) (n:Nat),q=((n:Int),())∧FilE s D' l' R.bs pool n C∧SegsOk 0 R.l∧R.SR.length≤1000∧Sat w' (lgP lg ⟨d,qP,s,g,l'⟩::dk d D'::rfP a6 R::batsP pool::r)) ?_ ?_
  rotate_left
  ·clear hs
   rintro _ w ⟨R,D',l',pool,n,rfl,hE,hsegs,hsr,hs⟩
   refine wp_on ?_
   have hok:okR R (batsP pool::r):=okR_in hsegs (by omega) (by have:=hE.num;omega) hE.in1
   refine wp_call (rall_c (a:=a6) (R:=R) hs) fun _ w' hs=>?_
   obtain ⟨y,rfl,hs⟩:=hs
   refine ret_of ?_
   refine wp_lt ?_
   have hs:Sat w' (slc T.api_Batch 7 y (R.bs.flatMap encB7)::rfP a6 R::lgP lg ⟨d,qP,s,g,l'⟩::dk d D'::batsP pool::r):=hs
   exact ⟨rfl,lg,y,R.bs,n,D',l',pool,rfl,hE,hs.sub⟩
  have hs:Sat w' (lgP lg ⟨d,qP,s,g,[]⟩::dk d D::rfP a6 ⟨4194304,1,[]⟩::batsP []::r):=by
   have h1:Sat w' (lgP lg ⟨d,qP,s,g,[]⟩::dk d D::rfP a6 ⟨4194304,1,[]⟩::r):=hs.sub
   exact (bats_nil h1).pick [1,1,1]
  have hI:FilI s 0 D [] ⟨4194304,1,[]⟩ [] 0 C:=⟨hD,⟨Nat.le_refl _,fun l0 t e=>by simp at e⟩,rfl,trivial,Nat.le_refl _,Nat.le_refl _,rfl,rfl,rfl,hroom,by omega,by omega,(fun b hb=>by cases hb),hC⟩
  refine wp_loop (fun m v w=>∃ (i n:Nat) (D':DiskA) (l':List SegA) (R:RefM) (pool:List BatM),v=((n:Int),((i:Int),()))∧i≤bs.length∧i≤20∧bs.length-i=m∧FilI s i D' l' R pool n C∧Sat w (lgP lg ⟨d,qP,s,g,l'⟩::dk d D'::rfP a6 R::batsP pool::r)) bs.length ⟨0,0,_,_,_,_,rfl,by omega,by omega,rfl,hI,hs⟩ ?_
  clear hs hI hD hroom hused hlen0 hC hgone
  rintro m _ w ⟨i,n,D,l',R,pool,rfl,hi,hi20,hm,hI,hs⟩
  have hstop:Sat w (lgP lg ⟨d,qP,s,g,l'⟩::dk d D::rfP a6 R::batsP pool::r)→∃ (R:RefM) (D':DiskA) (l':List SegA) (pool:List BatM) (n':Nat),(((n:Int),()):Int × Unit)=((n':Int),())∧FilE s D' l' R.bs pool n' C∧SegsOk 0 R.l∧R.SR.length≤1000∧Sat w (lgP lg ⟨d,qP,s,g,l'⟩::dk d D'::rfP a6 R::batsP pool::r):=fun hs=>⟨R,D,l',pool,n,rfl,hI.done hi20,hI.segs,by have:=hI.srl;omega,hs⟩
  refine wp_on ?_
  refine wp_if (fun hc=>?_) fun hc=>?_
  rotate_left
  ·exact wp_pass (wp_lv (hstop hs))
  have hil:i<bs.length:=by omega
  have hRb:=hbs _ (List.getElem_mem hil)
  have hok:okR R (batsP pool::r):=okR_in hI.segs (by have:=hI.srl;omega) (by have:=hI.brl;omega) hI.in1
  refine wp_ixA hs (xs:=bs) (enc:=encB7) i hil ?_
  refine wp_newO hs fun a18 w' hs=>?_
  refine wp_lt ?_
  refine wp_stG hs fun w' hs=>?_
  refine wp_if (fun h20=>?_) fun h20=>?_
  ·have hs:Sat w' (lgP lg ⟨d,qP,s,g,l'⟩::dk d D::rfP a6 R::batsP pool::r):=hs.tail
   exact wp_pass (wp_lv ⟨R,D,l',pool,n,rfl,hI.done hi20,hI.segs,by have:=hI.srl;omega,hs⟩)
  refine wp_ldG hs ?_
  refine wp_call (small_c bs[i] hs) fun _ w' hs=>?_
  obtain ⟨z1,rfl,hs⟩:=hs
  refine ⟨(bs[i].base,bs[i].pid,bs[i].epoch,bs[i].seq,bs[i].kind,bs[i].time,z1,()),rfl,trivial,wp_u7 _ _ _ _ _ _ _ ?_⟩
  refine wp_newO hs fun a34 w' hs=>?_
  refine wp_stG hs fun w' hs=>?_
  have hs:Sat w' (pt a34 (.cells (cZ bs[i] z1) T.api_Batch)::slc T.api_Record 4 z1 ((smallB bs[i]).rs.flatMap encR)::lgP lg ⟨d,qP,s,g,l'⟩::dk d D::rfP a6 R::batsP pool::r):=hs.sub
  have hfr:=hI.free (by omega)
  have hlen:=hI.len
  generalize hb0:bs[i]=b0 at *
  refine wp_mid (fun q w'=>q=((placeL (nextL R.l) [(smallB b0).at z1]).1,())∧Sat w' (pt a34 (.cells (cZ b0 z1) T.api_Batch)::slc T.api_Record 4 z1 ((smallB b0).rs.flatMap encR)::lgP lg ⟨d,qP,s,g,l'⟩::dk d D::rfP a6 R::batsP pool::r)) ?_ ?_
  ·refine wp_tk hs fun w' hs=>?_
   obtain ⟨zR,hs⟩:=rf_open (hs.pick [4])
   have hfin:∀ {w:World},Sat w (pt a6 (.cells #[.int .i64 R.seg,.int .i64 R.gap,.slice zR.a zR.len zR.cap] T.towpathref06_Log)::slc T.towpathref06_Segment 3 zR (R.SR.flatMap encSR)::HP.all (R.SR.map rsgP)::pt a34 (.cells (cZ b0 z1) T.api_Batch)::slc T.api_Record 4 z1 ((smallB b0).rs.flatMap encR)::lgP lg ⟨d,qP,s,g,l'⟩::dk d D::batsP pool::r)→Sat w (pt a34 (.cells (cZ b0 z1) T.api_Batch)::slc T.api_Record 4 z1 ((smallB b0).rs.flatMap encR)::lgP lg ⟨d,qP,s,g,l'⟩::dk d D::rfP a6 R::batsP pool::r):=fun hs=>by
    have h1:=rf_close R hs
    exact h1.sub
   refine wp_hdO hs ?_
   refine wp_hdG hs ?_
   refine wp_both ?_ ?_
   ·refine wp_boxO hs fun a43 w' hs=>?_
    refine wp_litS hs (enc:=encB7) [(smallB b0).at z1] fun y1 w' hs=>⟨(by first|trivial|(repeat (first|exact trivial|exact fun _=>run_ldO hs|exact fun _=>run_ldG hs|refine And.intro ?_ ?_))),?_⟩
    refine wp_untick ?_
    have hbF:∀ c ∈ [(smallB b0).at z1],FocR (slc T.api_Batch 7 y1 ([(smallB b0).at z1].flatMap encB7)::pt a43 (.cells #[.int .i64 0,.int .i64 0,.slice zR.a zR.len zR.cap] T.towpathref06_Log)::pt a6 (.cells #[.int .i64 R.seg,.int .i64 R.gap,.slice zR.a zR.len zR.cap] T.towpathref06_Log)::slc T.towpathref06_Segment 3 zR (R.SR.flatMap encSR)::HP.all (R.SR.map rsgP)::pt a34 (.cells (cZ b0 z1) T.api_Batch)::slc T.api_Record 4 z1 ((smallB b0).rs.flatMap encR)::lgP lg ⟨d,qP,s,g,l'⟩::dk d D::batsP pool::r) c.x 4 (c.rs.flatMap encR):=fun c hc=>by
     rw [List.mem_singleton.1 hc]
     show FocR _ z1 4 ((smallB b0).rs.flatMap encR)
     infer_instance
    refine wp_call (rplacedV_c (R:=R) (z:=zR) (a:=a43) (g1:=0) (g2:=0) y1 [(smallB b0).at z1] inferInstance (fun s hs=>rsg_rd hs) (by show 1≤100000;omega) inferInstance hbF hs) fun _ w' hs=>?_
    rcases hs with ⟨he,rfl,hs⟩|⟨he,y3,rfl,hs⟩
    ·refine ret_of ?_
     refine wp_lt ?_
     refine wp_untick ?_
     exact wp_lv ⟨rfl,hfin hs.sub⟩
    ·refine ⟨(y3,0,()),rfl,trivial,wp_u2 _ _ ?_⟩
     refine wp_lt ?_
     refine wp_untick ?_
     exact wp_lv ⟨by rw [he],hfin hs.sub⟩
   ·refine wp_litS hs (enc:=encB7) [(smallB b0).at z1] fun y1 w' hs=>⟨(by first|trivial|(repeat (first|exact trivial|exact fun _=>run_ldO hs|exact fun _=>run_ldG hs|refine And.intro ?_ ?_))),?_⟩
    refine wp_boxO hs fun a43 w' hs=>?_
    refine wp_untick ?_
    have hbF:∀ c ∈ [(smallB b0).at z1],FocR (pt a43 (.cells #[.int .i64 0,.int .i64 0,.slice zR.a zR.len zR.cap] T.towpathref06_Log)::slc T.api_Batch 7 y1 ([(smallB b0).at z1].flatMap encB7)::pt a6 (.cells #[.int .i64 R.seg,.int .i64 R.gap,.slice zR.a zR.len zR.cap] T.towpathref06_Log)::slc T.towpathref06_Segment 3 zR (R.SR.flatMap encSR)::HP.all (R.SR.map rsgP)::pt a34 (.cells (cZ b0 z1) T.api_Batch)::slc T.api_Record 4 z1 ((smallB b0).rs.flatMap encR)::lgP lg ⟨d,qP,s,g,l'⟩::dk d D::batsP pool::r) c.x 4 (c.rs.flatMap encR):=fun c hc=>by
     rw [List.mem_singleton.1 hc]
     show FocR _ z1 4 ((smallB b0).rs.flatMap encR)
     infer_instance
    refine wp_call (rplacedV_c (R:=R) (z:=zR) (a:=a43) (g1:=0) (g2:=0) y1 [(smallB b0).at z1] inferInstance (fun s hs=>rsg_rd hs) (by show 1≤100000;omega) inferInstance hbF hs) fun _ w' hs=>?_
    rcases hs with ⟨he,rfl,hs⟩|⟨he,y3,rfl,hs⟩
    ·refine ret_of ?_
     refine wp_lt ?_
     refine wp_untick ?_
     exact wp_lv ⟨rfl,hfin hs.sub⟩
    ·refine ⟨(y3,0,()),rfl,trivial,wp_u2 _ _ ?_⟩
     refine wp_lt ?_
     refine wp_untick ?_
     exact wp_lv ⟨by rw [he],hfin hs.sub⟩
  clear hs
  rintro _ w ⟨rfl,hs⟩
  refine wp_on ?_
  refine wp_ldG hs ?_
  refine wp_slit1 hs (enc:=encB7) ((smallB b0).at z1) fun y1 w' hs=>?_
  obtain ⟨k1,k2,k3⟩:=hI.cpl.len
  refine wp_call (lappend_c (lg:=lg) (A:=⟨d,qP,s,g,l'⟩) (D:=D) y1 [(smallB b0).at z1] (by show l'.length≤_;omega) hI.cpl.segs (fun t ht=>by have:=k3 t ht;omega) (by show 1≤900;omega) inferInstance (fun c hc=>by rw [List.mem_singleton.1 hc];show FocR _ z1 4 ((smallB b0).rs.flatMap encR);infer_instance) hs) fun _ w' hs=>?_
  obtain ⟨rfl,hs⟩:=hs
  have hs:Sat w' (lgP lg ⟨d,qP,s,g,(lappA qP s l' D [(smallB b0).at z1]).2.1⟩::dk d (lappA qP s l' D [(smallB b0).at z1]).2.2::slc T.api_Batch 7 y1 ([(smallB b0).at z1].flatMap encB7)::pt a34 (.cells (cZ b0 z1) T.api_Batch)::slc T.api_Record 4 z1 ((smallB b0).rs.flatMap encR)::rfP a6 R::batsP pool::r):=hs
  refine ⟨((lappA qP s l' D [(smallB b0).at z1]).1.1,(lappA qP s l' D [(smallB b0).at z1]).1.2,()),rfl,trivial,wp_u2 _ _ ?_⟩
  refine wp_lt ?_
  refine wp_lt ?_
  have hpc:=place_cases [(smallB b0).at z1] (nextL l')
  rcases lapp_gen s [(smallB b0).at z1] qP_ok hI.cpl with ⟨e1,e2⟩|⟨-,-,-,-,e5⟩|⟨e1,e2,e3,e4,e5⟩
  ·have e9:(lappA qP s l' D [(smallB b0).at z1]).1.2=(placeL (nextL l') [(smallB b0).at z1]).1:=by rw [e1];exact rapp_fst (by simp)
   rw [e9]
   refine wp_ifF ?_ (by omega)
   refine wp_ifF ?_ (by rw [hI.next];simp)
   refine wp_ldG hs ?_
   refine wp_slit1 hs (enc:=encB7) ((smallB b0).at z1) fun y2 w' hs=>?_
   refine wp_call (rappend_c (a:=a6) (R:=R) y2 [(smallB b0).at z1] (by have:=hI.srl;omega) (by have:=hI.brl;omega) (by rw [hI.rseg];omega) (by show 1≤900;omega) inferInstance (fun c hc=>by rw [List.mem_singleton.1 hc];show FocR _ z1 4 ((smallB b0).rs.flatMap encR);infer_instance) hs) fun _ w' hs=>?_
   obtain ⟨rfl,R',q1,q2,q3,q4,q5,q6,-,hs⟩:=hs
   refine ⟨((rappA R.seg R.l [(smallB b0).at z1]).1.1,(rappA R.seg R.l [(smallB b0).at z1]).1.2,()),rfl,trivial,wp_u2 _ _ ?_⟩
   have q6':∀ b ∈ R'.bs,b ∈ R.bs∨(b.x=z1∧b.rs=(smallB b0).rs):=fun b hb=>by
    rcases q6 b hb with h|⟨c,hc,h1,h2⟩
    ·exact .inl h
    ·rw [List.mem_singleton.1 hc] at h1 h2
     exact .inr ⟨h1,h2⟩
   have hI2:=hI.step (z:=z1) (z':=z1) (by omega) e1 e2 q1 q3 q4 q5 q6'
   generalize (lappA qP s l' D [(smallB b0).at z1]).2.2=D2 at hI2 hs
   generalize (lappA qP s l' D [(smallB b0).at z1]).2.1=l2 at hI2 hs
   have hs:Sat w' (slc T.api_Record 4 z1 ((smallB b0).rs.flatMap encR)::batsP pool::lgP lg ⟨d,qP,s,g,l2⟩::dk d D2::rfP a6 R'::r):=hs.sub
   have hs:=bats_put2 hs
   have hs:Sat w' (lgP lg ⟨d,qP,s,g,l2⟩::dk d D2::rfP a6 R'::batsP (pool++[(smallB b0).at z1])::r):=hs.sub
   refine wp_mid (fun q w'=>∃ (q0:Bool) (D3:DiskA) (n3:Nat),q=(q0,())∧((q0=false∧n3=n)∨(q0=true∧n3=R'.bs.length))∧FilI s (i+1) D3 l2 R' (pool++[(smallB b0).at z1]) n3 C∧Sat w' (lgP lg ⟨d,qP,s,g,l2⟩::dk d D3::rfP a6 R'::batsP (pool++[(smallB b0).at z1])::r)) ?_ ?_
   ·refine wp_ix1g hs (xs:=ss) (enc:=encBo) (ss[i]?.getD false) (fun hg=>?_) ?_
    ·have hg:(i:Int)<((sy.len:Nat):Int):=by simpa using hg
     have hil2:i<ss.length:=by omega
     exact ⟨i,hil2,rfl,by rw [List.getElem?_eq_getElem hil2];rfl⟩
    refine wp_if (fun hsync=>?_) fun hsync=>?_
    rotate_left
    ·exact wp_lv ⟨false,D2,n,rfl,.inl ⟨rfl,rfl⟩,hI2,hs⟩
    obtain ⟨k1,-,-⟩:=hI2.cpl.len
    refine wp_call (lsyncP_c (lg:=lg) (A:=⟨d,qP,s,g,l2⟩) (D:=D2) (by show l2.length≤_;omega) hI2.cpl.segs hs) fun _ w' hs=>?_
    obtain ⟨rfl,hs⟩:=hs
    have hs:Sat w' (lgP lg ⟨d,qP,s,g,l2⟩::dk d (lsyncA qP l2 D2).2::rfP a6 R'::batsP (pool++[(smallB b0).at z1])::r):=hs
    refine ret_of ?_
    obtain ⟨y1',y2',y3',y4',-⟩:=lsync_all hI2.cpl
    obtain ⟨u1',u2'⟩:=hI2.syn.sync hI2.cpl
    have hst:=lsync_stp hI2.cpl
    have hbase:∀ n3,SynP qP l2 (lsyncA qP l2 D2).2 n3→FilI s (i+1) (lsyncA qP l2 D2).2 l2 R' (pool++[(smallB b0).at z1]) n3 C:=fun n3 hn3=>⟨y1',hn3,hI2.rseg,hI2.segs,hI2.srl,hI2.brl,hI2.all,hI2.next,hI2.rep,y2'.room.trans hI2.room,by have:=hI2.used;omega,by have:=hI2.len;omega,hI2.in1,fun c=>hst.2.2.2.2 (hI2.calm c)⟩
    by_cases h0:(lsyncA qP l2 D2).1=0
    ·refine wp_lv ⟨true,(lsyncA qP l2 D2).2,R'.bs.length,by rw [h0];rfl,.inr ⟨rfl,rfl⟩,hbase _ ?_,hs⟩
     have:=congrArg List.length hI2.all
     rw [List.length_map] at this
     rw [this]
     exact (u2' h0).1
    ·refine wp_lv ⟨false,(lsyncA qP l2 D2).2,n,?_,.inl ⟨rfl,rfl⟩,hbase _ u1',hs⟩
     refine Prod.ext ?_ rfl
     show ((lsyncA qP l2 D2).1 == 0)=false
     simpa using h0
   clear hs
   rintro _ w ⟨q,D3,n3,rfl,hq,hI3,hs⟩
   refine wp_on ?_
   have hok3:okR R' (batsP (pool++[(smallB b0).at z1])::r):=okR_in hI3.segs (by have:=hI3.srl;omega) (by have:=hI3.brl;omega) hI3.in1
   refine wp_mid (fun q w'=>q=((n3:Int),())∧Sat w' (lgP lg ⟨d,qP,s,g,l2⟩::dk d D3::rfP a6 R'::batsP (pool++[(smallB b0).at z1])::r)) ?_ ?_
   ·rcases hq with ⟨hq,rfl⟩|⟨hq,rfl⟩
    ·subst hq
     refine wp_ifF ?_ (by simp)
     exact wp_lv ⟨rfl,hs⟩
    ·subst hq
     refine wp_ifT ?_ (by simp)
     refine wp_call (rall_c (a:=a6) (R:=R') hs) fun _ w' hs=>?_
     obtain ⟨y,rfl,hs⟩:=hs
     refine ret_of ?_
     have hly:=hs.slen y (xs:=R'.bs) (enc:=encB7)
     refine wp_lt ?_
     have hs:Sat w' (slc T.api_Batch 7 y (R'.bs.flatMap encB7)::rfP a6 R'::lgP lg ⟨d,qP,s,g,l2⟩::dk d D3::batsP (pool++[(smallB b0).at z1])::r):=hs
     exact wp_lv ⟨by rw [hly],hs.sub⟩
   clear hs hq
   rintro _ w ⟨rfl,hs⟩
   refine wp_on ?_
   rw [show IntKind.wrap .i64 ((i:Int)+1)=((i+1:Nat):Int) by rw [w64 (by omega) (by omega)];omega]
   exact wp_lp (bs.length-(i+1)) ⟨i+1,n3,D3,l2,R',_,rfl,by omega,by omega,rfl,hI3,hs⟩
  ·exfalso
   have:=place_small b0 z1 (nextL l')
   have:=shL_len (nextL l') 0
   omega
  ·rw [e1]
   refine wp_ifT ?_ (by simp)
   refine wp_ldG hs ?_
   refine wp_slit1 hs (enc:=encB7) ((smallB b0).at z1) fun y2 w' hs=>?_
   refine wp_call (rappend_c (a:=a6) (R:=R) y2 [(smallB b0).at z1] (by have:=hI.srl;omega) (by have:=hI.brl;omega) (by rw [hI.rseg];omega) (by show 1≤900;omega) inferInstance (fun c hc=>by rw [List.mem_singleton.1 hc];show FocR _ z1 4 ((smallB b0).rs.flatMap encR);infer_instance) hs) fun _ w' hs=>?_
   obtain ⟨rfl,R',q1,q2,q3,q4,q5,q6,q7,hs⟩:=hs
   refine ⟨((rappA R.seg R.l [(smallB b0).at z1]).1.1,(rappA R.seg R.l [(smallB b0).at z1]).1.2,()),rfl,trivial,wp_u2 _ _ ?_⟩
   have q6':∀ b ∈ R'.bs,b ∈ R.bs∨(b.x=z1∧b.rs=(smallB b0).rs):=fun b hb=>by
    rcases q6 b hb with h|⟨c,hc,h1,h2⟩
    ·exact .inl h
    ·rw [List.mem_singleton.1 hc] at h1 h2
     exact .inr ⟨h1,h2⟩
   have hE:=hI.fail (z:=z1) (z':=z1) (by omega) e2 e5 q3 q5 q6'
   rw [e2] at hs
   generalize (lappA qP s l' D [(smallB b0).at z1]).2.2=D2 at hE hs
   have hs:Sat w' (slc T.api_Record 4 z1 ((smallB b0).rs.flatMap encR)::batsP pool::lgP lg ⟨d,qP,s,g,l'⟩::dk d D2::rfP a6 R'::r):=hs.sub
   have hs:=bats_put2 hs
   exact wp_pass (wp_lv ⟨R',D2,l',_,n,rfl,hE,q7.segs,by have:=hI.srl;omega,hs.sub⟩)
end
set_option linter.unusedVariables false
set_option linter.unusedSimpArgs false
instance:EncF encR 3 (.int .i64) (fun r=>r.time):=⟨fun _=>rfl⟩
theorem lateG_ex {bs:List BatM} {x t:Int} (h:lateG x bs≥t) (hx:x<t):∃ b ∈ bs,lateB b≥t:=by
 apply Classical.byContradiction
 intro hn
 have:lateG x bs≤t-1:=lateG_max (by omega) fun b hb=>by
  have:¬ lateB b≥t:=fun h=>hn ⟨b,hb,h⟩
  omega
 omega
theorem timeG_start {r:RecM} {rs:List RecM} (h:0≤r.time):timeG r.time (r::rs)=timeG (-1) (r::rs):=by
 unfold timeG
 rw [List.foldl_cons,List.foldl_cons]
 congr 1
 omega
theorem after_neg {gap time:Int} (ht:time<0):∀ {n:Int} {l:List SegA},0≤n→SegsOk n l→(∀ s ∈ l,s.file.length≤4194304)→(afterA gap time l).2=false
 | _,[],_,_,_=>rfl
 | n,s::l,hn,⟨h1,h2,h3⟩,hf=>by
  unfold afterA
  split
  ·simp only
   have hidx:IdxOk gap (shL s.base s.fin).length s.bs (s.idx gap):=idx_ok gap s.bs.length rfl h2.base.1 (by omega) h2.bs (by have:=file_len s;have:=hf s (List.mem_cons_self ..);omega)
   have:(s.idx gap).l.filter (fun e=>decide (e.before<time))=[]:=by
    rw [List.filter_eq_nil_iff]
    intro e he
    obtain ⟨i,hi,rfl⟩:=hidx.ent e he
    have:=(lateG_le (x := -1) (bs:=s.bs.take i)).1
    simp only [decide_eq_true_eq]
    omega
   unfold afterE
   rw [this]
   rfl
  ·exact after_neg ht (by have:=h2.base;have:=(reach_le h2).1;omega) h3 fun t ht=>hf t (List.mem_cons_of_mem _ ht)
theorem after_spec {gap time:Int} (ht:0≤time):∀ {n:Int} {l:List SegA},0≤n→SegsOk n l→(∀ s ∈ l,s.file.length≤4194304) →
  (∀ b ∈ allB l,lateB b≥time→(afterA gap time l).2=true∧(afterA gap time l).1≤b.base)∧((afterA gap time l).2=true→∃ b ∈ allB l,lateB b≥time)
 | _,[],_,_,_=>⟨fun b hb=>by simp [allB] at hb,fun h=>by cases h⟩
 | n,s::l,hn,⟨h1,h2,h3⟩,hf=>by
  have e1:allB (s::l)=s.bs++allB l:=by simp [allB]
  have hrl:=reach_le h2
  have ih:=after_spec (gap:=gap) ht (by have:=h2.base;omega) h3 fun t ht=>hf t (List.mem_cons_of_mem _ ht)
  rw [e1]
  unfold afterA
  split
  ·rename_i hc
   have hidx:IdxOk gap (shL s.base s.fin).length s.bs (s.idx gap):=idx_ok gap s.bs.length rfl h2.base.1 (by omega) h2.bs (by have:=file_len s;have:=hf s (List.mem_cons_self ..);omega)
   simp only
   obtain ⟨b1,hb1,hl1⟩:=lateG_ex hc.2 (by omega)
   have hne:s.bs≠[]:=List.ne_nil_of_mem hb1
   obtain ⟨c,cs,hcs⟩:=List.exists_cons_of_ne_nil hne
   have hf0:=hidx.first c (by rw [hcs];rfl)
   have hex:∃ e,afterE (s.idx gap).l time=some e:=by
    unfold afterE
    cases hq:((s.idx gap).l.filter fun e=>decide (e.before<time)).getLast? with
    | some e=>exact ⟨e,rfl⟩
    | none =>
     exfalso
     have h4:=List.getLast?_eq_none_iff.1 hq
     rw [List.filter_eq_nil_iff] at h4
     have h5:=h4 _ (List.mem_of_head? hf0)
     simp only [decide_eq_true_eq] at h5
     omega
   obtain ⟨e,he⟩:=hex
   rw [he]
   refine ⟨fun b hb hl=>⟨rfl,?_⟩,fun _=>⟨b1,List.mem_append_left _ hb1,hl1⟩⟩
   show e.offset≤b.base
   obtain ⟨a,c2,hac,hp,-⟩:=last_filter he
   have hem:e ∈ (s.idx gap).l:=by rw [hac];simp
   obtain ⟨i,hi,rfl⟩:=hidx.ent e hem
   simp only [decide_eq_true_eq] at hp
   show s.bs[i].base≤b.base
   rcases List.mem_append.1 hb with hb|hb
   ·obtain ⟨j,hj,rfl⟩:=List.mem_iff_getElem.1 hb
    by_cases hij:j<i
    ·have h6:s.bs[j] ∈ s.bs.take i:=List.mem_iff_getElem.2 ⟨j,by rw [List.length_take];omega,by rw [List.getElem_take]⟩
     have:=lateG_le (x := -1) (bs:=s.bs.take i) |>.2 _ h6
     omega
    ·by_cases hji:j=i
     ·subst hji;exact Int.le_refl _
     ·have h7:=h2.bs.lt i j hj (by omega)
      obtain ⟨s1,-,-,-,-⟩:=span_le _ (h2.bs.valid _ (List.getElem_mem hi)).1
      omega
   ·obtain ⟨t,ht2,hbt⟩:=List.mem_flatMap.1 hb
    have h8:=h3.mem t ht2
    have h9:=bs_base h8.1.bs b hbt
    have h10:=h2.bs.le_next (List.getElem_mem hi)
    obtain ⟨s1,-,-,-,-⟩:=span_le _ (h2.bs.valid _ (List.getElem_mem hi)).1
    omega
  ·rename_i hc
   have hsmall:∀ b ∈ s.bs,lateB b<time:=fun b hb=>by
    apply Classical.byContradiction
    intro h4
    apply hc
    have h5:=lateG_le (x := -1) (bs:=s.bs) |>.2 b hb
    have h6:=hrl.2.2.2.2 (List.ne_nil_of_mem hb)
    have:=h2.base
    exact ⟨by omega,by omega⟩
   refine ⟨fun b hb hl=>?_,fun h=>?_⟩
   ·rcases List.mem_append.1 hb with hb|hb
    ·have:=hsmall b hb;omega
    ·exact ih.1 b hb hl
   ·obtain ⟨b,hb,hl⟩:=ih.2 h
    exact ⟨b,List.mem_append_right _ hb,hl⟩
section
variable {w:World} {l r:List HP}
theorem rlatest_c (b:BatM) (hv:validB b=0) [hb:FocR l b.x 4 (b.rs.flatMap encR)] (hs:Sat w l):Ret P F.towpathref06_Latest #[.agg (encB7 b).toArray] w fun vs w'=>vs=[.int .i64 (lateB b)]∧Sat w' l :=
 towpathref06_Latest_calls b.base b.pid b.epoch b.seq b.kind b.time b.x <| by
  unfold towpathref06_Latest
  obtain ⟨h64,hrs⟩:=valid_recs hv
  have hl:=hs.slen b.x (xs:=b.rs) (enc:=encR)
  refine wp_boxO hs fun a0 w' hs=>?_
  refine wp_ldO hs ?_
  refine wp_if (fun h=>?_) fun h=>?_
  ·have h0:b.rs=[]:=List.length_eq_zero_iff.1 (by omega)
   refine wp_ldO hs ?_
   refine wp_lt ?_
   refine ⟨rfl,?_,hs.tail⟩
   unfold lateB
   rw [if_pos h0]
  have h0:b.rs≠[]:=by intro h0;rw [h0] at hl;simp at hl;omega
  have hp:0<b.rs.length:=List.length_pos_iff.2 h0
  refine wp_ldO hs ?_
  refine wp_ixF0 hs (xs:=b.rs) (enc:=encR) 0 hp ?_
  refine wp_lt ?_
  refine wp_ldO hs ?_
  have ht0:0≤(b.rs[0]'hp).time:=by have:=(recF_zero (hrs _ (List.getElem_mem hp))).2.2;omega
  have hst:timeG (b.rs[0]'hp).time b.rs=timeG (-1) b.rs:=by
   obtain ⟨c,cs,hcs⟩:=List.exists_cons_of_ne_nil h0
   have e:b.rs[0]=c:=by simp [hcs]
   rw [e] at ht0 ⊢
   rw [hcs]
   exact timeG_start ht0
  refine wp_mid (fun q w'=>q=(lateB b,())∧Sat w' l) ?_ ?_
  rotate_left
  ·rintro _ w2 ⟨rfl,hs⟩
   refine wp_lt ?_
   exact ⟨rfl,rfl,hs⟩
  have hs:Sat w' l:=hs.tail
  refine wp_loop (fun m v w=>∃ i:Nat,v=(timeG (b.rs[0]'hp).time (b.rs.take i),((i:Int),()))∧i≤b.rs.length∧b.rs.length-i=m∧Sat w l) b.rs.length ⟨0,rfl,by omega,rfl,hs⟩ ?_
  clear hs
  rintro m _ w ⟨i,rfl,hi,hm,hs⟩
  refine wp_on ?_
  refine wp_if (fun hc=>?_) fun hc=>?_
  rotate_left
  ·refine wp_pass (wp_lv ⟨?_,hs⟩)
   rw [List.take_of_length_le (by omega),hst]
   unfold lateB
   rw [if_neg h0]
  have hil:i<b.rs.length:=by omega
  have hx:timeG (b.rs[0]'hp).time (b.rs.take (i+1))=max (timeG (b.rs[0]'hp).time (b.rs.take i)) b.rs[i].time:=by
   rw [List.take_succ_eq_append_getElem hil]
   unfold timeG
   rw [List.foldl_append]
   rfl
  refine wp_ixA hs (xs:=b.rs) (enc:=encR) i hil ?_
  refine wp_newO hs fun a18 w' hs=>?_
  refine wp_stG hs fun w' hs=>?_
  refine wp_ldO hs ?_
  rw [show IntKind.wrap .i64 ((i:Int)+1)=((i+1:Nat):Int) by rw [w64 (by omega) (by omega)];omega]
  generalize timeG (b.rs[0]'hp).time (b.rs.take i)=t0 at hx ⊢
  refine wp_mid (fun q w'=>q=(max t0 b.rs[i].time,())∧Sat w' l) ?_ ?_
  ·refine wp_if (fun h=>?_) fun h=>?_
   ·refine wp_ldO hs ?_
    refine wp_lt ?_
    refine wp_lv ⟨?_,hs.tail⟩
    rw [Int.max_def,if_pos (by omega)]
   ·refine wp_lv ⟨?_,hs.tail⟩
    have e:max t0 b.rs[i].time=t0:=by omega
    rw [e]
  clear hs
  rintro _ w ⟨rfl,hs⟩
  refine wp_on ?_
  exact wp_lp (b.rs.length-(i+1)) ⟨i+1,by rw [hx],by omega,rfl,hs⟩
theorem times6_law (seg gap:Int) (x:Sl) (bs:List BatM) (time:Int) (hx:FocR l x 7 (bs.flatMap encB7)) (hbs:∀ b ∈ bs,FocR l b.x 4 (b.rs.flatMap encR)) (hs:Sat w l) :
  Ret P F.towpathlaw06_SeglogTimes #[.int .i64 seg,.int .i64 gap,x.v,.int .i64 time] w fun vs w'=>vs=[.bool true]∧Sat w' l :=
 towpathlaw06_SeglogTimes_calls seg gap x time <| by
  unfold towpathlaw06_SeglogTimes
  refine wp_call (config_c seg gap hs) fun _ w' hs=>?_
  obtain ⟨s,g,hsr,hgr,rfl,hs⟩:=hs
  refine ⟨(s,g,()),rfl,trivial,wp_u2 _ _ ?_⟩
  have hcfg:okCfg s g:=⟨by omega,by omega⟩
  refine wp_newO hs fun a2 w' hs=>?_
  refine wp_stG hs fun w' hs=>?_
  refine wp_call (new_ok 1048576 (by omega) hs) fun _ w' hs=>?_
  obtain ⟨d,rfl,hs⟩:=hs
  refine ⟨(some ⟨d,0,none⟩,0,()),rfl,trivial,wp_u2 _ _ ?_⟩
  refine wp_lt ?_
  refine wp_ldG hs ?_
  refine wp_call (filled_c d x ⟨none,0,0⟩ bs [] s g True (D:=⟨1048576,-1,false,[]⟩) rfl (cpl_empty _ _ (by omega)) rfl rfl rfl (fun _=>⟨rfl,rfl⟩) hcfg inferInstance (fun b hb=>by have:=hbs b hb;infer_instance) (FocR.nil' 1) hs) fun _ w' hs=>?_
  obtain ⟨lg,y,outs,n,D,l',pool,rfl,hE,hs⟩:=hs
  refine ⟨(some ⟨lg,0,none⟩,y,(n:Int),()),rfl,trivial,wp_u3 _ _ _ ?_⟩
  obtain ⟨k1,k2,k3⟩:=hE.cpl.len
  obtain ⟨-,hall⟩:=hE.calm trivial
  refine wp_lt ?_
  refine wp_ifF ?_ (by simp)
  refine wp_call (lafter_c (lg:=lg) (A:=⟨d,qP,s,g,l'⟩) time hE.cpl.segs k3 (by show l'.length≤_;omega) hs) fun _ w' hs=>?_
  obtain ⟨rfl,hs⟩:=hs
  have hs:Sat w' (lgP lg ⟨d,qP,s,g,l'⟩::dk d D::slc T.api_Batch 7 y (outs.flatMap encB7)::batsP pool::pt a2 (.cells #[.int .i64 s,.int .i64 g] T.seglog_Config)::l):=hs
  refine ⟨((afterA g time l').1,(afterA g time l').2,()),rfl,trivial,wp_u2 _ _ ?_⟩
  refine wp_lt ?_
  refine wp_lt ?_
  refine wp_if (fun ht=>?_) fun ht=>?_
  ·have hneg:=after_neg (gap:=g) ht (Int.le_refl 0) hE.cpl.segs k3
   rw [hneg]
   refine wp_mid (fun q w'=>q=(true,())∧Sat w' l) ?_ ?_
   ·refine wp_ifT ?_ (by simp)
    have hs:Sat w' l:=hs.sub
    refine wp_call (awake6_c hs) fun _ _ hs=>?_
    obtain ⟨rfl,hs⟩:=hs
    refine ret_of ?_
    refine wp_lt ?_
    exact wp_lv ⟨rfl,hs⟩
   ·rintro _ w2 ⟨rfl,hs⟩
    exact ⟨rfl,rfl,hs⟩
  obtain ⟨sp1,sp2⟩:=after_spec (gap:=g) (by omega:0≤time) (Int.le_refl 0) hE.cpl.segs k3
  rw [← hall] at sp1 sp2
  generalize (afterA g time l').1=at_ at *
  generalize (afterA g time l').2=ok at *
  have sp1':∀ b ∈ outs,lateB b≥time→ok=true∧at_≤b.base:=fun b hb h=>sp1 b.p (List.mem_map.2 ⟨b,hb,rfl⟩) h
  have sp2':ok=true→∃ b ∈ outs,lateB b≥time:=fun h=>by
   obtain ⟨b,hb,h2⟩:=sp2 h
   obtain ⟨c,hc,rfl⟩:=List.mem_map.1 hb
   exact ⟨c,hc,h2⟩
  have hvo:∀ b ∈ outs,validB b=0:=fun b hb=>by
   have h1:b.p ∈ allB l':=by rw [← hall];exact List.mem_map.2 ⟨b,hb,rfl⟩
   obtain ⟨t,ht,hbt⟩:=List.mem_flatMap.1 h1
   exact ((hE.cpl.segs.mem t ht).1.bs.valid _ hbt).1
  have hrd:∀ b ∈ outs,FocR (batsP pool::pt a2 (.cells #[.int .i64 s,.int .i64 g] T.seglog_Config)::l) b.x 4 (b.rs.flatMap encR):=fun b hb=>by
   obtain ⟨c,hc,e1,e2⟩:=hE.in1 b hb
   rw [e1,e2]
   exact bats_rd hc
  have hly:=hs.slen y (xs:=outs) (enc:=encB7)
  have hnum:=hE.num
  refine wp_mid (fun q w'=>q=(outs.any (fun b=>decide (lateB b≥time)),())∧Sat w' l) ?_ ?_
  rotate_left
  ·rintro _ w2 ⟨rfl,hs⟩
   refine wp_on ?_
   have hok:ok=outs.any (fun b=>decide (lateB b≥time)):=by
    rw [Bool.eq_iff_iff,List.any_eq_true]
    constructor
    ·intro h
     obtain ⟨b,hb,h2⟩:=sp2' h
     exact ⟨b,hb,by simpa using h2⟩
    ·rintro ⟨b,hb,h2⟩
     exact (sp1' b hb (by simpa using h2)).1
   refine wp_mid (fun q w'=>q=(true,())∧Sat w' l) ?_ ?_
   ·refine wp_ifT ?_ hok
    refine wp_call (awake6_c hs) fun _ _ hs=>?_
    obtain ⟨rfl,hs⟩:=hs
    refine ret_of ?_
    refine wp_lt ?_
    exact wp_lv ⟨rfl,hs⟩
   ·rintro _ w3 ⟨rfl,hs⟩
    exact ⟨rfl,rfl,hs⟩
  refine wp_loop (fun m v w=>∃ i:Nat,v=((outs.take i).any (fun b=>decide (lateB b≥time)),((i:Int),()))∧i≤outs.length∧outs.length-i=m∧Sat w (slc T.api_Batch 7 y (outs.flatMap encB7)::batsP pool::pt a2 (.cells #[.int .i64 s,.int .i64 g] T.seglog_Config)::l)) outs.length ⟨0,rfl,by omega,rfl,hs.sub⟩ ?_
  clear hs
  rintro m _ w ⟨i,rfl,hi,hm,hs⟩
  refine wp_on ?_
  refine wp_if (fun hc=>?_) fun hc=>?_
  rotate_left
  ·refine wp_pass (wp_lv ⟨?_,hs.sub⟩)
   rw [List.take_of_length_le (by omega)]
  have hil:i<outs.length:=by omega
  have hR:=hrd _ (List.getElem_mem hil)
  have hv:=hvo _ (List.getElem_mem hil)
  have hsp:=sp1' _ (List.getElem_mem hil)
  refine wp_ixA hs (xs:=outs) (enc:=encB7) i hil ?_
  refine wp_newO hs fun a30 w' hs=>?_
  refine wp_stG hs fun w' hs=>?_
  refine wp_ldG hs ?_
  refine wp_call (rlatest_c outs[i] hv hs) fun _ w' hs=>?_
  obtain ⟨rfl,hs⟩:=hs
  refine ret_of ?_
  refine wp_lt ?_
  refine wp_lt ?_
  refine wp_ldO hs ?_
  refine wp_ifF ?_ ?_
  rotate_left
  ·rintro ⟨h1,h2⟩
   obtain ⟨h3,h4⟩:=hsp (by simpa using h1)
   rcases h2 with h2|h2
   ·exact h2 h3
   ·omega
  rw [show IntKind.wrap .i64 ((i:Int)+1)=((i+1:Nat):Int) by rw [w64 (by omega) (by omega)];omega]
  refine wp_lp (outs.length-(i+1)) ⟨i+1,?_,by omega,rfl,hs.tail⟩
  rw [List.take_succ_eq_append_getElem hil,List.any_append]
  refine Prod.ext ?_ rfl
  show (_ || _)=(_ || _)
  simp
end
open Go.ChangeShapes Go.WideShapes Go.RowKit Go.Deep
set_option linter.unusedVariables false
section
variable {H:Type} {enc:TypeId × Value→H} {P:Program} {w:World} {base:Nat} {spare:Nat→Bool} {held:Bool}
theorem trod_fields {t:TypeId} {fs:Array Field} {n C:Nat} {cs:List Value} {y:DataW H × List MemPlace} (ht:P.underlying t=some (.struct fs)) (hd:DataW.trod enc P w base spare held n t cs=some y) (hC:P.cellsOf t=C) :
  cs.length=C∧∃ n',∀ (j:Nat) (f:Field),fs[j]? = some f→∃ y,DataW.trod enc P w base spare held n' f.type ((cs.drop f.offset).take (P.cellsOf f.type))=some y:=by
 obtain ⟨ys,n',hn',hy,hlen,hyl,hf⟩:=DataW.trod_struct ht hd
 refine ⟨by rw [hlen,hC],n',fun j f hj=>?_⟩
 have hjl:j<fs.size:=(Array.getElem?_eq_some_iff.1 hj).1
 have h1:=hf j f hj
 rw [List.getElem?_eq_getElem (by omega)] at h1
 exact ⟨_,h1⟩
theorem read_rec {t:TypeId} {f0 f1 f2 f3:Field} {n:Nat} {cs:List Value} {y:DataW H × List MemPlace} (ht:P.underlying t=some (.struct #[f0,f1,f2,f3])) (hC:P.cellsOf t=4) (k0:P.underlying f0.type=some .string) (k1:P.underlying f1.type=some .string) (k2:P.underlying f2.type=some .bool) (k3:P.underlying f3.type=some (.int .i64))
  (o0:f0.offset=0) (o1:f1.offset=1) (o2:f2.offset=2) (o3:f3.offset=3) (c0:P.cellsOf f0.type=1) (c1:P.cellsOf f1.type=1) (c2:P.cellsOf f2.type=1) (c3:P.cellsOf f3.type=1)
  (hd:DataW.trod enc P w base spare held n t cs=some y):∃ r:RecM,cs=encR r∧True:=by
 obtain ⟨hl,n',hf⟩:=trod_fields ht hd hC
 match cs,hl with
 | [v0,v1,v2,v3],_ =>
  obtain ⟨y0,h0⟩:=hf 0 f0 rfl
  obtain ⟨y1,h1⟩:=hf 1 f1 rfl
  obtain ⟨y2,h2⟩:=hf 2 f2 rfl
  obtain ⟨y3,h3⟩:=hf 3 f3 rfl
  rw [o0,c0] at h0
  rw [o1,c1] at h1
  rw [o2,c2] at h2
  rw [o3,c3] at h3
  obtain ⟨s0,q0,-,-⟩:=DataW.trod_string k0 h0
  obtain ⟨s1,q1,-,-⟩:=DataW.trod_string k1 h1
  obtain ⟨b2,q2,-⟩:=DataW.trod_bool k2 h2
  obtain ⟨n3,q3,-,-⟩:=DataW.trod_int k3 h3
  simp at q0 q1 q2 q3
  subst q0 q1 q2 q3
  exact ⟨⟨s0,s1,b2,n3⟩,rfl,trivial⟩
theorem read_b7 {t tr:TypeId} {b0 b1 b2 b3 b4 b5 b6:Field} {n:Nat} {cs:List Value} {y:DataW H × List MemPlace} (ht:P.underlying t=some (.struct #[b0,b1,b2,b3,b4,b5,b6])) (hC:P.cellsOf t=7)
  (hone:oneCellFields P #[b0,b1,b2,b3,b4,b5,b6]=true) (l0:P.underlying b0.type=some (.int .i64)) (l1:P.underlying b1.type=some (.int .i64)) (l2:P.underlying b2.type=some (.int .i64)) (l3:P.underlying b3.type=some (.int .i64)) (l4:P.underlying b4.type=some (.int .i64)) (l5:P.underlying b5.type=some (.int .i64))
  (l6:P.underlying b6.type=some (.slice tr)) (hR:P.cellsOf tr=4) (hrec:∀ (n:Nat) (cs:List Value) (y:DataW H × List MemPlace),cs.length=4→DataW.trod enc P w base spare held n tr cs=some y→∃ r:RecM,cs=encR r∧True)
  (hd:DataW.trod enc P w base spare held n t cs=some y):∃ b:BatM,cs=encB7 b∧Rd w 4 b.x (b.rs.flatMap encR)∧(-9223372036854775808≤b.base∧b.base<9223372036854775808):=by
 obtain ⟨hl,m,hg⟩:=trod_fields ht hd hC
 match cs,hl with
 | [v1,v2,v3,v4,v5,v6,v7],_ =>
  have one:∀ (j:Nat) (f:Field) (u:Value),#[b0,b1,b2,b3,b4,b5,b6][j]? = some f→[v1,v2,v3,v4,v5,v6,v7][j]? = some u→∃ y,DataW.trod enc P w base spare held m f.type [u]=some y:=fun j f u hj hu=>by
   obtain ⟨ho,hk⟩:=hone_of hone j f hj
   obtain ⟨y,h1⟩:=hg j f hj
   rw [ho,hk] at h1
   obtain ⟨hjl,rfl⟩:=List.getElem?_eq_some_iff.1 hu
   have hone':([v1,v2,v3,v4,v5,v6,v7].drop j).take 1=[[v1,v2,v3,v4,v5,v6,v7][j]]:=by
    rw [List.drop_eq_getElem_cons hjl];rfl
   rw [hone'] at h1
   exact ⟨y,h1⟩
  obtain ⟨z0,e0⟩:=one 0 b0 v1 rfl rfl
  obtain ⟨z1,e1⟩:=one 1 b1 v2 rfl rfl
  obtain ⟨z2,e2⟩:=one 2 b2 v3 rfl rfl
  obtain ⟨z3,e3⟩:=one 3 b3 v4 rfl rfl
  obtain ⟨z4,e4⟩:=one 4 b4 v5 rfl rfl
  obtain ⟨z5,e5⟩:=one 5 b5 v6 rfl rfl
  obtain ⟨z6,e6⟩:=one 6 b6 v7 rfl rfl
  obtain ⟨m0,p0,-,w0⟩:=DataW.trod_int l0 e0
  obtain ⟨m1,p1,-,-⟩:=DataW.trod_int l1 e1
  obtain ⟨m2,p2,-,-⟩:=DataW.trod_int l2 e2
  obtain ⟨m3,p3,-,-⟩:=DataW.trod_int l3 e3
  obtain ⟨m4,p4,-,-⟩:=DataW.trod_int l4 e4
  obtain ⟨m5,p5,-,-⟩:=DataW.trod_int l5 e5
  obtain ⟨x,rs,p6,-,-,-,-,hrd⟩:=trod_rows l6 hR (by decide) hrec e6
  simp at p0 p1 p2 p3 p4 p5
  subst p0 p1 p2 p3 p4 p5 p6
  exact ⟨⟨m0,m1,m2,m3,m4,m5,x,rs⟩,rfl,hrd,wf64 w0⟩
theorem trod_of {t e:TypeId} {r:Reach} {b0:Nat} {v:Value} {d:DataW H} {ps:List MemPlace} (ht:P.underlying t=some (.slice e)) (hval:Value.okWide P w r b0 t v) (hd:DataW.Trod enc P w base spare held t v d ps):∃ (fuel:Nat) (y:DataW H × List MemPlace),DataW.trod enc P w base spare held fuel t [v]=some y:=by
 obtain ⟨a0,len0,cap0,rfl⟩:=okWide_slice ht hval
 obtain ⟨fuel,hf⟩:=hd
 exact ⟨fuel,_,hf⟩
theorem foc_whole {W:World} {sz:Nat} {x:Sl} {cs:List Value} (h:Rd W sz x cs):FocR [whole W] x sz cs:=⟨fun w hs=>rd_keep hs.of_whole.1 h⟩
end
end Go.Dec
