/- What the claim of this folder leans on: our own texts, joined, without what it does not use. -/
import Derived.Test.YtfnldnodhfkojaaGreatRows
import Derived.WalkKit
import Derived.ProofKit
import Derived.OpenShut
import Derived.RowKit3
import Derived.OrdersHeld
import Derived.Scope
import Derived.KernelRfl
import Derived.Laws.Sem
import Derived.Laws.StructEq
import Derived.Deep.AppendSrc
import Derived.Laws.BytesArg
import Derived.Laws.RangeString
import Derived.Maps.RangeRun
import Derived.Lib.ConvBytes
import Derived.Lib.SlBytesConst
import Derived.ChangeSlices
import Derived.ChangeMaps5
import Derived.ChangeSame
import Derived.Deep.Slices
import Derived.Deep.Fields
import Derived.Test.YtfnldnodhfkojaaGreatProg
import Derived.Laws.MakeOwn
import Derived.Sort.MapsRangeIn
import Derived.Sort.KeysCollected
import Derived.RangeFuncNested
import Derived.RangeFuncBound
import Derived.RangeFuncCalls
import Derived.RangeFuncLeaves
import Derived.RangeFuncBox
import Derived.OwnWalkIn
import Derived.TacticsInMore
import Derived.RegionIn
import Derived.LoopNIn
import Derived.LoopIn
import Derived.Maps.AppendAt
import Derived.Shelf.Abstract
import Derived.Test.YtfnldnodhfkojaaGreatQReads1
import Derived.Test.YtfnldnodhfkojaaGreatQReads2
import Derived.Test.YtfnldnodhfkojaaGreatQReads3
import Derived.Test.YtfnldnodhfkojaaGreatQReads4
import Derived.Test.YtfnldnodhfkojaaGreatQReads5
import Derived.Test.YtfnldnodhfkojaaGreatQReads6
set_option linter.unusedVariables false
set_option linter.unusedSimpArgs false
namespace Go.Dec
instance:EncF encSR 2 .slc (fun s=>s.x):=⟨fun _=>rfl⟩
section
variable {P:Program} {w:World} {l r:List HP} {Q:Post} {S:World→Prop} {T t:TypeId} {sz:Nat}
theorem wp_ixSFu {α:Type} {enc:α→List Value} {xs:List α} {x:Sl} {i i':Int} {j:Nat} {k:Prog} {v:Value} (hs:Sat w l) [hf:FocS l x T sz (xs.flatMap enc) r] [hE:EncN enc sz] [hT:One P t] (n:Nat) (hn:n<xs.length) (y:α)
  (h:∀ w',Sat w' (slc T sz x ((xs.set n y).flatMap enc)::r)→k.wp P tt w' Q) (hi:i=n:=by first|rfl|omega) (hi':i'=i:=by rfl) (hy:enc y=(enc xs[n]).set j v:=by rfl) [hv:Cells v [v]] [ho:Ones [v]] (hj:j<sz:=by decide) :
  (Prog.ex [.adr] (c1 fun a=>0≤i∧i<((x.len:Nat):Int)∧x.a=some a) (u1 fun a=>.untick (.actU (st t (Addr.add (Addr.add a (Int.toNat i'*sz)) j) v) k))).wp P S w Q:=by
 subst hi hi'
 have hr:=(hs.focS x).rd
 have hl:x.len=xs.length:=hr.len hE.len hE.pos
 obtain ⟨a,ha,he⟩:=hr.el hE.len (by omega)
 refine ⟨(a,()),⟨by omega,by omega,ha⟩,wp_untick ?_⟩
 exact wp_stF (xs:=xs) (i:=n) (j:=j) (y:=y) hE.len hs ha hn hj (fun b o e=>by subst e;rw [add_mk,add_mk,Int.toNat_natCast,Nat.add_assoc]) hv.ok (by have:=ho.ok v (List.mem_singleton.2 rfl);exact this) hy fun w' hs'=>⟨trivial,h w' hs'⟩
end
def SegR.add (s:SegR) (z:Sl) (q:List BatM):SegR:=⟨s.base,s.fin,z,s.bs++q⟩
theorem addR_p (s:SegR) (z:Sl) (q:List BatM):(s.add z q).p=s.p.add q:=by simp [SegR.p,SegA.add,SegR.add]
section
variable {w:World} {l r:List HP} {a:Nat} {R:RefM}
theorem all_snoc {SR:List SegR} {s:SegR} (hs:Sat w (rsgP s::HP.all (SR.map rsgP)::l)):Sat w (HP.all ((SR++[s]).map rsgP)::l):=by
 have h1:Sat w (HP.all ((s::SR).map rsgP)::l):=hs.all_put
 exact h1.all_perm ((List.perm_append_comm (l₁:=[s]) (l₂:=SR)).map rsgP)
theorem all_unsnoc {SR:List SegR} {s:SegR} (hs:Sat w (HP.all ((SR++[s]).map rsgP)::l)):Sat w (rsgP s::HP.all (SR.map rsgP)::l):=by
 have h1:Sat w (HP.all ((s::SR).map rsgP)::l):=hs.all_perm ((List.perm_append_comm (l₁:=SR) (l₂:=[s])).map rsgP)
 exact h1.all_cons
theorem roomR {seg:Int} {SR0:List SegR} {s:SegR} (h:SegOk s.p) (n:Nat):roomy seg ((SR0++[s]).map SegR.p) n=(decide (s.bs=[]) || decide (((s.p.file.length+n:Nat):Int)≤seg)):=by
 unfold roomy
 rw [List.map_append]
 show (match (SR0.map SegR.p++[s.p]).getLast? with|none=>false|some s=>_)=_
 rw [getLast_snoc]
 simp only
 congr 1
 rw [Bool.eq_iff_iff]
 simp only [decide_eq_true_eq]
 have h1:=reach_le h
 have h2:=h.base
 have h3:=(h.bs.next h2.1).2.1
 show nextG (s.bs.map BatM.p)=0↔_
 have h1':s.bs.map BatM.p≠[]→s.p.base<nextG (s.bs.map BatM.p):=h1.2.2.2.2
 have h3':s.bs.map BatM.p=[]→nextG (s.bs.map BatM.p)=0:=h3
 constructor
 ·intro h
  by_cases h4:s.bs.map BatM.p=[]
  ·exact List.map_eq_nil_iff.1 h4
  ·have:=h1' h4
   omega
 ·intro h
  exact h3' (by rw [h];rfl)
set_option maxHeartbeats 1000000 in
theorem rappend_c (x:Sl) (bs:List BatM) [hf:Fo l rfP a R r] [hok:okR R r] (hsl:R.SR.length≤900000) (hal:R.bs.length≤900000) (hseg : -9223372036854775808≤R.seg∧R.seg<9223372036854775808) (hbl:bs.length≤900)
  (hx:FocR r x 7 (bs.flatMap encB7)) (hbs:∀ b ∈ bs,FocR r b.x 4 (b.rs.flatMap encR)) (hs:Sat w l) :
  Ret P F.a118 #[.pointer (some ⟨a,0,none⟩),x.v] w fun vs w'=>vs=[.int .i64 (rappA R.seg R.l bs).1.1,.int .i64 (rappA R.seg R.l bs).1.2] ∧
   ∃ R':RefM,R'.seg=R.seg∧R'.gap=R.gap∧R'.l=(rappA R.seg R.l bs).2∧R'.SR.length≤R.SR.length+1∧R'.bs.length≤R.bs.length+bs.length∧(∀ b ∈ R'.bs,b ∈ R.bs∨∃ c ∈ bs,b.x=c.x∧b.rs=c.rs)∧okR R' r∧Sat w' (rfP a R'::r) :=
 zf127_calls _ x <| by
  unfold zf127
  have hs:=hs.perm hf.perm
  clear hf
  have hlxs:=hs.slen x (xs:=bs) (enc:=encB7)
  have hsame:∀ {w:World},Sat w (rfP a R::r)→∃ R':RefM,R'.seg=R.seg∧R'.gap=R.gap∧R'.l=R.l∧R'.SR.length≤R.SR.length+1∧R'.bs.length≤R.bs.length+bs.length∧(∀ b ∈ R'.bs,b ∈ R.bs∨∃ c ∈ bs,b.x=c.x∧b.rs=c.rs)∧okR R' r∧Sat w (rfP a R'::r):=fun hs=>⟨R,rfl,rfl,rfl,by omega,by omega,fun b hb=>.inl hb,hok,hs⟩
  have hnx:=hok.segs.next (Int.le_refl 0)
  have hrseg:=rapp_segs (seg:=R.seg) (bs:=bs) hok.segs
  unfold rappA at hrseg ⊢
  refine wp_if (fun h=>?_) fun h=>?_
  ·have:bs=[]:=List.length_eq_zero_iff.1 (by omega)
   rw [if_pos this]
   exact ⟨rfl,rfl,hsame hs⟩
  have hne:bs≠[]:=by rintro rfl;simp at hlxs;omega
  rw [if_neg hne] at hrseg ⊢
  obtain ⟨z,hs⟩:=rf_open hs
  refine wp_call (rplacedV_c (R:=R) (z:=z) (a:=a) x bs inferInstance (fun s hs=>rsg_rd hs) (by omega) inferInstance (fun b hb=>by have:=hbs b hb;infer_instance) hs) fun _ w' hs=>?_
  rcases hs with ⟨he,rfl,hs⟩|⟨he,z1,rfl,hs⟩
  ·refine ret_of ?_
   refine wp_lt ?_
   refine wp_ifT ?_ he
   refine wp_lt ?_
   rw [if_pos he]
   exact ⟨rfl,rfl,hsame (rf_close R hs)⟩
  refine ⟨(z1,0,()),rfl,trivial,wp_u2 _ _ ?_⟩
  refine wp_lt ?_
  refine wp_ifF ?_ (by simp)
  rw [if_neg (by rw [he];simp)] at hrseg ⊢
  have hplo:=placeL_ok (bs:=bs) (n:=nextL R.l) he
  obtain ⟨hp1,hp2,hp3⟩:=hplo
  have hbl0:0<bs.length:=List.length_pos_iff.2 hne
  generalize hn0:nextL R.l=n0 at *
  generalize hq:(placeL n0 bs).2=q at *
  have hsum:=bat_sum fun b hb=>(hp2 b hb).1
  have hqF:∀ b ∈ q,FocR r b.x 4 (b.rs.flatMap encR):=fun b hb=>by
   obtain ⟨-,c,hc,e1,e2⟩:=hp2 b hb
   rw [e1,e2];exact hbs c hc
  have hfsum:∀ i,((q.take i).flatMap frL).length≤(q.flatMap frL).length:=fun i=>by
   have:(q.flatMap frL)=(q.take i).flatMap frL++(q.drop i).flatMap frL:=by rw [← List.flatMap_append,List.take_append_drop]
   rw [this,List.length_append];omega
  have hlq:=hs.slen z1 (xs:=q) (enc:=encB7)
  refine wp_mid (fun v w'=>v=(((q.flatMap frL).length:Int),())∧Sat w' (slc T.a1 7 z1 (q.flatMap encB7)::pt a (.cells #[.int .i64 R.seg,.int .i64 R.gap,.slice z.a z.len z.cap] T.a32)::slc T.a33 3 z (R.SR.flatMap encSR)::HP.all (R.SR.map rsgP)::r)) ?_ ?_
  ·refine wp_loop (fun m v w=>∃ i:Nat,v=((((q.take i).flatMap frL).length:Int),((i:Int),()))∧i≤q.length∧q.length-i=m∧Sat w (slc T.a1 7 z1 (q.flatMap encB7)::pt a (.cells #[.int .i64 R.seg,.int .i64 R.gap,.slice z.a z.len z.cap] T.a32)::slc T.a33 3 z (R.SR.flatMap encSR)::HP.all (R.SR.map rsgP)::r)) q.length ⟨0,rfl,by omega,rfl,hs⟩ ?_
   clear hs
   rintro m _ w ⟨i,rfl,hi,hm,hs⟩
   refine wp_on ?_
   refine wp_if (fun hc=>?_) fun hc=>?_
   rotate_left
   ·refine wp_pass (wp_lv ⟨?_,hs⟩)
    rw [List.take_of_length_le (by omega)]
   have hil:i<q.length:=by omega
   have hR:=hqF _ (List.getElem_mem hil)
   have hvi:=(hp2 _ (List.getElem_mem hil)).1
   have e1:((q.take (i+1)).flatMap frL).length=((q.take i).flatMap frL).length+(frL q[i]).length:=by
    rw [List.take_succ_eq_append_getElem hil,List.flatMap_append,List.length_append];simp
   have e2:=hfsum (i+1)
   refine wp_ixA hs (xs:=q) (enc:=encB7) i hil ?_
   refine wp_newO hs fun c w' hs=>?_
   refine wp_stG hs fun w' hs=>?_
   refine wp_ldG hs ?_
   refine wp_call (rsize_c q[i] hvi hs) fun _ w' hs=>?_
   obtain ⟨rfl,hs⟩:=hs
   refine ret_of ?_
   rw [w64 (by omega) (by omega)]
   refine wp_lt ?_
   rw [wS (i:=i) (by omega)]
   refine wp_lp (q.length-(i+1)) ⟨i+1,?_,by omega,rfl,hs.tail⟩
   rw [e1]
   refine Prod.ext ?_ rfl
   show _=((((q.take i).flatMap frL).length+(frL q[i]).length:Nat):Int)
   omega
  clear hs
  rintro _ w2 ⟨rfl,hs⟩
  have hlz:=hs.slen z (xs:=R.SR) (enc:=encSR)
  refine wp_on ?_
  refine wp_nn ?_
  refine wp_ldO hs ?_
  rw [w64 (by omega) (by omega)]
  refine wp_lt ?_
  generalize hNN:(q.flatMap frL).length=NN at *
  refine wp_mid (fun v w'=>v=(!roomy R.seg R.l NN,())∧Sat w' (slc T.a1 7 z1 (q.flatMap encB7)::pt a (.cells #[.int .i64 R.seg,.int .i64 R.gap,.slice z.a z.len z.cap] T.a32)::slc T.a33 3 z (R.SR.flatMap encSR)::HP.all (R.SR.map rsgP)::r)) ?_ ?_
  ·refine wp_tk hs fun w' hs=>?_
   refine wp_nng ?_
   refine wp_ldO hs ?_
   by_cases h0:R.SR=[]
   ·have hz0:z.len=0:=by rw [hlz,h0];rfl
    have hr0:roomy R.seg R.l NN=false:=by unfold RefM.l;rw [h0];rfl
    have hd:decide ((z.len:Int)-1<0)=true:=decide_eq_true (by omega)
    refine wp_exF (fun h=>by rw [hd] at h;cases h) ?_
    refine wp_gr (⟨none,0,0⟩:Sl) (fun h=>by rw [hd] at h;cases h) ?_
    refine wp_nng ?_
    refine wp_ldO hs ?_
    refine wp_exF (fun h=>by rw [hd] at h;cases h.1) ?_
    refine wp_read (((0:Int),(0:Int),(⟨none,0,0⟩:Sl),()):HL [.int .i64,.int .i64,.slc]) (fun h=>absurd h.1 (by rw [hd];exact Bool.noConfusion)) ?_
    refine wp_on ?_
    refine wp_nng ?_
    refine wp_hdO hs ?_
    refine wp_ifT ?_ (by omega)
    refine wp_untick ?_
    exact wp_lv ⟨by rw [hr0];rfl,hs⟩
   obtain ⟨SR0,s,hSR⟩:=snoc_of h0
   have hlen:R.SR.length=SR0.length+1:=by rw [hSR];simp
   have hil:SR0.length<R.SR.length:=by omega
   have hgs:R.SR[SR0.length]=s:=by simp [hSR]
   have hsm:s ∈ R.SR:=by rw [hSR];simp
   obtain ⟨v1,v2,v3⟩:=hok.valid s hsm
   have hrm:roomy R.seg R.l NN=(decide (s.bs=[]) || decide (((s.p.file.length+NN:Nat):Int)≤R.seg)):=by
    unfold RefM.l;rw [hSR];exact roomR v1 NN
   have hsx:FocR (HP.all (R.SR.map rsgP)::r) s.x 7 (s.bs.flatMap encB7):=rsg_rd hsm
   have hlx:=hs.slen s.x (xs:=s.bs) (enc:=encB7)
   refine wp_ixFg hs (xs:=R.SR) (enc:=encSR) SR0.length hil ?_
   rw [hgs]
   refine wp_nng ?_
   refine wp_ldO hs ?_
   refine wp_ixAg hs (xs:=R.SR) (enc:=encSR) (s.base,s.fin,s.x,()) (fun _=>⟨SR0.length,hil,by omega,by rw [hgs];rfl⟩) ?_
   refine wp_on ?_
   refine wp_nng ?_
   refine wp_hdO hs ?_
   refine wp_ifF ?_ (by omega)
   refine wp_if (fun h2=>?_) fun h2=>?_
   ·have hsb:s.bs≠[]:=by rintro h3;rw [h3] at hlx;simp at hlx;omega
    refine wp_call (rsegsize_c s v1 (fun b hb=>(v2 b hb).1) (fun b hb=>by have:=(v2 b hb).2;infer_instance) v3 hs) fun _ w' hs=>?_
    obtain ⟨rfl,hs⟩:=hs
    refine ret_of ?_ (by first|trivial|(repeat (first|exact trivial|exact fun _=>run_ldO hs|exact fun _=>run_ldG hs|refine And.intro ?_ ?_)))
    refine wp_untick ?_
    refine wp_lv ⟨?_,hs⟩
    have hfe:s.p.file.length≤1000000000000:=by
     rw [file_len]
     have h3:=shL_len s.p.base s.p.fin
     have h4:(s.p.bs.flatMap frL).length≤s.p.bs.length*262152:=bat_sum fun b hb=>(v1.bs.valid b hb).1
     have h5:s.p.bs.length=s.bs.length:=List.length_map ..
     omega
    rw [hrm,w64 (by omega) (by omega)]
    refine Prod.ext ?_ rfl
    show decide _=!(decide (s.bs=[]) || _)
    rw [decide_eq_false hsb,Bool.false_or,← decide_not]
    apply decide_eq_decide.2
    omega
   ·have hsb:s.bs=[]:=List.length_eq_zero_iff.1 (by omega)
    refine wp_untick ?_
    refine wp_lv ⟨?_,hs⟩
    rw [hrm,decide_eq_true hsb];rfl
  clear hs
  rintro _ w3 ⟨rfl,hs⟩
  refine wp_on ?_
  refine wp_mid (fun v w'=>∃ (R1:RefM) (z2:Sl) (SR0:List SegR) (s:SegR),v=((SR0.length:Int),())∧R1.SR=SR0++[s]∧R1.seg=R.seg∧R1.gap=R.gap∧R1.SR.length≤R.SR.length+1∧R1.bs=R.bs ∧
   (if roomy R.seg R.l NN then addLast R.l q else R.l++[(⟨n0,0,[]⟩:SegA).add q])=SR0.map SegR.p++[s.p.add q] ∧
   Sat w' (slc T.a1 7 z1 (q.flatMap encB7)::pt a (.cells #[.int .i64 R1.seg,.int .i64 R1.gap,.slice z2.a z2.len z2.cap] T.a32)::slc T.a33 3 z2 (R1.SR.flatMap encSR)::HP.all (R1.SR.map rsgP)::r)) ?_ ?_
  ·refine wp_if (fun hr=>?_) fun hr=>?_
   ·have hr:roomy R.seg R.l NN=false:=by simpa using hr
    refine wp_nn ?_
    refine wp_ldO hs ?_
    have hs:Sat w3 (slc T.a33 3 ⟨none,0,0⟩ (([]:List SegR).flatMap encSR)::_):=hs.slc_nil
    refine wp_app' (x:=⟨none,0,0⟩) (xs:=([]:List SegR)) (ys:=R.SR) (enc:=encSR) hs (fun z3 w' hs=>?_) (by simp only [List.length_nil];omega)
    refine wp_call (rnextV_c (R:=R) (z:=z) (a:=a) inferInstance (fun s hs=>rsg_rd hs) hs) fun _ w' hs=>?_
    rw [hn0] at hs
    obtain ⟨rfl,hs⟩:=hs
    refine ret_of ?_
    refine wp_slit1 hs (enc:=encSR) (⟨n0,0,⟨none,0,0⟩,[]⟩:SegR) fun z4 w' hs=>?_
    refine wp_app' (xs:=[]++R.SR) (ys:=[(⟨n0,0,⟨none,0,0⟩,[]⟩:SegR)]) (enc:=encSR) hs (fun z5 w' hs=>?_) (by simp only [List.length_append,List.length_cons,List.length_nil];omega)
    refine wp_nn ?_
    refine wp_stO hs fun w' hs=>?_
    rw [w64 (by omega) (by omega)]
    refine wp_lt ?_
    have hs:Sat w' (pt a (.cells #[.int .i64 R.seg,.int .i64 R.gap,.slice z5.a z5.len z5.cap] T.a32)::slc T.a33 3 z5 ((R.SR++[(⟨n0,0,⟨none,0,0⟩,[]⟩:SegR)]).flatMap encSR)::slc T.a33 3 z4 _::slc T.a1 7 z1 (q.flatMap encB7)::slc T.a33 3 z (R.SR.flatMap encSR)::HP.all (R.SR.map rsgP)::r):=hs
    have hs:Sat w' (rsgP (⟨n0,0,⟨none,0,0⟩,[]⟩:SegR)::HP.all (R.SR.map rsgP)::slc T.a1 7 z1 (q.flatMap encB7)::pt a (.cells #[.int .i64 R.seg,.int .i64 R.gap,.slice z5.a z5.len z5.cap] T.a32)::slc T.a33 3 z5 ((R.SR++[(⟨n0,0,⟨none,0,0⟩,[]⟩:SegR)]).flatMap encSR)::r):=by
     have h1:Sat w' (HP.all (R.SR.map rsgP)::slc T.a1 7 z1 (q.flatMap encB7)::pt a (.cells #[.int .i64 R.seg,.int .i64 R.gap,.slice z5.a z5.len z5.cap] T.a32)::slc T.a33 3 z5 ((R.SR++[(⟨n0,0,⟨none,0,0⟩,[]⟩:SegR)]).flatMap encSR)::r):=hs.sub
     exact h1.slc_nil
    have hs:=all_snoc hs
    refine wp_lv ⟨⟨R.seg,R.gap,R.SR++[⟨n0,0,⟨none,0,0⟩,[]⟩]⟩,z5,R.SR,⟨n0,0,⟨none,0,0⟩,[]⟩,?_,rfl,rfl,rfl,by simp,by simp [RefM.bs],?_,?_⟩
    ·refine Prod.ext ?_ rfl
     show (z.len:Int)-1+1=_
     omega
    ·rw [hr];rfl
    ·exact hs.sub
   ·have hr:roomy R.seg R.l NN=true:=by simpa using hr
    have h0:R.SR≠[]:=by
     intro h0
     have:R.l=[]:=by unfold RefM.l;rw [h0];rfl
     rw [this] at hr
     cases hr
    obtain ⟨SR0,s,hSR⟩:=snoc_of h0
    have hlen:R.SR.length=SR0.length+1:=by rw [hSR];simp
    refine wp_lv ⟨R,z,SR0,s,?_,hSR,rfl,rfl,by omega,rfl,?_,hs⟩
    ·refine Prod.ext ?_ rfl
     show (z.len:Int)-1=_
     omega
    ·rw [hr,if_pos rfl]
     have:R.l=SR0.map SegR.p++[s.p]:=by unfold RefM.l;rw [hSR];simp
     rw [this,addLast_snoc]
  clear hs
  rintro _ w4 ⟨R1,z2,SR0,s,rfl,hSR,hr1,hr2,hr3,hr4,hres,hs⟩
  refine wp_on ?_
  have hil:SR0.length<R1.SR.length:=by rw [hSR];simp
  have hgs:R1.SR[SR0.length]=s:=by simp [hSR]
  have hsm:s ∈ R1.SR:=by rw [hSR];simp
  have hsbl:s.bs.length≤900000:=by
   have:s.bs.length≤R1.bs.length:=by
    unfold RefM.bs
    rw [hSR]
    simp only [List.flatMap_append,List.flatMap_cons,List.length_append]
    omega
   rw [hr4] at this
   omega
  have hsx:FocR (HP.all (R1.SR.map rsgP)::r) s.x 7 (s.bs.flatMap encB7):=rsg_rd hsm
  rw [hres] at hrseg ⊢
  refine wp_nn ?_
  refine wp_ldO hs ?_
  refine wp_ixF hs (xs:=R1.SR) (enc:=encSR) SR0.length hil ?_
  rw [hgs]
  have hs:Sat w4 (slc T.a1 7 ⟨none,0,0⟩ (([]:List BatM).flatMap encB7)::_):=hs.slc_nil
  refine wp_app' (x:=⟨none,0,0⟩) (xs:=([]:List BatM)) (ys:=s.bs) (enc:=encB7) hs (fun z3 w' hs=>?_) (by simp only [List.length_nil];omega)
  refine wp_mid (fun _ w'=>∃ z4:Sl,Sat w' (slc T.a33 3 z2 ((R1.SR.set SR0.length (s.add z4 q)).flatMap encSR)::slc T.a1 7 z4 ((s.bs++q).flatMap encB7)::slc T.a1 7 z1 (q.flatMap encB7)::pt a (.cells #[.int .i64 R1.seg,.int .i64 R1.gap,.slice z2.a z2.len z2.cap] T.a32)::HP.all (R1.SR.map rsgP)::r)) ?_ ?_
  ·refine wp_tk hs fun w' hs=>?_
   refine wp_nn ?_
   refine wp_hdO hs ?_
   rw [List.nil_append] at hs
   refine wp_app2 (x:=z3) (y:=z1) (xs:=s.bs) (ys:=q) (enc:=encB7) hs (fun z4 w' hs=>⟨(by first|trivial|(repeat (first|exact trivial|exact fun _=>run_ldO hs|exact fun _=>run_ldG hs|refine And.intro ?_ ?_))),?_⟩) (by omega)
   refine wp_ixSFu hs (xs:=R1.SR) (enc:=encSR) SR0.length hil (s.add z4 q) (fun w' hs=>?_) (hy:=by rw [hgs];rfl)
   refine wp_untick ?_
   exact wp_lv ⟨z4,hs.sub⟩
  clear hs
  rintro _ w5 ⟨z4,hs⟩
  refine wp_on ?_
  have hlq0:0<q.length:=by omega
  refine wp_ixF0 hs (xs:=q) (enc:=encB7) 0 hlq0 ?_
  refine wp_lt ?_
  have hq0:(q[0]'hlq0).base=n0:=hp3 _ (by rw [List.head?_eq_getElem?,List.getElem?_eq_getElem])
  rw [hq0]
  have hset:R1.SR.set SR0.length (s.add z4 q)=SR0++[s.add z4 q]:=by
   rw [hSR,List.set_append];simp
  rw [hset,hSR] at hs
  have hs:=all_unsnoc (hs.pick [4])
  have hs:Sat w5 (slc T.a1 7 z4 ((s.bs++q).flatMap encB7)::HP.all (SR0.map rsgP)::pt a (.cells #[.int .i64 R1.seg,.int .i64 R1.gap,.slice z2.a z2.len z2.cap] T.a32)::slc T.a33 3 z2 ((SR0++[s.add z4 q]).flatMap encSR)::r):=hs.sub
  have hs:=all_snoc (s:=s.add z4 q) hs
  have hs:=rf_close ⟨R1.seg,R1.gap,SR0++[s.add z4 q]⟩ (z:=z2) (hs.pick [1,1])
  have hRl:RefM.l ⟨R1.seg,R1.gap,SR0++[s.add z4 q]⟩=SR0.map SegR.p++[s.p.add q]:=by
   unfold RefM.l
   rw [List.map_append,List.map_cons,List.map_nil,addR_p]
  have hRb:RefM.bs ⟨R1.seg,R1.gap,SR0++[s.add z4 q]⟩=R1.bs++q:=by
   unfold RefM.bs
   rw [hSR]
   simp [SegR.add]
  refine ⟨rfl,rfl,⟨R1.seg,R1.gap,SR0++[s.add z4 q]⟩,hr1,hr2,hRl,?_,?_,fun b hb=>?_,⟨by rw [hRl];exact hrseg,fun b hb=>?_,?_,?_⟩,hs⟩
  ·show (SR0++[_]).length≤_
   rw [hSR] at hr3
   simpa using hr3
  ·rw [hRb,hr4,List.length_append];omega
  ·rw [hRb,hr4] at hb
   rcases List.mem_append.1 hb with hb|hb
   ·exact .inl hb
   ·exact .inr (hp2 b hb).2
  ·rw [hRb,hr4] at hb
   rcases List.mem_append.1 hb with hb|hb
   ·exact hok.rd b hb
   ·exact hqF b hb
  ·show (SR0++[_]).length≤_
   rw [hSR] at hr3
   simp at hr3 ⊢
   omega
  ·rw [hRb,hr4,List.length_append];omega
end
def smallT (t:ByteArray):ByteArray:=if t.size>30 then t.extract 0 30 else t
def smallR (r:RecM):RecM:=⟨smallT r.key,smallT r.value,r.gone,r.time⟩
def smallB (b:BatM):BatM:=⟨b.base,b.pid,b.epoch,b.seq,b.kind,b.time,noSl,(b.rs.take 6).map smallR⟩
theorem smallT_size (t:ByteArray):(smallT t).size≤30:=by
 unfold smallT
 split
 ·rw [ByteArray.size_extract];omega
 ·omega
theorem small_len (b:BatM) (n:Int) (z:Sl):2≤(batL (((smallB b).at z).to n)).length∧(batL (((smallB b).at z).to n)).length≤668:=by
 have h:=batL_le (b:=((smallB b).at z).to n) (n:=60) fun r hr=>by
  obtain ⟨q,-,rfl⟩:=List.mem_map.1 (show r ∈ (b.rs.take 6).map smallR from hr)
  have h1:=smallT_size q.key
  have h2:=smallT_size q.value
  show (smallT q.key).size+(smallT q.value).size≤60
  omega
 have h3:(((smallB b).at z).to n).rs.length≤6:=by
  show ((b.rs.take 6).map smallR).length≤6
  rw [List.length_map,List.length_take];omega
 omega
abbrev cZ (b:BatM) (z:Sl):Array Value:=#[.int .i64 b.base,.int .i64 b.pid,.int .i64 b.epoch,.int .i64 b.seq,.int .i64 b.kind,.int .i64 b.time,.slice z.a z.len z.cap]
section
variable {w:World} {l r:List HP}
theorem config_c (seg gap:Int) (hs:Sat w l):Ret P F.a97 #[.int .i64 seg,.int .i64 gap] w fun vs w'=>∃ s g:Int,(64≤s∧s≤463)∧(1≤g∧g≤100)∧vs=[.agg #[.int .i64 s,.int .i64 g]]∧Sat w' l :=
 zf106_calls seg gap <| by
  unfold zf106
  have hm1 : -400<Int.tmod seg 400∧Int.tmod seg 400<400:=⟨by have:=Int.lt_tmod_of_pos seg (b:=400) (by omega);omega,Int.tmod_lt_of_pos seg (by omega)⟩
  have hm2 : -100<Int.tmod gap 100∧Int.tmod gap 100<100:=⟨by have:=Int.lt_tmod_of_pos gap (b:=100) (by omega);omega,Int.tmod_lt_of_pos gap (by omega)⟩
  generalize Int.tmod seg 400=s at *
  generalize Int.tmod gap 100=g at *
  refine wp_newO hs fun a0 w' hs=>?_
  refine wp_lt ?_
  refine wp_lt ?_
  refine wp_mid (fun q w'=>∃ s:Int,(0≤s∧s<400)∧q=(s,())∧Sat w' (pt a0 (.cells [.int .i64 0,.int .i64 0].toArray T.a27)::l)) ?_ ?_
  ·refine wp_if (fun h=>?_) fun h=>?_
   ·rw [w64 (by omega) (by omega)]
    refine wp_lt ?_
    exact wp_lv ⟨0-s,by omega,rfl,hs⟩
   ·exact wp_lv ⟨s,by omega,rfl,hs⟩
  clear hs
  rintro _ w ⟨s,hm1,rfl,hs⟩
  refine wp_on ?_
  refine wp_mid (fun q w'=>∃ g:Int,(0≤g∧g<100)∧q=(g,())∧Sat w' (pt a0 (.cells [.int .i64 0,.int .i64 0].toArray T.a27)::l)) ?_ ?_
  ·refine wp_if (fun h=>?_) fun h=>?_
   ·rw [w64 (by omega) (by omega)]
    refine wp_lt ?_
    exact wp_lv ⟨0-g,by omega,rfl,hs⟩
   ·exact wp_lv ⟨g,by omega,rfl,hs⟩
  clear hs
  rintro _ w ⟨g,hm2,rfl,hs⟩
  refine wp_on ?_
  rw [w64 (by omega) (by omega),w64 (by omega) (by omega)]
  refine wp_stG hs fun w' hs=>?_
  refine wp_ldG hs ?_
  exact ⟨rfl,64+s,1+g,by omega,by omega,rfl,hs.tail⟩
theorem small_c (b:BatM) [hb:FocR l b.x 4 (b.rs.flatMap encR)] (hs:Sat w l):Ret P F.a95 #[.agg (encB7 b).toArray] w fun vs w'=>∃ z:Sl,vs=[.agg (encB7 ((smallB b).at z)).toArray]∧Sat w' (slc T.a3 4 z ((smallB b).rs.flatMap encR)::l) :=
 zf105_calls b.base b.pid b.epoch b.seq b.kind b.time b.x <| by
  unfold zf105
  have hl:=hs.slen b.x (xs:=b.rs) (enc:=encR)
  refine wp_boxO hs fun a0 w' hs=>?_
  refine wp_newO hs fun a1 w' hs=>?_
  refine wp_ldG hs ?_
  refine wp_newO hs fun a9 w' hs=>?_
  refine wp_stG hs fun w' hs=>?_
  refine wp_stO hs fun w' hs=>?_
  refine wp_ldO hs ?_
  have hs:Sat w' (slc T.a3 4 ⟨none,0,0⟩ (([]:List RecM).flatMap encR)::pt a9 (.cells (cZ b ⟨none,0,0⟩) T.a1)::pt a1 (.cells #[.int .i64 0,.int .i64 0,.int .i64 0,.int .i64 0,.int .i64 0,.int .i64 0,.slice none 0 0] T.a1)::l):=by
   have h1:Sat w' (pt a9 (.cells (cZ b ⟨none,0,0⟩) T.a1)::pt a1 (.cells #[.int .i64 0,.int .i64 0,.int .i64 0,.int .i64 0,.int .i64 0,.int .i64 0,.slice none 0 0] T.a1)::l):=hs.sub
   exact h1.slc_nil
  refine wp_mid (fun _ w'=>∃ z:Sl,Sat w' (slc T.a3 4 z ((smallB b).rs.flatMap encR)::pt a9 (.cells (cZ b z) T.a1)::pt a1 (.cells #[.int .i64 0,.int .i64 0,.int .i64 0,.int .i64 0,.int .i64 0,.int .i64 0,.slice none 0 0] T.a1)::l)) ?_ ?_
  rotate_left
  ·rintro _ w2 ⟨z,hs⟩
   refine wp_on ?_
   refine wp_ldG hs ?_
   refine wp_stG hs fun w' hs=>?_
   refine wp_ldG hs ?_
   exact ⟨rfl,z,rfl,hs.sub⟩
  refine wp_loop (fun m v w=>∃ (i:Nat) (z:Sl),v=((i:Int),())∧i≤b.rs.length∧i≤6∧b.rs.length-i=m∧Sat w (slc T.a3 4 z (((b.rs.take i).map smallR).flatMap encR)::pt a9 (.cells (cZ b z) T.a1)::pt a1 (.cells #[.int .i64 0,.int .i64 0,.int .i64 0,.int .i64 0,.int .i64 0,.int .i64 0,.slice none 0 0] T.a1)::l)) b.rs.length ⟨0,⟨none,0,0⟩,rfl,by omega,by omega,rfl,hs⟩ ?_
  clear hs
  rintro m _ w ⟨i,z,rfl,hi,hi6,hm,hs⟩
  refine wp_on ?_
  refine wp_if (fun hc=>?_) fun hc=>?_
  rotate_left
  ·refine wp_pass (wp_lv ⟨z,?_⟩)
   have e:b.rs.take i=b.rs.take 6:=by rw [List.take_of_length_le (by omega),List.take_of_length_le (by omega)]
   rw [e] at hs
   exact hs
  have hil:i<b.rs.length:=by omega
  refine wp_ixA hs (xs:=b.rs) (enc:=encR) i hil ?_
  refine wp_newO hs fun a18 w' hs=>?_
  refine wp_lt ?_
  refine wp_stG hs fun w' hs=>?_
  refine wp_if (fun h6=>?_) fun h6=>?_
  ·have:i=6:=by omega
   subst this
   exact wp_pass (wp_lv ⟨z,hs.tail⟩)
  have hx:(b.rs.take (i+1)).map smallR=(b.rs.take i).map smallR++[smallR b.rs[i]]:=by rw [List.take_succ_eq_append_getElem hil,List.map_append];rfl
  generalize b.rs[i]=q at hx hs ⊢
  refine wp_ldO hs ?_
  refine wp_mid (fun _ w'=>Sat w' (pt a18 (.cells #[.string (smallT q.key),.string q.value,.bool q.gone,.int .i64 q.time] T.a3)::slc T.a3 4 z (((b.rs.take i).map smallR).flatMap encR)::pt a9 (.cells (cZ b z) T.a1)::pt a1 (.cells #[.int .i64 0,.int .i64 0,.int .i64 0,.int .i64 0,.int .i64 0,.int .i64 0,.slice none 0 0] T.a1)::l)) ?_ ?_
  ·unfold smallT
   refine wp_if (fun h=>?_) fun h=>?_
   ·refine wp_ldO hs ?_
    refine wp_must (by omega) ?_
    refine wp_stO hs fun w' hs=>?_
    refine wp_lv ?_
    rw [if_pos (by omega)]
    exact hs
   ·refine wp_lv ?_
    rw [if_neg (by omega)]
    exact hs
  clear hs
  rintro _ w hs
  refine wp_on ?_
  refine wp_ldO hs ?_
  refine wp_mid (fun _ w'=>Sat w' (pt a18 (.cells #[.string (smallT q.key),.string (smallT q.value),.bool q.gone,.int .i64 q.time] T.a3)::slc T.a3 4 z (((b.rs.take i).map smallR).flatMap encR)::pt a9 (.cells (cZ b z) T.a1)::pt a1 (.cells #[.int .i64 0,.int .i64 0,.int .i64 0,.int .i64 0,.int .i64 0,.int .i64 0,.slice none 0 0] T.a1)::l)) ?_ ?_
  ·generalize smallT q.key=k0 at hs ⊢
   unfold smallT
   refine wp_if (fun h=>?_) fun h=>?_
   ·refine wp_ldO hs ?_
    refine wp_must (by omega) ?_
    refine wp_stO hs fun w' hs=>?_
    refine wp_lv ?_
    rw [if_pos (by omega)]
    exact hs
   ·refine wp_lv ?_
    rw [if_neg (by omega)]
    exact hs
  clear hs
  rintro _ w hs
  refine wp_on ?_
  refine wp_ldO hs ?_
  refine wp_ldG hs ?_
  refine wp_slit1 hs (enc:=encR) (smallR q) fun y w' hs=>?_
  refine wp_app' (xs:=(b.rs.take i).map smallR) (ys:=[smallR q]) (enc:=encR) hs (fun z' w' hs=>?_) (by simp only [List.length_map,List.length_take,List.length_cons,List.length_nil];omega)
  refine wp_stO hs fun w' hs=>?_
  rw [wS (i:=i) (by omega)]
  refine wp_lp (b.rs.length-(i+1)) ⟨i+1,z',rfl,by omega,by omega,rfl,?_⟩
  rw [hx]
  have hs:Sat w' (pt a9 (.cells (cZ b z') T.a1)::slc T.a3 4 z' (((b.rs.take i).map smallR++[smallR q]).flatMap encR)::slc T.a3 4 y _::pt a18 _::pt a1 (.cells #[.int .i64 0,.int .i64 0,.int .i64 0,.int .i64 0,.int .i64 0,.int .i64 0,.slice none 0 0] T.a1)::l):=hs
  exact hs.sub
end
theorem sum_names {nm:SegA→ByteArray}:∀ {fs:List FileA} {l:List SegA},fs.map (·.name)=l.map nm→(∀ f ∈ fs,∀ s ∈ l,f.name=nm s→f.b=s.file)→used fs=sumF l
 | [],[],_,_=>rfl
 | [],s::l,h,_=>by simp at h
 | f::fs,[],h,_=>by simp at h
 | f::fs,s::l,h,hh=>by
  rw [List.map_cons,List.map_cons,List.cons.injEq] at h
  have h1:=hh f (List.mem_cons_self ..) s (List.mem_cons_self ..) h.1
  have h2:=sum_names h.2 fun f hf s hs=>hh f (List.mem_cons_of_mem _ hf) s (List.mem_cons_of_mem _ hs)
  rw [used_cons,h2,h1]
  simp [sumF]
theorem Cpl.sizes {pre:ByteArray} {l:List SegA} {D:DiskA} (h:Cpl pre l D):l.length≤D.fs.length∧sumF l≤used D.fs:=by
 have hn:=h.names
 have e:(D.fs.filter fun f=>(bl (dashN pre)).isPrefixOf (bl f.name)).map (·.name)=l.map fun s=>nameS pre s.base logX:=by
  rw [← hn]
  unfold namesF
  rw [List.filter_map]
  congr 1
  apply List.filter_congr
  intro f _
  show _=Go.Proofs.YtfnldnodhfkojaaGreat.preF (dashN pre) f.name
  rw [preF_bl]
 have hs:=sum_names e fun f hf s hs hfs=>by
  have h1:=fileD_mem (names_nodup h.ok.sorted) (List.mem_filter.1 hf).1
  obtain ⟨k,hk⟩:=h.has s hs
  rw [hfs,hk] at h1
  simp only [Option.some.injEq,Prod.mk.injEq] at h1
  exact h1.1.symm
 have hl:=congrArg List.length e
 rw [List.length_map,List.length_map] at hl
 exact ⟨by rw [← hl];exact List.length_filter_le _ _,by rw [← hs];exact used_sub List.filter_sublist⟩
theorem sumF_bs:∀ {n:Int} {l:List SegA},SegsOk n l→(allB l).length*10≤sumF l
 | _,[],_=>Nat.le_refl _
 | n,s::l,⟨h1,h2,h3⟩=>by
  have h4:=sumF_bs h3
  have h5:=file_bs h2
  have e1:allB (s::l)=s.bs++allB l:=by simp [allB]
  have e2:sumF (s::l)=s.file.length+sumF l:=by simp [sumF]
  rw [e1,e2,List.length_append]
  omega
theorem Cpl.len {pre:ByteArray} {l:List SegA} {D:DiskA} (h:Cpl pre l D):l.length≤128∧(allB l).length≤500000∧∀ s ∈ l,s.file.length≤4194304:=by
 obtain ⟨h1,h2⟩:=h.sizes
 have h3:=sumF_bs h.segs
 have h4:=h.ok.many
 have h5:=h.ok.used
 refine ⟨by omega,by omega,fun s hs=>?_⟩
 obtain ⟨k,hk⟩:=h.has s hs
 exact Nat.le_trans (used_file hk) h5
theorem place_small (b:BatM) (z:Sl) (n:Int):((placeL n [(smallB b).at z]).2.flatMap frL).length≤676:=by
 unfold placeL
 split
 ·exact Nat.zero_le _
 ·rename_i hv
  have hv:=Decidable.not_not.1 hv
  split
  ·exact Nat.zero_le _
  ·show ((((smallB b).at z).to n)::(placeL _ []).2 |>.flatMap frL).length≤676
   have h1:=small_len b n z
   have h2:=frL_len hv
   simp only [placeL,List.flatMap_cons,List.flatMap_nil,List.append_nil]
   omega
theorem sum_rapp {seg:Int} {l:List SegA} {bs:List BatM}:sumF (rappA seg l bs).2≤sumF l+((placeL (nextL l) bs).2.flatMap frL).length+29:=by
 unfold rappA
 split
 ·simp only;omega
 split
 ·simp only;omega
 simp only
 split
 ·rename_i hr
  have hne:l≠[]:=by rintro rfl;cases hr
  obtain ⟨l0,s,rfl⟩:=snoc_of hne
  rw [addLast_snoc,sumF_snoc,sumF_snoc,file_add,List.length_append]
  omega
 ·have:=shL_len (nextL l) 0
  rw [sumF_snoc,shL_file,List.length_append]
  omega
theorem rapp_small (seg:Int) (l:List SegA) (b:BatM) (z1 z2:Sl):rappA seg l [(smallB b).at z1]=rappA seg l [(smallB b).at z2]:=by
 rw [← rapp_p,← rapp_p seg l [(smallB b).at z2]]
 rfl
theorem allB_snoc (l:List SegA) (s:SegA):allB (l++[s])=allB l++s.bs:=by simp [allB]
theorem nextG_app {a b:List BatM} (h:b≠[]):nextG (a++b)=nextG b:=by
 obtain ⟨b0,x,rfl⟩:=snoc_of h
 rw [← List.append_assoc,nextG_snoc,nextG_snoc]
theorem rapp_all {seg:Int} {l:List SegA} {bs:List BatM} (hok:SegsOk 0 l) (hb:bs≠[]) (hp:(placeL (nextL l) bs).1=0) :
  allB (rappA seg l bs).2=allB l++(placeL (nextL l) bs).2.map BatM.p∧nextL (rappA seg l bs).2=nextG ((placeL (nextL l) bs).2.map BatM.p):=by
 have hq1:=(placeL_ok hp).1
 have hq:(placeL (nextL l) bs).2.map BatM.p≠[]:=by
  intro h
  have:=List.map_eq_nil_iff.1 h
  rw [this] at hq1
  exact hb (List.length_eq_zero_iff.1 hq1.symm)
 have hnx:=hok.next (Int.le_refl 0)
 have hlt:=((placeL_bs hnx.1 hp).1.next hnx.1).1 hq
 unfold rappA
 rw [if_neg hb,if_neg (by rw [hp];simp)]
 simp only
 split
 ·rename_i hr
  have hne:l≠[]:=by rintro rfl;cases hr
  obtain ⟨l0,s,rfl⟩:=snoc_of hne
  rw [addLast_snoc,allB_snoc,allB_snoc,nextL_snoc]
  refine ⟨by simp [SegA.add],?_⟩
  have hsr:=reach_le hok.front.2.1
  rw [nextL_snoc] at hlt hq ⊢
  show max (max s.base s.fin) (nextG (s.bs++_))=_
  rw [nextG_app hq]
  omega
 ·rw [allB_snoc,nextL_snoc]
  refine ⟨by simp [SegA.add],?_⟩
  show max (max (nextL l) 0) (nextG ([]++_))=_
  rw [List.nil_append]
  omega
theorem rapp_err {seg:Int} {l:List SegA} {bs:List BatM} (h:bs=[]∨(placeL (nextL l) bs).1≠0):(rappA seg l bs).2=l∧(rappA seg l bs).1.2≠0:=by
 unfold rappA
 by_cases hb:bs=[]
 ·rw [if_pos hb];exact ⟨rfl,by simp⟩
 ·rw [if_neg hb]
  rcases h with h|h
  ·exact absurd h hb
  ·rw [if_pos h];exact ⟨rfl,h⟩
theorem rapp_fst {seg:Int} {l:List SegA} {bs:List BatM} (hb:bs≠[]):(rappA seg l bs).1.2=(placeL (nextL l) bs).1:=by
 unfold rappA
 rw [if_neg hb]
 split
 ·rfl
 ·rename_i h;exact (Decidable.not_not.1 h).symm
def replay (seg:Int) (bs:List BatM):List SegA:=bs.foldl (fun l b=>(rappA seg l [b]).2) []
theorem replay_snoc (seg:Int) (bs:List BatM) (b:BatM):replay seg (bs++[b])=(rappA seg (replay seg bs) [b]).2:=by
 unfold replay
 rw [List.foldl_append]
 rfl
theorem place_one (b:BatM) (n:Int) (h:(placeL n [b]).1=0):(placeL n [b]).2=[b.to n]:=by
 unfold placeL at h ⊢
 split at h
 ·rename_i h1;exact absurd h h1
 ·rename_i h1
  rw [if_neg h1]
  split at h
  ·rename_i h2;exact absurd rfl h2
  ·rename_i h2;rw [if_neg h2];rfl
theorem rapp_to (seg:Int) (l:List SegA) (b:BatM):rappA seg l [(b.to (nextL l)).p]=rappA seg l [b]:=by
 rw [← rapp_p seg l [b]]
 have e:placeL (nextL l) [(b.to (nextL l)).p]=placeL (nextL l) ([b].map BatM.p):=rfl
 unfold rappA
 rw [e]
 rfl
theorem lapp_gen {pre:ByteArray} (seg:Int) {l:List SegA} {D:DiskA} (bs:List BatM) (hp:preS pre=true) (h:Cpl pre l D) :
  ((lappA pre seg l D bs).1=(rappA seg l bs).1∧(lappA pre seg l D bs).2.1=(rappA seg l bs).2) ∨
  ((lappA pre seg l D bs).1=(0,5)∧(lappA pre seg l D bs).2.1=l∧(rappA seg l bs).1.2=0∧(placeL (nextL l) bs).1=0∧(((placeL (nextL l) bs).2.flatMap frL).length+(shL (nextL l) 0).length>D.free∨D.fs.length≥128)) ∨
  ((lappA pre seg l D bs).1=(0,9)∧(lappA pre seg l D bs).2.1=l∧(rappA seg l bs).1.2=0∧(placeL (nextL l) bs).1=0∧(lappA pre seg l D bs).2.2.gone=true):=by
 unfold lappA rappA
 split
 ·exact .inl ⟨rfl,rfl⟩
 split
 ·exact .inl ⟨rfl,rfl⟩
 rename_i hpl
 have hpl:=Decidable.not_not.1 hpl
 split
 ·rename_i hr
  split
  ·rename_i he
   have hne:l≠[]:=by rintro rfl;cases hr
   obtain ⟨l0,s,rfl⟩:=snoc_of hne
   rw [baseL_snoc] at he ⊢
   obtain ⟨k,hk⟩:=h.has s (by simp)
   rcases append_errs (A:=D) (n:=nameS pre s.base logX) (bs:=(placeL (nextL (l0++[s])) bs).2.flatMap frL) (name_ok hp _) with h6|⟨h6,h7⟩|⟨h6,h7⟩
   ·exact absurd h6 he
   ·refine .inr (.inr ⟨by rw [h6],rfl,rfl,hpl,?_⟩)
    simp only
    rw [append_err he,h7]
   ·refine .inr (.inl ⟨by rw [h6],rfl,rfl,hpl,.inl ?_⟩)
    apply Nat.lt_of_not_le
    intro hle
    exact he (append_goes h7 (name_ok hp _) (by omega) (.inl (by rw [hk];simp)))
  ·exact .inl ⟨rfl,rfl⟩
 ·rename_i hr
  obtain ⟨s1,s2,s3,s4,-⟩:=lsync_all h
  split
  ·rename_i he
   have hne:l≠[]:=by rintro rfl;exact he rfl
   obtain ⟨l0,s,rfl⟩:=snoc_of hne
   have e:lsyncA pre (l0++[s]) D=syncA D [nameS pre s.base logX]:=by unfold lsyncA;rw [getLast_snoc]
   rw [e] at he ⊢
   rcases sync_one (A:=D) (n:=nameS pre s.base logX) with ⟨h6,-,-,-⟩|⟨h6,h7,h8⟩|⟨-,-,h6,-⟩
   ·exact absurd h6 he
   ·exact .inr (.inr ⟨by rw [h6],rfl,rfl,hpl,by simp only;rw [h8,h7]⟩)
   ·obtain ⟨k,hk⟩:=h.has s (by simp)
    rw [hk] at h6;cases h6
  split
  ·rename_i he
   rcases append_errs (A:=(lsyncA pre l D).2) (n:=nameS pre (nextL l) logX) (bs:=shL (nextL l) 0++(placeL (nextL l) bs).2.flatMap frL) (name_ok hp _) with h6|⟨h6,h7⟩|⟨h6,h7⟩
   ·exact absurd h6 he
   ·refine .inr (.inr ⟨by rw [h6],rfl,rfl,hpl,?_⟩)
    simp only
    rw [append_err he,h7]
   ·refine .inr (.inl ⟨by rw [h6],rfl,rfl,hpl,?_⟩)
    by_cases hfl:D.fs.length≥128
    ·exact .inr hfl
    refine .inl ?_
    apply Nat.lt_of_not_le
    intro hle
    refine he (append_goes h7 (name_ok hp _) ?_ (.inr (by omega)))
    have:(lsyncA pre l D).2.free=D.free:=by unfold DiskA.free;rw [s2.room,s3]
    rw [this,List.length_append]
    omega
  ·exact .inl ⟨rfl,rfl⟩
def SynP (pre:ByteArray) (l:List SegA) (D:DiskA) (n:Nat):Prop:=n≤(allB l).length∧∀ l0 t,l=l0++[t]→(∀ s ∈ l0,fileD D.fs (nameS pre s.base logX)=some (s.file,s.file.length)) ∧
 ∃ k,fileD D.fs (nameS pre t.base logX)=some (t.file,k)∧∀ j,1≤j→j≤t.bs.length→(allB l0).length+j≤n→(t.cut j).file.length≤k
theorem snoc_inj {α:Type} {a b:List α} {x y:α} (h:a++[x]=b++[y]):a=b∧x=y:=by
 have:=List.append_inj' h rfl
 exact ⟨this.1,by simpa using this.2⟩
theorem file_cut_le (t:SegA) (j:Nat):(t.cut j).file.length≤t.file.length:=by
 rw [file_len,file_len]
 show (shL t.base t.fin).length+((t.bs.take j).flatMap frL).length≤_
 have:t.bs.flatMap frL=(t.bs.take j).flatMap frL++(t.bs.drop j).flatMap frL:=by rw [← List.flatMap_append,List.take_append_drop]
 rw [this,List.length_append];omega
theorem SynP.sync {pre:ByteArray} {l:List SegA} {D:DiskA} {n:Nat} (h:SynP pre l D n) (hc:Cpl pre l D):SynP pre l (lsyncA pre l D).2 n∧((lsyncA pre l D).1=0→SynP pre l (lsyncA pre l D).2 (allB l).length ∧
  ∀ s ∈ l,fileD (lsyncA pre l D).2.fs (nameS pre s.base logX)=some (s.file,s.file.length)):=by
 by_cases h0:l=[]
 ·subst h0
  exact ⟨h,fun _=>⟨⟨Nat.le_refl _,fun l0 t e=>by simp at e⟩,fun s hs=>by cases hs⟩⟩
 obtain ⟨l0,t,rfl⟩:=snoc_of h0
 have e:lsyncA pre (l0++[t]) D=syncA D [nameS pre t.base logX]:=by unfold lsyncA;rw [getLast_snoc]
 rw [e]
 obtain ⟨h1,k,h2,h3⟩:=h.2 l0 t rfl
 obtain ⟨-,-,-,-,h5⟩:=sync_all hc.ok (nameS pre t.base logX)
 obtain ⟨f1,f2,f3,f4⟩:=hc.segs.front
 have hold:∀ s ∈ l0,fileD (syncA D [nameS pre t.base logX]).2.fs (nameS pre s.base logX)=some (s.file,s.file.length):=fun s hs=>by
  rcases h5 (nameS pre s.base logX) with h6|⟨h6,-,-⟩
  ·rw [h6];exact h1 s hs
  ·exact absurd h6 (name_ne (f1.mem s hs).1 f2 (by have:=(f4 s hs).2;omega))
 constructor
 ·refine ⟨h.1,fun l0' t' e'=>?_⟩
  obtain ⟨rfl,rfl⟩:=snoc_inj e'
  refine ⟨hold,?_⟩
  rcases h5 (nameS pre t.base logX) with h6|⟨-,-,h6⟩
  ·rw [h6];exact ⟨k,h2,h3⟩
  ·rw [h6,h2]
   exact ⟨t.file.length,rfl,fun j h7 h8 h9=>file_cut_le _ _⟩
 ·intro h0
  have hnew:fileD (syncA D [nameS pre t.base logX]).2.fs (nameS pre t.base logX)=some (t.file,t.file.length):=by
   obtain ⟨-,-,-,-,-,h7⟩:=sync_ok hc.ok h0
   rw [h7,h2];simp
  refine ⟨⟨Nat.le_refl _,fun l0' t' e'=>?_⟩,fun s hs=>?_⟩
  ·obtain ⟨rfl,rfl⟩:=snoc_inj e'
   exact ⟨hold,t.file.length,hnew,fun j _ _ _=>file_cut_le _ _⟩
  ·rcases List.mem_append.1 hs with hs|hs
   ·exact hold s hs
   ·simp only [List.mem_cons,List.not_mem_nil,or_false] at hs
    subst hs;exact hnew
theorem SynP.begin {pre:ByteArray} {l:List SegA} {s:SegA} {D:DiskA} {n:Nat} (h:SynP pre l D n) (hc:Cpl pre l D) (hsegs:SegsOk 0 (l++[s])) (hall:∀ t ∈ l,fileD D.fs (nameS pre t.base logX)=some (t.file,t.file.length)) (ha:(appendA D (nameS pre s.base logX) s.file).1=0):SynP pre (l++[s]) (appendA D (nameS pre s.base logX) s.file).2 n:=by
 obtain ⟨-,-,-,-,-,-,h7⟩:=append_ok hc.ok ha
 obtain ⟨f1,f2,f3,f4⟩:=hsegs.front
 have hn:=h.1
 have hnone:fileD D.fs (nameS pre s.base logX)=none:=by
  cases hq:fileD D.fs (nameS pre s.base logX) with
  | none=>rfl
  | some q =>
   obtain ⟨t,ht,e⟩:=hc.only _ (by rw [hq];rfl) (pre_nameS pre s.base logX)
   exact absurd e (name_ne f2 (f1.mem t ht).1 (by have:=(f4 t ht).2;omega))
 refine ⟨by rw [allB_snoc,List.length_append];omega,fun l0' t' e'=>?_⟩
 obtain ⟨rfl,rfl⟩:=snoc_inj e'
 refine ⟨fun t ht=>?_,0,?_,fun j j1 j2 j3=>?_⟩
 ·rw [h7,if_neg (name_ne (f1.mem t ht).1 f2 (by have:=(f4 t ht).2;omega))]
  exact hall t ht
 ·rw [h7,if_pos rfl,hnone]
  rfl
 ·omega
theorem SynP.app {pre:ByteArray} {seg:Int} {l:List SegA} {D:DiskA} {bs:List BatM} {n:Nat} (hp:preS pre=true) (h:SynP pre l D n) (hc:Cpl pre l D):SynP pre (lappA pre seg l D bs).2.1 (lappA pre seg l D bs).2.2 n:=by
 have hsegs:=rapp_segs (seg:=seg) (bs:=bs) hc.segs
 unfold lappA
 unfold rappA at hsegs
 split
 ·exact h
 rename_i hb
 rw [if_neg hb] at hsegs
 split
 ·exact h
 rename_i hpl
 rw [if_neg hpl] at hsegs
 simp only at hsegs
 split
 ·rename_i hr
  have hne:l≠[]:=by rintro rfl;cases hr
  obtain ⟨l0,t,rfl⟩:=snoc_of hne
  rw [baseL_snoc]
  split
  ·rename_i he
   simp only
   rw [append_err he];exact h
  ·rename_i he
   have he:=Decidable.not_not.1 he
   simp only
   rw [addLast_snoc]
   obtain ⟨h1,k,h2,h3⟩:=h.2 l0 t rfl
   obtain ⟨-,-,-,-,-,-,h7⟩:=append_ok hc.ok he
   obtain ⟨f1,f2,f3,f4⟩:=hc.segs.front
   have hn:=h.1
   rw [allB_snoc,List.length_append] at hn
   refine ⟨by rw [allB_snoc,List.length_append];simp only [SegA.add,List.length_append];omega,fun l0' t' e'=>?_⟩
   obtain ⟨rfl,rfl⟩:=snoc_inj e'
   refine ⟨fun s hs=>?_,k,?_,fun j j1 j2 j3=>?_⟩
   ·rw [h7,if_neg (name_ne (f1.mem s hs).1 f2 (by have:=(f4 s hs).2;omega))]
    exact h1 s hs
   ·show fileD _ (nameS pre t.base logX)=_
    rw [h7,if_pos rfl,h2,file_add]
    rfl
   ·have hj:j≤t.bs.length:=by omega
    have e:(t.add (placeL (nextL (l0++[t])) bs).2).cut j=t.cut j:=by
     unfold SegA.cut SegA.add
     simp only
     rw [List.take_append_of_le_length hj]
    rw [e]
    exact h3 j j1 hj j3
 ·rename_i hr
  obtain ⟨hs1,hs2⟩:=h.sync hc
  split
  ·exact hs1
  rename_i hse
  have hse:=Decidable.not_not.1 hse
  split
  ·rename_i he
   simp only
   rw [append_err he];exact hs1
  ·rename_i he
   have he:=Decidable.not_not.1 he
   rw [if_neg hr] at hsegs
   simp only
   obtain ⟨hs3,hs4⟩:=hs2 hse
   rw [← shL_file] at he ⊢
   exact hs1.begin (s:=SegA.add ⟨nextL l,0,[]⟩ (placeL (nextL l) bs).2) (lsync_all hc).1 hsegs hs4 he
structure CutP (pre:ByteArray) (l0:List SegA) (t:SegA) (k:Nat) (D:DiskA):Prop where
 ok:okA D
 segs:SegsOk 0 (l0++[t])
 old:∀ s ∈ l0,fileD D.fs (nameS pre s.base logX)=some (s.file,s.file.length)
 last:fileD D.fs (nameS pre t.base logX)=some (t.file.take k,k)
 le:k≤t.file.length
 only:∀ n,(fileD D.fs n).isSome=true→(bl (dashN pre)).isPrefixOf (bl n)=true→∃ s ∈ l0++[t],n=nameS pre s.base logX
theorem CutP.fs {pre:ByteArray} {l0:List SegA} {t:SegA} {k:Nat} {D D':DiskA} (h:CutP pre l0 t k D) (hok:okA D') (e:D'.fs=D.fs):CutP pre l0 t k D' :=
 ⟨hok,h.segs,by rw [e];exact h.old,by rw [e];exact h.last,h.le,by rw [e];exact h.only⟩
theorem names_of {pre:ByteArray} {l:List SegA} {D:DiskA} (hok:okA D) (hsegs:SegsOk 0 l) (hex:∀ s ∈ l,(fileD D.fs (nameS pre s.base logX)).isSome=true) (only:∀ n,(fileD D.fs n).isSome=true→(bl (dashN pre)).isPrefixOf (bl n)=true→∃ s ∈ l,n=nameS pre s.base logX):namesF (dashN pre) D.fs=l.map fun s=>nameS pre s.base logX:=by
 refine sorted_eq (names_sorted hok _) (segs_sorted pre hsegs) fun n=>?_
 rw [mem_names]
 constructor
 ·rintro ⟨h1,h2⟩
  obtain ⟨s,hs,rfl⟩:=only n h1 h2
  exact List.mem_map.2 ⟨s,hs,rfl⟩
 ·intro hn
  obtain ⟨s,hs,rfl⟩:=List.mem_map.1 hn
  exact ⟨hex s hs,pre_nameS pre s.base logX⟩
theorem base_next {l1 l:List SegA} {s:SegA} (hok:SegsOk 0 (l1++s::l)):¬ s.base<nextL l1:=by
 have hs:SegOk s:=(hok.mem s (by simp)).1
 have:=hs.base
 by_cases h0:l1=[]
 ·subst h0;show ¬ s.base<0;omega
 ·obtain ⟨l0,t,rfl⟩:=snoc_of h0
  rw [nextL_snoc]
  have h1:=hok.skip l0.length (l0.length+1) (by simp) (by omega)
  have e1:(l0++[t]++s::l)[l0.length]'(by simp)=t:=by simp
  have e2:(l0++[t]++s::l)[l0.length+1]'(by simp)=s:=by
   rw [List.getElem_append_right (by simp)];simp
  rw [e1,e2] at h1
  omega
theorem openS_run {pre:ByteArray} {D:DiskA} {rest:List Int}:∀ {l l1:List SegA},SegsOk 0 (l1++l)→(∀ s ∈ l,∃ k,fileD D.fs (nameS pre s.base logX)=some (s.file,k))→openS pre (l.map SegA.base++rest) l1 D=openS pre rest (l1++l) D
 | [],l1,_,_=>by simp
 | s::l,l1,hok,hh=>by
  rw [List.map_cons,List.cons_append]
  have hok2:SegsOk 0 ((l1++[s])++l):=by rwa [List.append_assoc]
  have hs:SegOk s:=(hok.mem s (by simp)).1
  obtain ⟨k,hk⟩:=hh s (List.mem_cons_self ..)
  have hsc:scanA pre l1 D s.base=((true,0),l1++[s],D):=by
   unfold scanA
   rw [hk]
   simp only
   rw [scan_file hs]
   simp only
   rw [if_pos trivial]
  have e:openS pre (s.base::(l.map SegA.base++rest)) l1 D=openS pre (l.map SegA.base++rest) (l1++[s]) D:=by
   rw [openS]
   rw [if_neg (base_next hok),hsc,if_neg (by simp),if_pos rfl]
  rw [e,openS_run hok2 fun t ht=>hh t (List.mem_cons_of_mem _ ht),List.append_assoc]
  rfl
theorem used_le_map {g:FileA→FileA} (hg:∀ f,(g f).b.length≤f.b.length):∀ fs:List FileA,used (fs.map g)≤used fs
 | []=>Nat.le_refl _
 | f::fs=>by
  have:=used_le_map hg fs
  have:=hg f
  rw [List.map_cons,used_cons,used_cons]
  omega
theorem cut_used (A:DiskA) (n:ByteArray) (k:Int):used (cutA' A n k).2.fs≤used A.fs:=by
 unfold cutA'
 split
 ·exact Nat.le_refl _
 split
 ·exact Nat.le_refl _
 split
 ·exact Nat.le_refl _
 ·show used (doneA _).fs≤_
  rw [doneA_fs]
  refine used_le_map (fun f=>?_) _
  unfold updF
  split
  ·show (f.b.take _).length≤_;rw [List.length_take];omega
  ·exact Nat.le_refl _
theorem cut_calm {D:DiskA} (h:Calm D) (n:ByteArray) (k:Int):Calm (cutA' D n k).2:=by
 unfold cutA'
 split
 ·exact h
 split
 ·exact h
 split
 ·exact h
 ·show Calm (doneA _)
  rw [done_calm (by exact h.left)]
  exact ⟨h.gone,h.left⟩
theorem reach_cut {t:SegA} (ht:SegOk t) (j:Nat):(t.cut j).reach≤t.reach:=by
 unfold SegA.reach SegA.cut
 simp only
 have h:nextG (t.bs.take j)≤max (max t.base t.fin) (nextG t.bs):=by
  by_cases h0:t.bs.take j=[]
  ·rw [h0];have:=ht.base;show (0:Int)≤_;omega
  ·obtain ⟨l,b,hb⟩:=snoc_of h0
   rw [hb,nextG_snoc]
   have hm:b ∈ t.bs:=List.mem_of_mem_take (by rw [hb];simp)
   have:=ht.bs.le_next hm
   omega
 omega
structure OpnP (pre:ByteArray) (l:List SegA) (n:Nat) (D:DiskA) (l1:List SegA) (D3:DiskA):Prop where
 cpl:Cpl pre l1 D3
 room:D3.room=D.room
 used:used D3.fs≤used D.fs
 len:D3.fs.length≤D.fs.length
 calm:Calm D→Calm D3
 sure:n≤(allB l1).length
 le:(allB l1).length≤(allB l).length
 part:allB l1=(allB l).take (allB l1).length
 next:nextL l1≤nextL l
theorem SegsOk.cutLast {n:Int} {l0:List SegA} {t:SegA} (h:SegsOk n (l0++[t])) (j:Nat):SegsOk n (l0++[t.cut j]):=by
 obtain ⟨h1,h2,h3,h4⟩:=h.front
 exact h1.snoc (h2.cut j) h3 h4
theorem CutP.opened {pre:ByteArray} {l0:List SegA} {t:SegA} {k n:Nat} {D:DiskA} (h:CutP pre l0 t k D) (hg:D.gone=false) (hn0:n≤(allB (l0++[t])).length) (hn:∀ j,1≤j→j≤t.bs.length→(allB l0).length+j≤n→(t.cut j).file.length≤k) :
  ∃ l1 D3,lopenA pre D=(0,l1,D3)∧OpnP pre (l0++[t]) n D l1 D3:=by
 have hex:∀ s ∈ l0++[t],(fileD D.fs (nameS pre s.base logX)).isSome=true:=fun s hs=>by
  rcases List.mem_append.1 hs with hs|hs
  ·rw [h.old s hs];rfl
  ·simp only [List.mem_cons,List.not_mem_nil,or_false] at hs
   subst hs;rw [h.last];rfl
 have hnm:=names_of h.ok h.segs hex h.only
 obtain ⟨f1,f2,f3,f4⟩:=h.segs.front
 have hstart:lopenA pre D=openS pre [t.base] l0 D:=by
  unfold lopenA
  rw [hnm,files_segs pre D fun s hs=>(h.segs.mem s hs).1,if_neg (by simp)]
  simp only
  rw [List.map_append]
  have:=openS_run (pre:=pre) (D:=D) (rest:=[t].map SegA.base) (l:=l0) (l1:=[]) f1 fun s hs=>⟨_,h.old s hs⟩
  rw [this]
  rfl
 rw [hstart]
 rw [allB_snoc,List.length_append] at hn0
 have hne:∀ s ∈ l0,nameS pre s.base logX≠nameS pre t.base logX:=fun s hs=>name_ne (f1.mem s hs).1 f2 (by have:=(f4 s hs).2;omega)
 have hb:=base_next (l:=[]) h.segs
 have hisS:(fileD D.fs (nameS pre t.base logX)).isSome=true:=by rw [h.last];rfl
 rcases scan_cut f2 k with ⟨c1,c2⟩|⟨j,c1,c2,c3,c4⟩
 ·have hsc:scanA pre l0 D t.base=((false,(remA D (nameS pre t.base logX)).1),l0,(remA D (nameS pre t.base logX)).2):=by
   unfold scanA
   rw [h.last]
   simp only
   rw [c2]
  have hr:(remA D (nameS pre t.base logX)).1=0:=by
   rcases rem_cases hisS with ⟨r1,-⟩|⟨-,r2,-⟩
   ·exact r1
   ·rw [hg] at r2;cases r2
  refine ⟨l0,(remA D (nameS pre t.base logX)).2,?_,?_⟩
  ·rw [openS,if_neg hb,hsc,hr]
   rfl
  ·obtain ⟨-,r1,r2,r3,r4,-,r6⟩:=rem_ok h.ok hr
   have hnl:n≤(allB l0).length:=by
    apply Nat.le_of_not_lt
    intro hlt
    have h1:=hn 1 (Nat.le_refl _) (by omega) (by omega)
    rw [file_len] at h1
    have:(shL (t.cut 1).base (t.cut 1).fin).length=(shL t.base t.fin).length:=rfl
    omega
   refine ⟨⟨r1,f1,fun s hs=>⟨s.file.length,?_⟩,fun m hm hp=>?_⟩,r2,r3,r4,fun hc=>rem_calm hc _,hnl,?_,?_,?_⟩
   ·rw [r6,if_neg (hne s hs)];exact h.old s hs
   ·rw [r6] at hm
    by_cases hmt:m=nameS pre t.base logX
    ·rw [if_pos hmt] at hm;cases hm
    ·rw [if_neg hmt] at hm
     obtain ⟨s,hs,rfl⟩:=h.only m hm hp
     rcases List.mem_append.1 hs with hs|hs
     ·exact ⟨s,hs,rfl⟩
     ·simp only [List.mem_cons,List.not_mem_nil,or_false] at hs
      subst hs;exact absurd rfl hmt
   ·rw [allB_snoc,List.length_append];omega
   ·rw [allB_snoc,List.take_left]
   ·rw [nextL_snoc]
    have:=(reach_le f2).1
    omega
 ·have hprefix:allB (l0++[t.cut j])=(allB (l0++[t])).take (allB (l0++[t.cut j])).length∧(allB (l0++[t.cut j])).length=(allB l0).length+j:=by
   have e:(t.cut j).bs=t.bs.take j:=rfl
   rw [allB_snoc,allB_snoc,e,List.length_append,List.length_take,Nat.min_eq_left c1,List.take_append,List.take_of_length_le (Nat.le_add_right _ _),Nat.add_sub_cancel_left]
   exact ⟨rfl,rfl⟩
  have hnl:n≤(allB (l0++[t.cut j])).length:=by
   rw [hprefix.2]
   apply Nat.le_of_not_lt
   intro hlt
   have h1:=hn (n-(allB l0).length) (by omega) (by omega) (by omega)
   have h2:=c4 (n-(allB l0).length) (by omega) h1
   omega
  have hle:(allB (l0++[t.cut j])).length≤(allB (l0++[t])).length:=by rw [hprefix.2,allB_snoc,List.length_append];omega
  have hnx:nextL (l0++[t.cut j])≤nextL (l0++[t]):=by rw [nextL_snoc,nextL_snoc];exact reach_cut f2 j
  have hkl:(t.file.take k).length=k:=by rw [List.length_take,Nat.min_eq_left h.le]
  have hraw:=(scan_inv c3).2.2.1
  by_cases hk:(t.cut j).file.length=k
  ·have hsc:scanA pre l0 D t.base=((true,0),l0++[t.cut j],D):=by
    unfold scanA
    rw [h.last]
    simp only
    rw [c3]
    simp only
    rw [if_pos (by rw [hkl];exact hk)]
   refine ⟨l0++[t.cut j],D,?_,?_⟩
   ·rw [openS,if_neg hb,hsc,if_neg (by simp),if_pos rfl]
    rfl
   ·refine ⟨⟨h.ok,h.segs.cutLast j,fun s hs=>?_,fun m hm hp=>?_⟩,rfl,Nat.le_refl _,Nat.le_refl _,id,hnl,hle,hprefix.1,hnx⟩
    ·rcases List.mem_append.1 hs with hs|hs
     ·exact ⟨_,h.old s hs⟩
     ·simp only [List.mem_cons,List.not_mem_nil,or_false] at hs
      subst hs
      refine ⟨k,?_⟩
      show fileD D.fs (nameS pre t.base logX)=_
      rw [h.last,← hraw,hk,List.take_take,Nat.min_self]
    ·obtain ⟨s,hs,rfl⟩:=h.only m hm hp
     rcases List.mem_append.1 hs with hs|hs
     ·exact ⟨s,by simp [hs],rfl⟩
     ·simp only [List.mem_cons,List.not_mem_nil,or_false] at hs
      subst hs;exact ⟨s.cut j,by simp,rfl⟩
  ·have hsc:scanA pre l0 D t.base=((false,(cutA' D (nameS pre t.base logX) ((t.cut j).file.length:Nat)).1),l0++[t.cut j],(cutA' D (nameS pre t.base logX) ((t.cut j).file.length:Nat)).2):=by
    unfold scanA
    rw [h.last]
    simp only
    rw [c3]
    simp only
    rw [if_neg (by rw [hkl];exact hk)]
   have hr:(cutA' D (nameS pre t.base logX) ((t.cut j).file.length:Nat)).1=0:=by
    rcases cut_cases (A:=D) (k:=((t.cut j).file.length:Nat)) h.last (by rw [hkl];omega) with ⟨r1,-⟩|⟨-,r2,-⟩
    ·exact r1
    ·rw [hg] at r2;cases r2
   refine ⟨l0++[t.cut j],(cutA' D (nameS pre t.base logX) ((t.cut j).file.length:Nat)).2,?_,?_⟩
   ·rw [openS,if_neg hb,hsc,hr]
    rfl
   ·obtain ⟨-,r1,r2,r3,r4⟩:=cut_ok h.ok hr
    refine ⟨⟨r1,h.segs.cutLast j,fun s hs=>?_,fun m hm hp=>?_⟩,r2,cut_used _ _ _,by omega,fun hc=>cut_calm hc _ _,hnl,hle,hprefix.1,hnx⟩
    ·rcases List.mem_append.1 hs with hs|hs
     ·rw [r4,if_neg (hne s hs)];exact ⟨_,h.old s hs⟩
     ·simp only [List.mem_cons,List.not_mem_nil,or_false] at hs
      subst hs
      refine ⟨min k (t.cut j).file.length,?_⟩
      show fileD _ (nameS pre t.base logX)=_
      rw [r4,if_pos rfl,h.last]
      show some ((t.file.take k).take _,_)=_
      rw [Int.toNat_natCast,hraw]
    ·rw [r4] at hm
     have hm2:(fileD D.fs m).isSome=true:=by
      by_cases hmt:m=nameS pre t.base logX
      ·rw [hmt];exact hisS
      ·rw [if_neg hmt] at hm;exact hm
     obtain ⟨s,hs,rfl⟩:=h.only m hm2 hp
     rcases List.mem_append.1 hs with hs|hs
     ·exact ⟨s,by simp [hs],rfl⟩
     ·simp only [List.mem_cons,List.not_mem_nil,or_false] at hs
      subst hs;exact ⟨s.cut j,by simp,rfl⟩
def CrP (pre:ByteArray) (l:List SegA) (n:Nat) (D:DiskA):Prop:=(l=[]∧n=0∧Cpl pre [] D)∨∃ l0 t k,l=l0++[t]∧n≤(allB l).length∧CutP pre l0 t k D∧∀ j,1≤j→j≤t.bs.length→(allB l0).length+j≤n→(t.cut j).file.length≤k
theorem CrP.ok {pre:ByteArray} {l:List SegA} {D:DiskA} {n:Nat} (h:CrP pre l n D):okA D:=by
 rcases h with ⟨h1,h2,h3⟩|⟨l0,t,k,h1,h2,h3,h4⟩
 ·exact h3.ok
 ·exact h3.ok
theorem CrP.opened {pre:ByteArray} {l:List SegA} {D:DiskA} {n:Nat} (h:CrP pre l n D) (hg:D.gone=false):∃ l1 D3,lopenA pre D=(0,l1,D3)∧OpnP pre l n D l1 D3:=by
 rcases h with ⟨rfl,rfl,h3⟩|⟨l0,t,k,rfl,h2,h3,h4⟩
 ·exact ⟨[],D,h3.opened,h3,rfl,Nat.le_refl _,Nat.le_refl _,id,Nat.zero_le _,Nat.le_refl _,rfl,Int.le_refl _⟩
 ·exact h3.opened hg h2 h4
theorem span_64 {b:BatM} (hv:validB b=0):spanB b≤64:=by
 obtain ⟨h64,-⟩:=valid_recs hv
 unfold spanB
 split <;> omega
theorem next_rapp {seg:Int} {l:List SegA} (b:BatM) (h:SegsOk 0 l):nextL (rappA seg l [b]).2≤nextL l+64:=by
 by_cases hp:(placeL (nextL l) [b]).1=0
 ·rw [(rapp_all (seg:=seg) h (by simp) hp).2,place_one _ _ hp]
  have hv:=((placeL_ok hp).2.1 (b.to (nextL l)) (by rw [place_one _ _ hp];simp)).1
  have:=span_64 hv
  show (b.to (nextL l)).p.base+spanB (b.to (nextL l)).p≤_
  have e1:(b.to (nextL l)).p.base=nextL l:=rfl
  have e2:spanB (b.to (nextL l)).p=spanB (b.to (nextL l)):=rfl
  omega
 ·rw [(rapp_err (seg:=seg) (.inr hp)).1];omega
theorem replay_segs (seg:Int) (bs:List BatM):SegsOk 0 (replay seg bs)∧nextL (replay seg bs)≤64*(bs.length:Int):=by
 induction bs using snoc_ind with
 | h0=>exact ⟨trivial,by show (0:Int)≤_;simp⟩
 | h1 bs b ih =>
  rw [replay_snoc]
  refine ⟨rapp_segs ih.1,?_⟩
  have:=next_rapp (seg:=seg) b ih.1
  rw [List.length_append]
  simp only [List.length_cons,List.length_nil]
  omega
theorem fromB_map (off:Int) (b:BatM):(fromB off b).map BatM.p=fromB off b.p:=by
 unfold fromB
 show _=if validB b≠0∨off≥nextB b then none else if markB b=true∨off≤b.base then some b.p else some (partB b.p (off-b.base).toNat)
 split
 ·rfl
 ·split <;> rfl
theorem fromB_next {off:Int} {b c:BatM} (hv:validB b=0) (h:fromB off b=some c):c.base+spanB c=b.base+spanB b∧b.base≤c.base∧off<b.base+spanB b:=by
 have hnx:nextB b=b.base+spanB b:=by unfold nextB;rw [if_neg (by rw [hv];simp)]
 unfold fromB at h
 split at h
 ·cases h
 ·rename_i h1
  have h1:¬ off≥nextB b:=fun h2=>h1 (.inr h2)
  split at h
  ·simp only [Option.some.injEq] at h
   subst h
   exact ⟨rfl,Int.le_refl _,by omega⟩
  ·rename_i h2
   simp only [Option.some.injEq] at h
   subst h
   have hm:markB b=false:=by
    cases hm:markB b with
    | false=>rfl
    | true=>exact absurd (.inl hm) h2
   have hob:¬ off≤b.base:=fun hh=>h2 (.inr hh)
   have hsp:spanB b=b.rs.length:=by unfold spanB;rw [hm];simp
   have hm2:markB (partB b (off-b.base).toNat)=false:=hm
   have hsp2:spanB (partB b (off-b.base).toNat)=((b.rs.drop (off-b.base).toNat).length:Nat):=by unfold spanB;rw [hm2];rfl
   refine ⟨?_,?_,by omega⟩
   ·rw [hsp2,List.length_drop]
    show b.base+((off-b.base).toNat:Nat)+_=_
    omega
   ·show b.base≤b.base+((off-b.base).toNat:Nat)
    omega
theorem from_whole {n:Int} {bs:List BatM} (h:BsOk n bs) {off:Int} (ho:off≤n):bs.filterMap (fromB off)=bs :=
 filterMap_id fun b hb=>fromB_all (h.valid b hb).1 (by have:=bs_base h b hb;omega)
theorem from_skip:∀ {n:Int} {bs:List BatM},BsOk n bs→∀ (j:Nat) (hj:j<bs.length),bs.filterMap (fromB (bs[j].base+spanB bs[j]))=bs.drop (j+1)
 | n,b::bs,⟨h1,h2,h3,h4⟩,0,_=>by
  simp only [List.getElem_cons_zero]
  rw [List.filterMap_cons_none (fromB_none h1 (Int.le_refl _)),from_whole h4 (Int.le_refl _)]
  rfl
 | n,b::bs,⟨h1,h2,h3,h4⟩,j+1,hj=>by
  have hj2:j<bs.length:=by simpa using hj
  simp only [List.getElem_cons_succ]
  have hb:=bs_base h4 bs[j] (List.getElem_mem hj2)
  obtain ⟨s1,-,-,-,-⟩:=span_le _ (h4.valid _ (List.getElem_mem hj2)).1
  rw [List.filterMap_cons_none (fromB_none h1 (by omega)),from_skip h4 j hj2]
  rfl
theorem from_step:∀ {n:Int} {bs:List BatM},BsOk n bs→∀ (off:Int) (m:Nat) (x:BatM),((bs.filterMap (fromB off)).take m).getLast? = some x→bs.filterMap (fromB (x.base+spanB x))=(bs.filterMap (fromB off)).drop m∧off<x.base+spanB x∧n≤x.base
 | n,[],_,off,m,x,hx=>by simp at hx
 | n,b::bs,⟨h1,h2,h3,h4⟩,off,m,x,hx=>by
  obtain ⟨s1,-,-,-,-⟩:=span_le _ h1
  cases hb:fromB off b with
  | none =>
   rw [List.filterMap_cons_none hb] at hx ⊢
   obtain ⟨i1,i2,i3⟩:=from_step h4 off m x hx
   have hvx:validB b=0:=h1
   refine ⟨?_,i2,by omega⟩
   rw [List.filterMap_cons_none,i1]
   have hxs:0<spanB x∨spanB x≤0:=by omega
   refine fromB_none h1 ?_
   have:x ∈ bs.filterMap (fromB off):=List.mem_of_mem_take (List.mem_of_getLast? hx)
   obtain ⟨y,hy,hyx⟩:=List.mem_filterMap.1 this
   have hv:=(h4.valid y hy).1
   obtain ⟨e1,-,-⟩:=fromB_next hv hyx
   have:=bs_base h4 y hy
   obtain ⟨t1,-,-,-,-⟩:=span_le _ hv
   omega
  | some c =>
   obtain ⟨e1,e2,e3⟩:=fromB_next h1 hb
   rw [List.filterMap_cons_some hb] at hx ⊢
   have hw:bs.filterMap (fromB off)=bs:=from_whole h4 (by omega)
   rw [hw] at hx ⊢
   cases m with
   | zero=>simp at hx
   | succ m =>
    rw [List.take_succ_cons] at hx
    rw [List.drop_succ_cons]
    by_cases hm:bs.take m=[]
    ·rw [hm] at hx
     simp at hx
     subst hx
     refine ⟨?_,by omega,by omega⟩
     rw [e1,List.filterMap_cons_none (fromB_none h1 (Int.le_refl _)),from_whole h4 (Int.le_refl _)]
     rcases List.take_eq_nil_iff.1 hm with h|h
     ·subst h;rfl
     ·subst h;simp
    ·have hx2:(bs.take m).getLast? = some x:=by
      rw [List.getLast?_cons] at hx
      cases hq:(bs.take m).getLast? with
      | none=>exact absurd (List.getLast?_eq_none_iff.1 hq) hm
      | some y=>rw [hq] at hx;simpa using hx
     have hlen:0<(bs.take m).length:=List.length_pos_iff.2 hm
     rw [List.length_take] at hlen
     rw [List.getLast?_eq_getElem?,List.length_take] at hx2
     have hjl:min m bs.length-1<bs.length:=by omega
     rw [List.getElem?_take_of_lt (by omega),List.getElem?_eq_getElem hjl] at hx2
     simp only [Option.some.injEq] at hx2
     subst hx2
     have hb2:=bs_base h4 _ (List.getElem_mem hjl)
     obtain ⟨t1,-,-,-,-⟩:=span_le _ (h4.valid _ (List.getElem_mem hjl)).1
     refine ⟨?_,by omega,by omega⟩
     rw [List.filterMap_cons_none (fromB_none h1 (by omega)),from_skip h4 _ hjl]
     by_cases hml:m≤bs.length
     ·have:min m bs.length-1+1=m:=by omega
      rw [this]
     ·rw [List.drop_eq_nil_of_le (by omega),List.drop_eq_nil_of_le (by omega)]
theorem allB_ok:∀ {n:Int} {l:List SegA},0≤n→SegsOk n l→BsOk n (allB l)
 | _,[],_,_=>trivial
 | n,s::l,hn,⟨h1,h2,h3⟩=>by
  have e1:allB (s::l)=s.bs++allB l:=by simp [allB]
  have hr:=reach_le h2
  have hb:=h2.base
  rw [e1]
  refine BsOk.append hn (h2.bs.mono h1) ((allB_ok (by omega) h3).mono ?_)
  omega
theorem allB_le_next {l:List SegA} (h:SegsOk 0 l):∀ b ∈ allB l,b.base+spanB b≤nextL l:=by
 intro b hb
 obtain ⟨s,hs,hbs⟩:=List.mem_flatMap.1 hb
 have h1:=(h.mem s hs).1
 have h2:=h1.bs.le_next hbs
 have h3:=reach_le h1
 obtain ⟨i,hi,rfl⟩:=List.mem_iff_getElem.1 hs
 have hne:l≠[]:=List.ne_nil_of_mem hs
 obtain ⟨l0,t,rfl⟩:=snoc_of hne
 rw [nextL_snoc]
 by_cases hil:i=l0.length
 ·subst hil
  have e:(l0++[t])[l0.length]=t:=by simp
  rw [e] at h2 h3
  omega
 ·have hil2:i<l0.length:=by simp at hi;omega
  have h4:=(h.skip i l0.length (by simp) hil2).1
  have e:(l0++[t])[l0.length]=t:=by simp
  rw [e] at h4
  have h5:=reach_le (h.mem t (by simp)).1
  omega
theorem from_next {l:List SegA} (h:SegsOk 0 l):(allB l).filterMap (fromB (nextL l))=[] :=
 filterMap_none fun b hb=>by
  obtain ⟨s,hs,hbs⟩:=List.mem_flatMap.1 hb
  exact fromB_none ((h.mem s hs).1.bs.valid b hbs).1 (allB_le_next h b hb)
theorem replay_last (seg:Int) (bs:List BatM):firstG (replay seg bs)=0∧(replay seg bs=[]∨∃ b,(allB (replay seg bs)).getLast? = some b∧b.base+spanB b=nextL (replay seg bs)):=by
 induction bs using snoc_ind with
 | h0=>exact ⟨rfl,.inl rfl⟩
 | h1 bs b ih =>
  rw [replay_snoc]
  have hs:=(replay_segs seg bs).1
  by_cases hp:(placeL (nextL (replay seg bs)) [b]).1=0
  ·obtain ⟨g1,g2⟩:=rapp_all (seg:=seg) hs (by simp) hp
   rw [place_one _ _ hp] at g1 g2
   refine ⟨?_,.inr ⟨(b.to (nextL (replay seg bs))).p,by rw [g1];simp,by rw [g2];rfl⟩⟩
   unfold rappA
   rw [if_neg (by simp),if_neg (by rw [hp];simp)]
   simp only
   split
   ·rename_i hr
    have hne:replay seg bs≠[]:=by intro h0;rw [h0] at hr;cases hr
    obtain ⟨l0,t,hl⟩:=snoc_of hne
    have ih1:=ih.1
    rw [hl] at ih1 ⊢
    rw [addLast_snoc]
    cases l0 with
    | nil=>exact ih1
    | cons a l0=>exact ih1
   ·by_cases h0:replay seg bs=[]
    ·rw [h0];rfl
    ·obtain ⟨a,l0,hl⟩:=List.exists_cons_of_ne_nil h0
     have ih1:=ih.1
     rw [hl] at ih1 ⊢
     exact ih1
  ·rw [(rapp_err (seg:=seg) (.inr hp)).1]
   exact ih
theorem from_more {seg:Int} {bs:List BatM} {off:Int} (h:off<nextL (replay seg bs)) (h0:0≤off):(allB (replay seg bs)).filterMap (fromB off)≠[]:=by
 rcases (replay_last seg bs).2 with h1|⟨b,h1,h2⟩
 ·rw [h1] at h;exact absurd h (by show ¬ off<0;omega)
 ·intro hn
  rw [List.filterMap_eq_nil_iff] at hn
  have hb:=List.mem_of_getLast? h1
  have:=hn b hb
  have hv:=((allB_ok (Int.le_refl 0) (replay_segs seg bs).1).valid b hb).1
  unfold fromB at this
  have hnx:nextB b=b.base+spanB b:=by unfold nextB;rw [if_neg (by rw [hv];simp)]
  rw [if_neg] at this
  ·split at this <;> cases this
  ·rintro (h3|h3)
   ·exact h3 hv
   ·omega
section
variable {w:World} {l r:List HP} {lg d:Nat} {D:DiskA} {A:LogA}
theorem one_c (k v:ByteArray) (hs:Sat w l):Ret P F.a99 #[.string k,.string v] w fun vs w'=>∃ x:Sl,vs=[.agg (encB7 (oneB k v x)).toArray]∧Sat w' (slc T.a3 4 x ((oneB k v x).rs.flatMap encR)::l) :=
 zf108_calls k v <| by
  unfold zf108
  refine wp_newO hs fun a0 w' hs=>?_
  refine wp_lits hs (enc:=encR) [(⟨k,v,false,0⟩:RecM)] fun x w' hs=>?_
  refine wp_stG hs fun w' hs=>?_
  refine wp_ldG hs ?_
  refine ⟨rfl,x,rfl,?_⟩
  have hs:Sat w' (pt a0 _::slc T.a3 4 x ((oneB k v x).rs.flatMap encR)::l):=hs
  exact hs.tail
theorem app1_c (b:BatM) (x:Sl) {r1:List HP} [hf:Fo l lgP lg A r1] [hf2:Fo r1 dk A.d D r] (hlen:A.l.length≤1000000) (hok:SegsOk 0 A.l) (hfl:∀ s ∈ A.l,s.file.length≤500000000)
  (hx:FocR r x 7 ([b].flatMap encB7)) (hb:FocR r b.x 4 (b.rs.flatMap encR)) (hs:Sat w l) :
  Ret P F.a48 #[.pointer (some ⟨lg,0,none⟩),x.v] w fun vs w'=>vs=[.int .i64 (lappA A.pre A.seg A.l D [b]).1.1,.int .i64 (lappA A.pre A.seg A.l D [b]).1.2] ∧
   Sat w' (lgP lg (A.set (lappA A.pre A.seg A.l D [b]).2.1)::dk A.d (lappA A.pre A.seg A.l D [b]).2.2::r) :=
 lappend_c x [b] hlen hok hfl (by show 1≤900;omega) hx (fun c hc=>by
  simp only [List.mem_cons,List.not_mem_nil,or_false] at hc
  subst hc
  exact hb) hs
theorem files_le {l:List SegA} {n:Nat} {ns:List Nat} (h:l.map (fun s=>s.file.length)=ns) (hn:∀ x ∈ ns,x≤n):∀ s ∈ l,s.file.length≤n:=fun s hs=>hn _ (by rw [← h];exact List.mem_map.2 ⟨s,hs,rfl⟩)
set_option maxHeartbeats 1000000 in
theorem awake6_c (hs:Sat w l):Ret P F.a96 #[] w fun vs w'=>vs=[.bool true]∧Sat w' l :=
 towpathlaw06_awake_calls <| by
  unfold towpathlaw06_awake
  refine wp_call (new_ok 1000 (by omega) hs) fun _ w' hs=>?_
  obtain ⟨d,rfl,hs⟩:=hs
  refine ⟨(some ⟨d,0,none⟩,0,()),rfl,trivial,wp_u2 _ _ ?_⟩
  refine wp_lt ?_
  have hs:Sat w' (dk d aD0::l):=hs
  refine wp_call (lopen_c (d:=d) (D:=aD0) aP 64 1 (by kernel_rfl) ⟨by decide,by decide⟩ rfl hs) fun _ w' hs=>?_
  rw [aw_open] at hs
  rcases hs with ⟨he,-,-⟩|⟨-,lg,rfl,hs⟩
  ·exact absurd rfl he
  refine ⟨(some ⟨lg,0,none⟩,0,()),rfl,trivial,wp_u2 _ _ ?_⟩
  refine wp_lt ?_
  refine wp_ifF ?_ (by simp)
  have hs:Sat w' (lgP lg ⟨d,aP,64,1,[]⟩::dk d aD0::l):=hs
  have step:∀ {w:World} {L:List SegA} {DD:DiskA} {X:List HP} (y x:Sl),Sat w (slc T.a1 7 x ([oneB (ByteArray.mk #[97]) (ByteArray.mk #[120]) y].flatMap encB7)::slc T.a3 4 y ((oneB (ByteArray.mk #[97]) (ByteArray.mk #[120]) y).rs.flatMap encR)::lgP lg ⟨d,aP,64,1,L⟩::dk d DD::l)→L.length≤1000000→SegsOk 0 L→(∀ s ∈ L,s.file.length≤500000000) →
    Ret P F.a48 #[.pointer (some ⟨lg,0,none⟩),x.v] w fun vs w'=>vs=[.int .i64 (lappA aP 64 L DD [aB]).1.1,.int .i64 (lappA aP 64 L DD [aB]).1.2]∧Sat w' (lgP lg ⟨d,aP,64,1,(lappA aP 64 L DD [aB]).2.1⟩::dk d (lappA aP 64 L DD [aB]).2.2::l):=by
   intro w L DD X y x hs h1 h2 h3
   have h:=app1_c (lg:=lg) (A:=⟨d,aP,64,1,L⟩) (D:=DD) (oneB (ByteArray.mk #[97]) (ByteArray.mk #[120]) y) x h1 h2 h3 inferInstance (FocR.tail (h:=FocR.head):FocR (slc T.a1 7 x ([oneB (ByteArray.mk #[97]) (ByteArray.mk #[120]) y].flatMap encB7)::slc T.a3 4 y ((oneB (ByteArray.mk #[97]) (ByteArray.mk #[120]) y).rs.flatMap encR)::l) y 4 ((oneB (ByteArray.mk #[97]) (ByteArray.mk #[120]) y).rs.flatMap encR)) hs
   have e:lappA aP 64 L DD [oneB (ByteArray.mk #[97]) (ByteArray.mk #[120]) y]=lappA aP 64 L DD [aB]:=by
    rw [← lapp_p,← lapp_p aP 64 L DD [aB]]
    rfl
   refine h.mono fun vs w' ⟨hv,hs⟩=>⟨?_,?_⟩
   ·rw [hv]
    show [Value.int .i64 (lappA aP 64 L DD [oneB (ByteArray.mk #[97]) (ByteArray.mk #[120]) y]).1.1,Value.int .i64 (lappA aP 64 L DD [oneB (ByteArray.mk #[97]) (ByteArray.mk #[120]) y]).1.2]=_
    rw [e]
   ·have hs:Sat w' (lgP lg ⟨d,aP,64,1,(lappA aP 64 L DD [oneB (ByteArray.mk #[97]) (ByteArray.mk #[120]) y]).2.1⟩::dk d (lappA aP 64 L DD [oneB (ByteArray.mk #[97]) (ByteArray.mk #[120]) y]).2.2::slc T.a1 7 x ([oneB (ByteArray.mk #[97]) (ByteArray.mk #[120]) y].flatMap encB7)::slc T.a3 4 y ((oneB (ByteArray.mk #[97]) (ByteArray.mk #[120]) y).rs.flatMap encR)::l):=hs
    rw [e] at hs
    exact hs.sub
  refine wp_call (one_c _ _ hs) fun _ w' hs=>?_
  obtain ⟨y1,rfl,hs⟩:=hs
  refine ⟨(0,0,0,0,0,0,y1,()),rfl,trivial,wp_u7 _ _ _ _ _ _ _ ?_⟩
  refine wp_lits hs (enc:=encB7) [oneB (ByteArray.mk #[97]) (ByteArray.mk #[120]) y1] fun x1 w' hs=>?_
  refine wp_call (step (X:=[]) y1 x1 hs (by decide) trivial (fun s hs=>by cases hs)) fun _ w' hs=>?_
  obtain ⟨hv,hs⟩:=hs
  have hv:_=[Value.int .i64 aS1.1.1,Value.int .i64 aS1.1.2]:=hv
  have hs:Sat w' (lgP lg ⟨d,aP,64,1,aS1.2.1⟩::dk d aS1.2.2::l):=hs
  have k1:SegsOk 0 aS1.2.1:=lapp_segs trivial
  rw [aw_1] at hv
  subst hv
  refine ⟨(0,0,()),rfl,trivial,wp_u2 _ _ ?_⟩
  refine wp_lt ?_
  refine wp_lt ?_
  refine wp_call (one_c _ _ hs) fun _ w' hs=>?_
  obtain ⟨y2,rfl,hs⟩:=hs
  refine ⟨(0,0,0,0,0,0,y2,()),rfl,trivial,wp_u7 _ _ _ _ _ _ _ ?_⟩
  refine wp_lits hs (enc:=encB7) [oneB (ByteArray.mk #[97]) (ByteArray.mk #[120]) y2] fun x2 w' hs=>?_
  refine wp_call (step (X:=[]) y2 x2 hs (by rw [aw_l1.1];decide) k1 (files_le aw_l1.2 (by simp))) fun _ w' hs=>?_
  obtain ⟨hv,hs⟩:=hs
  have hv:_=[Value.int .i64 aS2.1.1,Value.int .i64 aS2.1.2]:=hv
  have hs:Sat w' (lgP lg ⟨d,aP,64,1,aS2.2.1⟩::dk d aS2.2.2::l):=hs
  have k2:SegsOk 0 aS2.2.1:=lapp_segs k1
  rw [aw_2] at hv
  subst hv
  refine ⟨(1,0,()),rfl,trivial,wp_u2 _ _ ?_⟩
  refine wp_lt ?_
  refine wp_lt ?_
  refine wp_call (one_c _ _ hs) fun _ w' hs=>?_
  obtain ⟨y3,rfl,hs⟩:=hs
  refine ⟨(0,0,0,0,0,0,y3,()),rfl,trivial,wp_u7 _ _ _ _ _ _ _ ?_⟩
  refine wp_lits hs (enc:=encB7) [oneB (ByteArray.mk #[97]) (ByteArray.mk #[120]) y3] fun x3 w' hs=>?_
  refine wp_call (step (X:=[]) y3 x3 hs (by rw [aw_l2.1];decide) k2 (files_le aw_l2.2 (by simp))) fun _ w' hs=>?_
  obtain ⟨hv,hs⟩:=hs
  have hv:_=[Value.int .i64 aS3.1.1,Value.int .i64 aS3.1.2]:=hv
  have hs:Sat w' (lgP lg ⟨d,aP,64,1,aS3.2.1⟩::dk d aS3.2.2::l):=hs
  rw [aw_3] at hv
  subst hv
  refine ⟨(2,0,()),rfl,trivial,wp_u2 _ _ ?_⟩
  refine wp_lt ?_
  refine wp_lt ?_
  obtain ⟨M,hM,hs⟩:=lgP_open hs
  have hMl:M.l=aS3.2.1:=congrArg LogA.l hM
  have hMd:M.d=d:=congrArg LogA.d hM
  refine wp_call (segments_c (lg:=lg) (by have:=aw_l3;rw [← hMl] at this;have h2:M.l.length=M.SM.length:=List.length_map ..;omega) hs) fun _ w' hs=>?_
  obtain ⟨z,rfl,hs⟩:=hs
  refine ret_of ?_
  rw [hMl,aw_segs] at hs
  have hlz:=hs.slen z (xs:=([0,2]:List Int)) (enc:=encI)
  obtain ⟨p,hp,hpf⟩:∃ p,fileD aS3.2.2.fs (ByteArray.mk #[112,45,48,48,48,48,48,48,48,48,48,48,48,46,108,111,103])=some p∧(p.1.length,p.1[0]?,p.1[4]?)=(53,some 3,some 83):=by
   have:=aw_file
   rw [Option.map_eq_some_iff] at this
   exact this
  simp only [Prod.mk.injEq] at hpf
  obtain ⟨q1,q2,q3⟩:=hpf
  refine wp_call (read_f (d:=d) (D:=aS3.2.2) _ p hp hs) fun _ w' hs=>?_
  obtain ⟨u,rfl,hs⟩:=hs
  refine ⟨(u,0,()),rfl,trivial,wp_u2 _ _ ?_⟩
  refine wp_lt ?_
  have hlu:=hs.slen u (xs:=p.1) (enc:=encU)
  have hq2:(p.1[0]'(by omega))=3:=by
   rw [List.getElem?_eq_getElem (by omega)] at q2;exact Option.some.inj q2
  have hq3:(p.1[4]'(by omega))=83:=by
   rw [List.getElem?_eq_getElem (by omega)] at q3;exact Option.some.inj q3
  refine wp_ix1k hs (xs:=([0,2]:List Int)) (enc:=encI) 1 (by decide) ?_
  refine wp_ix1k hs (xs:=p.1) (enc:=encU) 0 (by omega) ?_ (by omega)
  refine wp_ix1k hs (xs:=p.1) (enc:=encU) 4 (by omega) ?_
  refine wp_lt ?_
  refine ⟨rfl,?_,hs.sub⟩
  rw [hq2,hq3,hlz,hlu,q1]
  rfl
theorem nil_append (x:Sl) (hs:Sat w l):Ret P F.a48 #[.pointer none,x.v] w fun vs w'=>vs=[.int .i64 0,.int .i64 1]∧Sat w' l :=
 zf56_calls _ x <| by
  unfold zf56
  refine wp_ifT ?_ (by rfl)
  exact ⟨rfl,rfl,hs⟩
end
section
variable {w:World} {l r:List HP}
theorem rf_new {a:Nat} {seg gap:Int} (hs:Sat w (pt a (.cells #[.int .i64 seg,.int .i64 gap,.slice none 0 0] T.a32)::l)):Sat w (rfP a ⟨seg,gap,[]⟩::l):=by
 have h1:Sat w (slc T.a33 3 ⟨none,0,0⟩ (([]:List SegR).flatMap encSR)::HP.all (([]:List SegR).map rsgP)::pt a (.cells #[.int .i64 seg,.int .i64 gap,.slice none 0 0] T.a32)::l):=(Sat.all_nil hs).slc_nil
 exact rf_close ⟨seg,gap,[]⟩ (z:=⟨none,0,0⟩) (h1.pick [2])
end
def InP (pool:List BatM) (R:RefM):Prop:=∀ b ∈ R.bs,∃ c ∈ pool,b.x=c.x∧b.rs=c.rs
structure Grw (pre:ByteArray) (D:DiskA) (l':List SegA) (D':DiskA):Prop where
 cpl:Cpl pre l' D'
 fr:Fr pre D D'
 calm:Calm D'
 used:used D'.fs≤used D.fs+705
 len:D'.fs.length≤D.fs.length+1
theorem bats_put2 {w:World} {l:List HP} {outs:List BatM} {b:BatM} {z:Sl} (hs:Sat w (slc T.a3 4 z (b.rs.flatMap encR)::batsP outs::l)):Sat w (batsP (outs++[b.at z])::l):=bats_put (b:=b.at z) hs
theorem InP.rd {pool:List BatM} {R:RefM} {l:List HP} (h:InP pool R):∀ b ∈ R.bs,FocR (batsP pool::l) b.x 4 (b.rs.flatMap encR):=fun b hb=>by
 obtain ⟨c,hc,e1,e2⟩:=h b hb
 rw [e1,e2]
 exact bats_rd hc
theorem InP.more {pool:List BatM} {R:RefM} (h:InP pool R) (x:BatM):InP (pool++[x]) R:=fun b hb=>by
 obtain ⟨c,hc,e⟩:=h b hb
 exact ⟨c,List.mem_append_left _ hc,e⟩
theorem InP.app {pool:List BatM} {R R':RefM} {b0:BatM} {z:Sl} (h:InP pool R) (hR:∀ b ∈ R'.bs,b ∈ R.bs∨(b.x=z∧b.rs=(smallB b0).rs)):InP (pool++[(smallB b0).at z]) R':=fun b hb=>by
 rcases hR b hb with h1|⟨h1,h2⟩
 ·exact h.more _ b h1
 ·exact ⟨(smallB b0).at z,by simp,h1,h2⟩
abbrev qP:ByteArray:=ByteArray.mk #[113]
abbrev qqP:ByteArray:=ByteArray.mk #[113,113]
theorem qP_ok:preS qP=true:=by kernel_rfl
theorem qqP_ok:preS qqP=true:=by kernel_rfl
theorem q_ne:qP≠qqP:=fun h=>by have:=congrArg ByteArray.size h;cases this
structure ApP (s:Int) (k:Nat) (D:DiskA) (R S:RefM) (pool:List BatM):Prop where
 rs:R.seg=s
 ss:S.seg=s
 c1:Cpl qP R.l D
 c2:Cpl qqP S.l D
 calm:Calm D
 room:D.room=1048576
 used:used D.fs≤705*k
 len:D.fs.length≤k
 in1:InP pool R
 in2:InP pool S
theorem ApP.left {s:Int} {k:Nat} {D D':DiskA} {R R' S:RefM} {pool:List BatM} {b0:BatM} {z:Sl} (h:ApP s k D R S pool) (hg:Grw qP D R'.l D') (h1:R'.seg=R.seg) (hR:∀ b ∈ R'.bs,b ∈ R.bs∨(b.x=z∧b.rs=(smallB b0).rs)):ApP s (k+1) D' R' S (pool++[(smallB b0).at z]) :=
 ⟨h1.trans h.rs,h.ss,hg.cpl,h.c2.frame hg.cpl.ok qP_ok qqP_ok q_ne hg.fr,hg.calm,hg.fr.room.trans h.room,by have:=hg.used;have:=h.used;omega,by have:=hg.len;have:=h.len;omega,h.in1.app hR,h.in2.more _⟩
theorem ApP.right {s:Int} {k:Nat} {D D':DiskA} {R S S':RefM} {pool:List BatM} {b0:BatM} {z:Sl} (h:ApP s k D R S pool) (hg:Grw qqP D S'.l D') (h1:S'.seg=S.seg) (hR:∀ b ∈ S'.bs,b ∈ S.bs∨(b.x=z∧b.rs=(smallB b0).rs)):ApP s (k+1) D' R S' (pool++[(smallB b0).at z]) :=
 ⟨h.rs,h1.trans h.ss,h.c1.frame hg.cpl.ok qqP_ok qP_ok q_ne.symm hg.fr,hg.cpl,hg.calm,hg.fr.room.trans h.room,by have:=hg.used;have:=h.used;omega,by have:=hg.len;have:=h.len;omega,h.in1.more _,h.in2.app hR⟩
theorem ApP.free {s:Int} {k:Nat} {D:DiskA} {R S:RefM} {pool:List BatM} (h:ApP s k D R S pool) (hk:k≤100):705≤D.free:=by
 have:=h.used
 have:=h.room
 unfold DiskA.free
 omega
theorem recF_cases (r:RecM):recF r=0∨recF r=2∨recF r=7:=by
 unfold recF
 split
 ·exact .inr (.inr rfl)
 split
 ·exact .inr (.inl rfl)
 ·exact .inl rfl
theorem badF_cases:∀ rs:List RecM,badF rs=0∨badF rs=2∨badF rs=7
 | []=>.inl rfl
 | r::rs=>by
  unfold badF
  split
  ·exact recF_cases r
  ·exact badF_cases rs
theorem validB_cases (b:BatM):validB b=0∨validB b=2∨validB b=7∨validB b=24:=by
 unfold validB
 split
 ·exact .inr (.inl rfl)
 split
 ·exact .inr (.inr (.inl rfl))
 split
 ·have:=badF_cases b.rs
  omega
 split
 ·exact .inr (.inr (.inr rfl))
 ·exact .inl rfl
theorem place_cases:∀ (bs:List BatM) (n:Int),(placeL n bs).1=0∨(placeL n bs).1=2∨(placeL n bs).1=7∨(placeL n bs).1=24
 | [],n=>.inl rfl
 | b::bs,n=>by
  unfold placeL
  split
  ·exact validB_cases _
  split
  ·exact place_cases bs _
  ·exact .inl rfl
def encBo (b:Bool):List Value:=[.bool b]
instance:Enc1 encBo .bool (fun b=>b):=⟨fun _=>rfl⟩
instance:EncN encBo 1:=⟨fun _=>rfl,by decide,by simp [encBo,Value.oneCell']⟩
section
variable {w:World} {l r:List HP} {lg a:Nat} {A:LogA} {D:DiskA} {R:RefM}
theorem lsyncP_c {r1:List HP} [hf:Fo l lgP lg A r1] [hf2:Fo r1 dk A.d D r] (hlen:A.l.length≤1000000000) (hok:SegsOk 0 A.l) (hs:Sat w l) :
  Ret P F.a55 #[.pointer (some ⟨lg,0,none⟩)] w fun vs w'=>vs=[.int .i64 (lsyncA A.pre A.l D).1]∧Sat w' (lgP lg A::dk A.d (lsyncA A.pre A.l D).2::r):=by
 have hs:=hs.perm (hf.perm.trans (.cons _ hf2.perm))
 clear hf hf2
 obtain ⟨M,rfl,hs⟩:=lgP_open hs
 have hll:M.l.length=M.SM.length:=List.length_map ..
 have hMl:M.A.l=M.l:=rfl
 rw [hMl] at hlen hok
 have hs:Sat w (lgQ lg M::dk M.d D::r):=hs
 refine (lsync_c (lg:=lg) (M:=M) (D:=D) (by omega) hok hs).mono fun vs w' h=>?_
 obtain ⟨h1,h2⟩:=h
 exact ⟨h1,lgP_close M h2⟩
theorem okR_in {pool:List BatM} (hsegs:SegsOk 0 R.l) (h1:R.SR.length≤1000000) (h2:R.bs.length≤1000000) (hin:InP pool R):okR R (batsP pool::l):=⟨hsegs,hin.rd,h1,h2⟩
structure FilI (s:Int) (k:Nat) (D:DiskA) (l:List SegA) (R:RefM) (pool:List BatM) (n:Nat) (C:Prop):Prop where
 cpl:Cpl qP l D
 syn:SynP qP l D n
 rseg:R.seg=4194304
 segs:SegsOk 0 R.l
 srl:R.SR.length≤k
 brl:R.bs.length≤k
 all:R.bs.map BatM.p=allB l
 next:nextL R.l=nextL l
 rep:l=replay s (allB l)
 room:D.room=1048576
 used:used D.fs≤705*k
 len:D.fs.length≤k
 in1:InP pool R
 calm:C→Calm D
structure FilE (s:Int) (D:DiskA) (l:List SegA) (outs pool:List BatM) (n:Nat) (C:Prop):Prop where
 cpl:Cpl qP l D
 syn:SynP qP l D n
 told:outs.map BatM.p=allB l∨(D.gone=true∧∃ b,outs.map BatM.p=allB l++[b])
 rep:l=replay s (allB l)
 room:D.room=1048576
 used:used D.fs≤14805
 len:D.fs.length≤21
 num:outs.length≤21
 in1:∀ b ∈ outs,∃ c ∈ pool,b.x=c.x∧b.rs=c.rs
 calm:C→Calm D∧outs.map BatM.p=allB l
theorem FilI.free {s:Int} {k n:Nat} {l:List SegA} {pool:List BatM} {C:Prop} (h:FilI s k D l R pool n C) (hk:k≤100):705≤D.free:=by
 have:=h.used
 have:=h.room
 unfold DiskA.free
 omega
theorem FilI.done {s:Int} {k n:Nat} {l:List SegA} {pool:List BatM} {C:Prop} (h:FilI s k D l R pool n C) (hk:k≤20):FilE s D l R.bs pool n C :=
 ⟨h.cpl,h.syn,.inl h.all,h.rep,h.room,by have:=h.used;omega,by have:=h.len;omega,by have:=h.brl;omega,h.in1,fun c=>⟨h.calm c,h.all⟩⟩
theorem FilI.step {s:Int} {k n:Nat} {l:List SegA} {pool:List BatM} {C:Prop} {R':RefM} {b0:BatM} {z z':Sl} (h:FilI s k D l R pool n C) (hk:k≤100)
  (h1:(lappA qP s l D [(smallB b0).at z]).1=(rappA s l [(smallB b0).at z]).1) (h2:(lappA qP s l D [(smallB b0).at z]).2.1=(rappA s l [(smallB b0).at z]).2)
  (r1:R'.seg=R.seg) (r2:R'.l=(rappA R.seg R.l [(smallB b0).at z']).2) (r3:R'.SR.length≤R.SR.length+1) (r4:R'.bs.length≤R.bs.length+1) (r5:∀ b ∈ R'.bs,b ∈ R.bs∨(b.x=z'∧b.rs=(smallB b0).rs)) :
  FilI s (k+1) (lappA qP s l D [(smallB b0).at z]).2.2 (lappA qP s l D [(smallB b0).at z]).2.1 R' (pool++[(smallB b0).at z']) n C:=by
 have hst:=lapp_stp s [(smallB b0).at z] qP_ok h.cpl
 have hsy:=h.syn.app (seg:=s) (bs:=[(smallB b0).at z]) qP_ok h.cpl
 have hsum:=sum_rapp (seg:=s) (l:=l) (bs:=[(smallB b0).at z])
 have hsm:=place_small b0 z (nextL l)
 have hsl:=shL_len (nextL l) 0
 have hR:R'.bs.map BatM.p=allB R'.l:=by rw [allB_l]
 have hRR:R.bs.map BatM.p=allB R.l:=by rw [allB_l]
 have hrall:allB R.l=allB l:=hRR.symm.trans h.all
 have er:rappA R.seg R.l [(smallB b0).at z']=rappA R.seg R.l [(smallB b0).at z]:=rapp_small _ _ _ _ _
 rw [er] at r2
 have hsegR:SegsOk 0 R'.l:=by rw [r2];exact rapp_segs h.segs
 have hallN:allB R'.l=allB (rappA s l [(smallB b0).at z]).2∧nextL R'.l=nextL (rappA s l [(smallB b0).at z]).2∧(rappA s l [(smallB b0).at z]).2=replay s (allB (rappA s l [(smallB b0).at z]).2):=by
  by_cases hp:(placeL (nextL l) [(smallB b0).at z]).1=0
  ·obtain ⟨g1,g2⟩:=rapp_all (seg:=s) h.cpl.segs (by simp) hp
   obtain ⟨g3,g4⟩:=rapp_all (seg:=R.seg) (bs:=[(smallB b0).at z]) h.segs (by simp) (by rw [h.next];exact hp)
   rw [h.next] at g3 g4
   rw [r2]
   refine ⟨by rw [g1,g3,hrall],by rw [g2,g4],?_⟩
   rw [g1,place_one _ _ hp]
   show _=replay s (allB l++[(((smallB b0).at z).to (nextL l)).p])
   rw [replay_snoc,← h.rep,rapp_to]
  ·obtain ⟨g1,-⟩:=rapp_err (seg:=s) (l:=l) (bs:=[(smallB b0).at z]) (.inr hp)
   obtain ⟨g3,-⟩:=rapp_err (seg:=R.seg) (l:=R.l) (bs:=[(smallB b0).at z]) (.inr (by rw [h.next];exact hp))
   rw [r2,g1,g3]
   exact ⟨hrall,h.next,h.rep⟩
 rw [h2] at hst hsy ⊢
 have hu:=hst.2.2.1
 have hl:=hst.2.2.2.1
 have hll:(rappA s l [(smallB b0).at z]).2.length≤l.length+1:=by
  unfold rappA
  split
  ·simp
  split
  ·simp
  ·simp only
   split
   ·rename_i hr
    have hne:l≠[]:=by rintro rfl;cases hr
    obtain ⟨l0,t,rfl⟩:=snoc_of hne
    rw [addLast_snoc];simp
   ·simp
 have hlen2:(lappA qP s l D [(smallB b0).at z]).2.2.fs.length≤D.fs.length+1:=by
  unfold lappA
  split
  ·simp only;omega
  split
  ·simp only;omega
  split
  ·split <;> exact append_len.1
  ·obtain ⟨-,-,-,s4,-⟩:=lsync_all h.cpl
   split
   ·simp only;omega
   split
   ·simp only
    have:=(append_len (A:=(lsyncA qP l D).2) (n:=nameS qP (nextL l) logX) (bs:=shL (nextL l) 0++(placeL (nextL l) [(smallB b0).at z]).2.flatMap frL)).1
    omega
   ·simp only
    have:=(append_len (A:=(lsyncA qP l D).2) (n:=nameS qP (nextL l) logX) (bs:=shL (nextL l) 0++(placeL (nextL l) [(smallB b0).at z]).2.flatMap frL)).1
    omega
 exact ⟨hst.1,hsy,r1.trans h.rseg,hsegR,by have:=h.srl;omega,by have:=h.brl;omega,by rw [hR];exact hallN.1,hallN.2.1,hallN.2.2,hst.2.1.room.trans h.room,by have:=h.used;omega,by have:=h.len;omega,h.in1.app r5,fun c=>hst.2.2.2.2 (h.calm c)⟩
theorem FilI.fail {s:Int} {k n:Nat} {l:List SegA} {pool:List BatM} {C:Prop} {R':RefM} {b0:BatM} {z z':Sl} (h:FilI s k D l R pool n C) (hk:k<20)
  (h1:(lappA qP s l D [(smallB b0).at z]).2.1=l) (h2:(lappA qP s l D [(smallB b0).at z]).2.2.gone=true)
  (r2:R'.l=(rappA R.seg R.l [(smallB b0).at z']).2) (r4:R'.bs.length≤R.bs.length+1) (r5:∀ b ∈ R'.bs,b ∈ R.bs∨(b.x=z'∧b.rs=(smallB b0).rs)) :
  FilE s (lappA qP s l D [(smallB b0).at z]).2.2 l R'.bs (pool++[(smallB b0).at z']) n C:=by
 have hst:=lapp_stp s [(smallB b0).at z] qP_ok h.cpl
 have hsy:=h.syn.app (seg:=s) (bs:=[(smallB b0).at z]) qP_ok h.cpl
 rw [h1] at hst hsy
 have hR:R'.bs.map BatM.p=allB R'.l:=by rw [allB_l]
 have hRR:R.bs.map BatM.p=allB R.l:=by rw [allB_l]
 have hrall:allB R.l=allB l:=hRR.symm.trans h.all
 have hu:=hst.2.2.1
 have hl:=hst.2.2.2.1
 refine ⟨hst.1,hsy,?_,h.rep,hst.2.1.room.trans h.room,by have:=h.used;omega,by have:=h.len;omega,by have:=h.brl;omega,h.in1.app r5,fun c=>?_⟩
 ·by_cases hp:(placeL (nextL R.l) [(smallB b0).at z']).1=0
  ·obtain ⟨g3,-⟩:=rapp_all (seg:=R.seg) (bs:=[(smallB b0).at z']) h.segs (by simp) hp
   refine .inr ⟨h2,?_⟩
   rw [hR,r2,g3,place_one _ _ hp,hrall]
   exact ⟨_,rfl⟩
  ·obtain ⟨g3,-⟩:=rapp_err (seg:=R.seg) (l:=R.l) (bs:=[(smallB b0).at z']) (.inr hp)
   refine .inl ?_
   rw [hR,r2,g3,hrall]
 ·have:=(hst.2.2.2.2 (h.calm c)).gone
  rw [this] at h2;cases h2
set_option maxHeartbeats 1000000 in
theorem filled_c (d:Nat) (x sy:Sl) (bs:List BatM) (ss:List Bool) (s g:Int) (C:Prop) [hf:Fo l dk d D r] (hgone:D.gone=false) (hD:Cpl qP [] D) (hroom:D.room=1048576) (hused:used D.fs=0) (hlen0:D.fs.length=0) (hC:C→Calm D) (hcfg:okCfg s g)
  (hx:FocR r x 7 (bs.flatMap encB7)) (hbs:∀ b ∈ bs,FocR r b.x 4 (b.rs.flatMap encR)) (hsy:FocR r sy 1 (ss.flatMap encBo)) (hs:Sat w l) :
  Ret P F.a98 #[.pointer (some ⟨d,0,none⟩),.agg #[.int .i64 s,.int .i64 g],x.v,sy.v] w fun vs w' =>
   ∃ (lg:Nat) (y:Sl) (outs:List BatM) (n:Nat) (D':DiskA) (l':List SegA) (pool:List BatM),vs=[.pointer (some ⟨lg,0,none⟩),y.v,.int .i64 (n:Nat)]∧FilE s D' l' outs pool n C ∧
    Sat w' (lgP lg ⟨d,qP,s,g,l'⟩::dk d D'::slc T.a1 7 y (outs.flatMap encB7)::batsP pool::r) :=
 zf107_calls _ s g x sy <| by
  unfold zf107
  have hs:=hs.perm hf.perm
  clear hf
  have hlx:=hs.slen x (xs:=bs) (enc:=encB7)
  have hly:=hs.slen sy (xs:=ss) (enc:=encBo)
  refine wp_boxO hs fun a0 w' hs=>?_
  refine wp_ldG hs ?_
  refine wp_call (lopen_c (d:=d) (D:=D) qP s g qP_ok hcfg hgone hs) fun _ w' hs=>?_
  rw [hD.opened] at hs
  rcases hs with ⟨he,-,-⟩|⟨-,lg,rfl,hs⟩
  ·exact absurd rfl he
  have hs:Sat w' (lgP lg ⟨d,qP,s,g,[]⟩::dk d D::pt a0 (.cells #[.int .i64 s,.int .i64 g] T.a27)::r):=hs
  refine ⟨(some ⟨lg,0,none⟩,0,()),rfl,trivial,wp_u2 _ _ ?_⟩
  refine wp_lt ?_
  refine wp_ifF ?_ (by simp)
  refine wp_boxO hs fun a6 w' hs=>?_
  have hs:=rf_new hs
  refine wp_mid (fun q w'=>∃ (R:RefM) (D':DiskA) (l':List SegA) (pool:List BatM) (n:Nat),q=((n:Int),())∧FilE s D' l' R.bs pool n C∧SegsOk 0 R.l∧R.SR.length≤1000∧Sat w' (lgP lg ⟨d,qP,s,g,l'⟩::dk d D'::rfP a6 R::batsP pool::r)) ?_ ?_
  rotate_left
  ·clear hs
   rintro _ w ⟨R,D',l',pool,n,rfl,hE,hsegs,hsr,hs⟩
   refine wp_on ?_
   have hok:okR R (batsP pool::r):=okR_in hsegs (by omega) (by have:=hE.num;omega) hE.in1
   refine wp_call (rall_c (a:=a6) (R:=R) hs) fun _ w' hs=>?_
   obtain ⟨y,rfl,hs⟩:=hs
   refine ret_of ?_
   refine wp_lt ?_
   have hs:Sat w' (slc T.a1 7 y (R.bs.flatMap encB7)::rfP a6 R::lgP lg ⟨d,qP,s,g,l'⟩::dk d D'::batsP pool::r):=hs
   exact ⟨rfl,lg,y,R.bs,n,D',l',pool,rfl,hE,hs.sub⟩
  have hs:Sat w' (lgP lg ⟨d,qP,s,g,[]⟩::dk d D::rfP a6 ⟨4194304,1,[]⟩::batsP []::r):=by
   have h1:Sat w' (lgP lg ⟨d,qP,s,g,[]⟩::dk d D::rfP a6 ⟨4194304,1,[]⟩::r):=hs.sub
   exact (bats_nil h1).pick [1,1,1]
  have hI:FilI s 0 D [] ⟨4194304,1,[]⟩ [] 0 C:=⟨hD,⟨Nat.le_refl _,fun l0 t e=>by simp at e⟩,rfl,trivial,Nat.le_refl _,Nat.le_refl _,rfl,rfl,rfl,hroom,by omega,by omega,(fun b hb=>by cases hb),hC⟩
  refine wp_loop (fun m v w=>∃ (i n:Nat) (D':DiskA) (l':List SegA) (R:RefM) (pool:List BatM),v=((n:Int),((i:Int),()))∧i≤bs.length∧i≤20∧bs.length-i=m∧FilI s i D' l' R pool n C∧Sat w (lgP lg ⟨d,qP,s,g,l'⟩::dk d D'::rfP a6 R::batsP pool::r)) bs.length ⟨0,0,_,_,_,_,rfl,by omega,by omega,rfl,hI,hs⟩ ?_
  clear hs hI hD hroom hused hlen0 hC hgone
  rintro m _ w ⟨i,n,D,l',R,pool,rfl,hi,hi20,hm,hI,hs⟩
  have hstop:Sat w (lgP lg ⟨d,qP,s,g,l'⟩::dk d D::rfP a6 R::batsP pool::r)→∃ (R:RefM) (D':DiskA) (l':List SegA) (pool:List BatM) (n':Nat),(((n:Int),()):Int × Unit)=((n':Int),())∧FilE s D' l' R.bs pool n' C∧SegsOk 0 R.l∧R.SR.length≤1000∧Sat w (lgP lg ⟨d,qP,s,g,l'⟩::dk d D'::rfP a6 R::batsP pool::r):=fun hs=>⟨R,D,l',pool,n,rfl,hI.done hi20,hI.segs,by have:=hI.srl;omega,hs⟩
  refine wp_on ?_
  refine wp_if (fun hc=>?_) fun hc=>?_
  rotate_left
  ·exact wp_pass (wp_lv (hstop hs))
  have hil:i<bs.length:=by omega
  have hRb:=hbs _ (List.getElem_mem hil)
  have hok:okR R (batsP pool::r):=okR_in hI.segs (by have:=hI.srl;omega) (by have:=hI.brl;omega) hI.in1
  refine wp_ixA hs (xs:=bs) (enc:=encB7) i hil ?_
  refine wp_newO hs fun a18 w' hs=>?_
  refine wp_lt ?_
  refine wp_stG hs fun w' hs=>?_
  refine wp_if (fun h20=>?_) fun h20=>?_
  ·have hs:Sat w' (lgP lg ⟨d,qP,s,g,l'⟩::dk d D::rfP a6 R::batsP pool::r):=hs.tail
   exact wp_pass (wp_lv ⟨R,D,l',pool,n,rfl,hI.done hi20,hI.segs,by have:=hI.srl;omega,hs⟩)
  refine wp_ldG hs ?_
  refine wp_call (small_c bs[i] hs) fun _ w' hs=>?_
  obtain ⟨z1,rfl,hs⟩:=hs
  refine ⟨(bs[i].base,bs[i].pid,bs[i].epoch,bs[i].seq,bs[i].kind,bs[i].time,z1,()),rfl,trivial,wp_u7 _ _ _ _ _ _ _ ?_⟩
  refine wp_newO hs fun a34 w' hs=>?_
  refine wp_stG hs fun w' hs=>?_
  have hs:Sat w' (pt a34 (.cells (cZ bs[i] z1) T.a1)::slc T.a3 4 z1 ((smallB bs[i]).rs.flatMap encR)::lgP lg ⟨d,qP,s,g,l'⟩::dk d D::rfP a6 R::batsP pool::r):=hs.sub
  have hfr:=hI.free (by omega)
  have hlen:=hI.len
  generalize hb0:bs[i]=b0 at *
  refine wp_mid (fun q w'=>q=((placeL (nextL R.l) [(smallB b0).at z1]).1,())∧Sat w' (pt a34 (.cells (cZ b0 z1) T.a1)::slc T.a3 4 z1 ((smallB b0).rs.flatMap encR)::lgP lg ⟨d,qP,s,g,l'⟩::dk d D::rfP a6 R::batsP pool::r)) ?_ ?_
  ·refine wp_tk hs fun w' hs=>?_
   obtain ⟨zR,hs⟩:=rf_open (hs.pick [4])
   have hfin:∀ {w:World},Sat w (pt a6 (.cells #[.int .i64 R.seg,.int .i64 R.gap,.slice zR.a zR.len zR.cap] T.a32)::slc T.a33 3 zR (R.SR.flatMap encSR)::HP.all (R.SR.map rsgP)::pt a34 (.cells (cZ b0 z1) T.a1)::slc T.a3 4 z1 ((smallB b0).rs.flatMap encR)::lgP lg ⟨d,qP,s,g,l'⟩::dk d D::batsP pool::r)→Sat w (pt a34 (.cells (cZ b0 z1) T.a1)::slc T.a3 4 z1 ((smallB b0).rs.flatMap encR)::lgP lg ⟨d,qP,s,g,l'⟩::dk d D::rfP a6 R::batsP pool::r):=fun hs=>by
    have h1:=rf_close R hs
    exact h1.sub
   refine wp_hdO hs ?_
   refine wp_hdG hs ?_
   refine wp_both ?_ ?_
   ·refine wp_boxO hs fun a43 w' hs=>?_
    refine wp_litS hs (enc:=encB7) [(smallB b0).at z1] fun y1 w' hs=>⟨(by first|trivial|(repeat (first|exact trivial|exact fun _=>run_ldO hs|exact fun _=>run_ldG hs|refine And.intro ?_ ?_))),?_⟩
    refine wp_untick ?_
    have hbF:∀ c ∈ [(smallB b0).at z1],FocR (slc T.a1 7 y1 ([(smallB b0).at z1].flatMap encB7)::pt a43 (.cells #[.int .i64 0,.int .i64 0,.slice zR.a zR.len zR.cap] T.a32)::pt a6 (.cells #[.int .i64 R.seg,.int .i64 R.gap,.slice zR.a zR.len zR.cap] T.a32)::slc T.a33 3 zR (R.SR.flatMap encSR)::HP.all (R.SR.map rsgP)::pt a34 (.cells (cZ b0 z1) T.a1)::slc T.a3 4 z1 ((smallB b0).rs.flatMap encR)::lgP lg ⟨d,qP,s,g,l'⟩::dk d D::batsP pool::r) c.x 4 (c.rs.flatMap encR):=fun c hc=>by
     rw [List.mem_singleton.1 hc]
     show FocR _ z1 4 ((smallB b0).rs.flatMap encR)
     infer_instance
    refine wp_call (rplacedV_c (R:=R) (z:=zR) (a:=a43) (g1:=0) (g2:=0) y1 [(smallB b0).at z1] inferInstance (fun s hs=>rsg_rd hs) (by show 1≤100000;omega) inferInstance hbF hs) fun _ w' hs=>?_
    rcases hs with ⟨he,rfl,hs⟩|⟨he,y3,rfl,hs⟩
    ·refine ret_of ?_
     refine wp_lt ?_
     refine wp_untick ?_
     exact wp_lv ⟨rfl,hfin hs.sub⟩
    ·refine ⟨(y3,0,()),rfl,trivial,wp_u2 _ _ ?_⟩
     refine wp_lt ?_
     refine wp_untick ?_
     exact wp_lv ⟨by rw [he],hfin hs.sub⟩
   ·refine wp_litS hs (enc:=encB7) [(smallB b0).at z1] fun y1 w' hs=>⟨(by first|trivial|(repeat (first|exact trivial|exact fun _=>run_ldO hs|exact fun _=>run_ldG hs|refine And.intro ?_ ?_))),?_⟩
    refine wp_boxO hs fun a43 w' hs=>?_
    refine wp_untick ?_
    have hbF:∀ c ∈ [(smallB b0).at z1],FocR (pt a43 (.cells #[.int .i64 0,.int .i64 0,.slice zR.a zR.len zR.cap] T.a32)::slc T.a1 7 y1 ([(smallB b0).at z1].flatMap encB7)::pt a6 (.cells #[.int .i64 R.seg,.int .i64 R.gap,.slice zR.a zR.len zR.cap] T.a32)::slc T.a33 3 zR (R.SR.flatMap encSR)::HP.all (R.SR.map rsgP)::pt a34 (.cells (cZ b0 z1) T.a1)::slc T.a3 4 z1 ((smallB b0).rs.flatMap encR)::lgP lg ⟨d,qP,s,g,l'⟩::dk d D::batsP pool::r) c.x 4 (c.rs.flatMap encR):=fun c hc=>by
     rw [List.mem_singleton.1 hc]
     show FocR _ z1 4 ((smallB b0).rs.flatMap encR)
     infer_instance
    refine wp_call (rplacedV_c (R:=R) (z:=zR) (a:=a43) (g1:=0) (g2:=0) y1 [(smallB b0).at z1] inferInstance (fun s hs=>rsg_rd hs) (by show 1≤100000;omega) inferInstance hbF hs) fun _ w' hs=>?_
    rcases hs with ⟨he,rfl,hs⟩|⟨he,y3,rfl,hs⟩
    ·refine ret_of ?_
     refine wp_lt ?_
     refine wp_untick ?_
     exact wp_lv ⟨rfl,hfin hs.sub⟩
    ·refine ⟨(y3,0,()),rfl,trivial,wp_u2 _ _ ?_⟩
     refine wp_lt ?_
     refine wp_untick ?_
     exact wp_lv ⟨by rw [he],hfin hs.sub⟩
  clear hs
  rintro _ w ⟨rfl,hs⟩
  refine wp_on ?_
  refine wp_ldG hs ?_
  refine wp_slit1 hs (enc:=encB7) ((smallB b0).at z1) fun y1 w' hs=>?_
  obtain ⟨k1,k2,k3⟩:=hI.cpl.len
  refine wp_call (lappend_c (lg:=lg) (A:=⟨d,qP,s,g,l'⟩) (D:=D) y1 [(smallB b0).at z1] (by show l'.length≤_;omega) hI.cpl.segs (fun t ht=>by have:=k3 t ht;omega) (by show 1≤900;omega) inferInstance (fun c hc=>by rw [List.mem_singleton.1 hc];show FocR _ z1 4 ((smallB b0).rs.flatMap encR);infer_instance) hs) fun _ w' hs=>?_
  obtain ⟨rfl,hs⟩:=hs
  have hs:Sat w' (lgP lg ⟨d,qP,s,g,(lappA qP s l' D [(smallB b0).at z1]).2.1⟩::dk d (lappA qP s l' D [(smallB b0).at z1]).2.2::slc T.a1 7 y1 ([(smallB b0).at z1].flatMap encB7)::pt a34 (.cells (cZ b0 z1) T.a1)::slc T.a3 4 z1 ((smallB b0).rs.flatMap encR)::rfP a6 R::batsP pool::r):=hs
  refine ⟨((lappA qP s l' D [(smallB b0).at z1]).1.1,(lappA qP s l' D [(smallB b0).at z1]).1.2,()),rfl,trivial,wp_u2 _ _ ?_⟩
  refine wp_lt ?_
  refine wp_lt ?_
  have hpc:=place_cases [(smallB b0).at z1] (nextL l')
  rcases lapp_gen s [(smallB b0).at z1] qP_ok hI.cpl with ⟨e1,e2⟩|⟨-,-,-,-,e5⟩|⟨e1,e2,e3,e4,e5⟩
  ·have e9:(lappA qP s l' D [(smallB b0).at z1]).1.2=(placeL (nextL l') [(smallB b0).at z1]).1:=by rw [e1];exact rapp_fst (by simp)
   rw [e9]
   refine wp_ifF ?_ (by omega)
   refine wp_ifF ?_ (by rw [hI.next];simp)
   refine wp_ldG hs ?_
   refine wp_slit1 hs (enc:=encB7) ((smallB b0).at z1) fun y2 w' hs=>?_
   refine wp_call (rappend_c (a:=a6) (R:=R) y2 [(smallB b0).at z1] (by have:=hI.srl;omega) (by have:=hI.brl;omega) (by rw [hI.rseg];omega) (by show 1≤900;omega) inferInstance (fun c hc=>by rw [List.mem_singleton.1 hc];show FocR _ z1 4 ((smallB b0).rs.flatMap encR);infer_instance) hs) fun _ w' hs=>?_
   obtain ⟨rfl,R',q1,q2,q3,q4,q5,q6,-,hs⟩:=hs
   refine ⟨((rappA R.seg R.l [(smallB b0).at z1]).1.1,(rappA R.seg R.l [(smallB b0).at z1]).1.2,()),rfl,trivial,wp_u2 _ _ ?_⟩
   have q6':∀ b ∈ R'.bs,b ∈ R.bs∨(b.x=z1∧b.rs=(smallB b0).rs):=fun b hb=>by
    rcases q6 b hb with h|⟨c,hc,h1,h2⟩
    ·exact .inl h
    ·rw [List.mem_singleton.1 hc] at h1 h2
     exact .inr ⟨h1,h2⟩
   have hI2:=hI.step (z:=z1) (z':=z1) (by omega) e1 e2 q1 q3 q4 q5 q6'
   generalize (lappA qP s l' D [(smallB b0).at z1]).2.2=D2 at hI2 hs
   generalize (lappA qP s l' D [(smallB b0).at z1]).2.1=l2 at hI2 hs
   have hs:Sat w' (slc T.a3 4 z1 ((smallB b0).rs.flatMap encR)::batsP pool::lgP lg ⟨d,qP,s,g,l2⟩::dk d D2::rfP a6 R'::r):=hs.sub
   have hs:=bats_put2 hs
   have hs:Sat w' (lgP lg ⟨d,qP,s,g,l2⟩::dk d D2::rfP a6 R'::batsP (pool++[(smallB b0).at z1])::r):=hs.sub
   refine wp_mid (fun q w'=>∃ (q0:Bool) (D3:DiskA) (n3:Nat),q=(q0,())∧((q0=false∧n3=n)∨(q0=true∧n3=R'.bs.length))∧FilI s (i+1) D3 l2 R' (pool++[(smallB b0).at z1]) n3 C∧Sat w' (lgP lg ⟨d,qP,s,g,l2⟩::dk d D3::rfP a6 R'::batsP (pool++[(smallB b0).at z1])::r)) ?_ ?_
   ·refine wp_ix1g hs (xs:=ss) (enc:=encBo) (ss[i]?.getD false) (fun hg=>?_) ?_
    ·have hg:(i:Int)<((sy.len:Nat):Int):=by simpa using hg
     have hil2:i<ss.length:=by omega
     exact ⟨i,hil2,rfl,by rw [List.getElem?_eq_getElem hil2];rfl⟩
    refine wp_if (fun hsync=>?_) fun hsync=>?_
    rotate_left
    ·exact wp_lv ⟨false,D2,n,rfl,.inl ⟨rfl,rfl⟩,hI2,hs⟩
    obtain ⟨k1,-,-⟩:=hI2.cpl.len
    refine wp_call (lsyncP_c (lg:=lg) (A:=⟨d,qP,s,g,l2⟩) (D:=D2) (by show l2.length≤_;omega) hI2.cpl.segs hs) fun _ w' hs=>?_
    obtain ⟨rfl,hs⟩:=hs
    have hs:Sat w' (lgP lg ⟨d,qP,s,g,l2⟩::dk d (lsyncA qP l2 D2).2::rfP a6 R'::batsP (pool++[(smallB b0).at z1])::r):=hs
    refine ret_of ?_
    obtain ⟨y1',y2',y3',y4',-⟩:=lsync_all hI2.cpl
    obtain ⟨u1',u2'⟩:=hI2.syn.sync hI2.cpl
    have hst:=lsync_stp hI2.cpl
    have hbase:∀ n3,SynP qP l2 (lsyncA qP l2 D2).2 n3→FilI s (i+1) (lsyncA qP l2 D2).2 l2 R' (pool++[(smallB b0).at z1]) n3 C:=fun n3 hn3=>⟨y1',hn3,hI2.rseg,hI2.segs,hI2.srl,hI2.brl,hI2.all,hI2.next,hI2.rep,y2'.room.trans hI2.room,by have:=hI2.used;omega,by have:=hI2.len;omega,hI2.in1,fun c=>hst.2.2.2.2 (hI2.calm c)⟩
    by_cases h0:(lsyncA qP l2 D2).1=0
    ·refine wp_lv ⟨true,(lsyncA qP l2 D2).2,R'.bs.length,by rw [h0];rfl,.inr ⟨rfl,rfl⟩,hbase _ ?_,hs⟩
     have:=congrArg List.length hI2.all
     rw [List.length_map] at this
     rw [this]
     exact (u2' h0).1
    ·refine wp_lv ⟨false,(lsyncA qP l2 D2).2,n,?_,.inl ⟨rfl,rfl⟩,hbase _ u1',hs⟩
     refine Prod.ext ?_ rfl
     show ((lsyncA qP l2 D2).1 == 0)=false
     simpa using h0
   clear hs
   rintro _ w ⟨q,D3,n3,rfl,hq,hI3,hs⟩
   refine wp_on ?_
   have hok3:okR R' (batsP (pool++[(smallB b0).at z1])::r):=okR_in hI3.segs (by have:=hI3.srl;omega) (by have:=hI3.brl;omega) hI3.in1
   refine wp_mid (fun q w'=>q=((n3:Int),())∧Sat w' (lgP lg ⟨d,qP,s,g,l2⟩::dk d D3::rfP a6 R'::batsP (pool++[(smallB b0).at z1])::r)) ?_ ?_
   ·rcases hq with ⟨hq,rfl⟩|⟨hq,rfl⟩
    ·subst hq
     refine wp_ifF ?_ (by simp)
     exact wp_lv ⟨rfl,hs⟩
    ·subst hq
     refine wp_ifT ?_ (by simp)
     refine wp_call (rall_c (a:=a6) (R:=R') hs) fun _ w' hs=>?_
     obtain ⟨y,rfl,hs⟩:=hs
     refine ret_of ?_
     have hly:=hs.slen y (xs:=R'.bs) (enc:=encB7)
     refine wp_lt ?_
     have hs:Sat w' (slc T.a1 7 y (R'.bs.flatMap encB7)::rfP a6 R'::lgP lg ⟨d,qP,s,g,l2⟩::dk d D3::batsP (pool++[(smallB b0).at z1])::r):=hs
     exact wp_lv ⟨by rw [hly],hs.sub⟩
   clear hs hq
   rintro _ w ⟨rfl,hs⟩
   refine wp_on ?_
   rw [wS (i:=i) (by omega)]
   exact wp_lp (bs.length-(i+1)) ⟨i+1,n3,D3,l2,R',_,rfl,by omega,by omega,rfl,hI3,hs⟩
  ·exfalso
   have:=place_small b0 z1 (nextL l')
   have:=shL_len (nextL l') 0
   omega
  ·rw [e1]
   refine wp_ifT ?_ (by simp)
   refine wp_ldG hs ?_
   refine wp_slit1 hs (enc:=encB7) ((smallB b0).at z1) fun y2 w' hs=>?_
   refine wp_call (rappend_c (a:=a6) (R:=R) y2 [(smallB b0).at z1] (by have:=hI.srl;omega) (by have:=hI.brl;omega) (by rw [hI.rseg];omega) (by show 1≤900;omega) inferInstance (fun c hc=>by rw [List.mem_singleton.1 hc];show FocR _ z1 4 ((smallB b0).rs.flatMap encR);infer_instance) hs) fun _ w' hs=>?_
   obtain ⟨rfl,R',q1,q2,q3,q4,q5,q6,q7,hs⟩:=hs
   refine ⟨((rappA R.seg R.l [(smallB b0).at z1]).1.1,(rappA R.seg R.l [(smallB b0).at z1]).1.2,()),rfl,trivial,wp_u2 _ _ ?_⟩
   have q6':∀ b ∈ R'.bs,b ∈ R.bs∨(b.x=z1∧b.rs=(smallB b0).rs):=fun b hb=>by
    rcases q6 b hb with h|⟨c,hc,h1,h2⟩
    ·exact .inl h
    ·rw [List.mem_singleton.1 hc] at h1 h2
     exact .inr ⟨h1,h2⟩
   have hE:=hI.fail (z:=z1) (z':=z1) (by omega) e2 e5 q3 q5 q6'
   rw [e2] at hs
   generalize (lappA qP s l' D [(smallB b0).at z1]).2.2=D2 at hE hs
   have hs:Sat w' (slc T.a3 4 z1 ((smallB b0).rs.flatMap encR)::batsP pool::lgP lg ⟨d,qP,s,g,l'⟩::dk d D2::rfP a6 R'::r):=hs.sub
   have hs:=bats_put2 hs
   exact wp_pass (wp_lv ⟨R',D2,l',_,n,rfl,hE,q7.segs,by have:=hI.srl;omega,hs.sub⟩)
end
def pieceB (b:BatM) (k:Nat):BatM:=⟨b.base+k,b.pid,b.epoch,if b.pid>0 then b.seq+k else 0,b.kind,b.time,noSl,b.rs.drop k⟩
abbrev cP (b:BatM) (k:Nat) (q:Int) (z:Sl):Array Value:=#[.int .i64 (b.base+(k:Int)),.int .i64 b.pid,.int .i64 b.epoch,.int .i64 q,.int .i64 b.kind,.int .i64 b.time,.slice z.a z.len z.cap]
section
variable {w:World} {l r:List HP}
theorem dpiece_c (b:BatM) (k:Nat) (hv:validB b=0) (hk:k≤b.rs.length) [hb:FocR l b.x 4 (b.rs.flatMap encR)] (hs:Sat w l) :
  Ret P F.a110 #[.agg (encB7 b).toArray,.int .i64 (k:Int),.int .i64 (b.rs.length:Nat)] w fun vs w'=>∃ z:Sl,vs=[.agg (encB7 ((pieceB b k).at z)).toArray]∧Sat w' (slc T.a3 4 z ((b.rs.drop k).flatMap encR)::l) :=
 zf119_calls b.base b.pid b.epoch b.seq b.kind b.time b.x _ _ <| by
  unfold zf119
  have hl:=hs.slen b.x (xs:=b.rs) (enc:=encR)
  obtain ⟨h64,-⟩:=valid_recs hv
  obtain ⟨-,-,⟨hki,hba,hpi,hep,hsq,htm⟩,-,-⟩:=span_le b hv
  refine wp_boxO hs fun a0 w' hs=>?_
  refine wp_newO hs fun a1 w' hs=>?_
  refine wp_ldO hs ?_
  refine wp_ldO hs ?_
  refine wp_ldO hs ?_
  refine wp_ldO hs ?_
  refine wp_ldO hs ?_
  refine wp_newO hs fun a7 w' hs=>?_
  rw [w64 (by omega) (by omega)]
  refine wp_stG hs fun w' hs=>?_
  refine wp_ldO hs ?_
  refine wp_mid (fun _ w'=>Sat w' (pt a7 (.cells (cP b k (if b.pid>0 then b.seq+k else 0) ⟨none,0,0⟩) T.a1)::pt a1 (.cells zeroC T.a1)::pt a0 (.cells (cB b) T.a1)::l)) ?_ ?_
  ·refine wp_if (fun h=>?_) fun h=>?_
   ·refine wp_ldO hs ?_
    rw [w64 (by omega) (by omega)]
    refine wp_stO hs fun w' hs=>?_
    refine wp_lv ?_
    rw [if_pos (by omega)]
    exact hs
   ·refine wp_lv ?_
    rw [if_neg (by omega)]
    exact hs
  clear hs
  rintro _ w hs
  refine wp_on ?_
  refine wp_lt ?_
  generalize hq:(if b.pid>0 then b.seq+(k:Int) else 0)=q at hs
  have hs:Sat w (slc T.a3 4 ⟨none,0,0⟩ (([]:List RecM).flatMap encR)::pt a7 (.cells (cP b k q ⟨none,0,0⟩) T.a1)::pt a1 (.cells zeroC T.a1)::pt a0 (.cells (cB b) T.a1)::l):=hs.slc_nil
  refine wp_mid (fun _ w'=>∃ z:Sl,Sat w' (slc T.a3 4 z ((b.rs.drop k).flatMap encR)::pt a7 (.cells (cP b k q z) T.a1)::pt a1 (.cells zeroC T.a1)::pt a0 (.cells (cB b) T.a1)::l)) ?_ ?_
  rotate_left
  ·rintro _ w2 ⟨z,hs⟩
   refine wp_on ?_
   refine wp_ldG hs ?_
   refine wp_stG hs fun w' hs=>?_
   refine wp_ldG hs ?_
   refine ⟨rfl,z,?_,hs.sub⟩
   rw [← hq];rfl
  refine wp_loop (fun m v w=>∃ (i:Nat) (z:Sl),v=((i:Int),())∧k≤i∧i≤b.rs.length∧b.rs.length-i=m∧Sat w (slc T.a3 4 z (((b.rs.take i).drop k).flatMap encR)::pt a7 (.cells (cP b k q z) T.a1)::pt a1 (.cells zeroC T.a1)::pt a0 (.cells (cB b) T.a1)::l)) (b.rs.length-k) ⟨k,⟨none,0,0⟩,rfl,Nat.le_refl _,hk,rfl,by
   have e:(b.rs.take k).drop k=[]:=List.drop_eq_nil_of_le (by rw [List.length_take];omega)
   rw [e];exact hs⟩ ?_
  clear hs
  rintro m _ w ⟨i,z,rfl,hki2,hi,hm,hs⟩
  refine wp_on ?_
  refine wp_if (fun hc=>?_) fun hc=>?_
  rotate_left
  ·refine wp_pass (wp_lv ⟨z,?_⟩)
   rwa [List.take_of_length_le (by omega)] at hs
  have hil:i<b.rs.length:=by omega
  have hx:(b.rs.take (i+1)).drop k=(b.rs.take i).drop k++[b.rs[i]]:=by
   rw [List.take_succ_eq_append_getElem hil,List.drop_append_of_le_length (by rw [List.length_take];omega)]
  refine wp_mid (fun _ w'=>∃ z2:Sl,Sat w' (slc T.a3 4 z2 (((b.rs.take (i+1)).drop k).flatMap encR)::pt a7 (.cells (cP b k q z2) T.a1)::pt a1 (.cells zeroC T.a1)::pt a0 (.cells (cB b) T.a1)::l)) ?_ ?_
  ·refine wp_tk hs fun w' hs=>?_
   refine wp_hdO hs ?_
   refine wp_ldO hs ?_
   refine wp_ixA hs (xs:=b.rs) (enc:=encR) i hil ?_
   refine wp_litS hs (enc:=encR) [b.rs[i]] fun y w' hs=>⟨(by first|trivial|(repeat (first|exact trivial|exact fun _=>run_ldO hs|exact fun _=>run_ldG hs|refine And.intro ?_ ?_))),?_⟩
   refine wp_untick ?_
   refine wp_app' (xs:=(b.rs.take i).drop k) (ys:=[b.rs[i]]) (enc:=encR) hs (fun z2 w' hs=>?_) (by simp only [List.length_drop,List.length_take,List.length_cons,List.length_nil];omega)
   refine wp_stO hs fun w' hs=>?_
   refine wp_untick ?_
   refine wp_lv ⟨z2,?_⟩
   rw [hx]
   have hs:Sat w' (pt a7 (.cells (cP b k q z2) T.a1)::slc T.a3 4 z2 (((b.rs.take i).drop k++[b.rs[i]]).flatMap encR)::slc T.a3 4 y _::pt a1 (.cells zeroC T.a1)::pt a0 (.cells (cB b) T.a1)::l):=hs
   exact hs.sub
  clear hs
  rintro _ w ⟨z2,hs⟩
  refine wp_on ?_
  refine wp_ltx (y:=((i+1:Nat):Int)) ?_ (by rw [w64 (by omega) (by omega)];omega)
  exact wp_lp (b.rs.length-(i+1)) ⟨i+1,z2,rfl,by omega,by omega,rfl,hs⟩
theorem dfrom_c (b:BatM) (off:Int) (ho:0≤off∧off≤1099511627777) [hb:FocR l b.x 4 (b.rs.flatMap encR)] (hv:validB b=0) (hs:Sat w l):Ret P F.a108 #[.agg (encB7 b).toArray,.int .i64 off] w fun vs w' =>
  (fromB off b=none∧vs=[.agg (encB7 zeroB).toArray,.bool false]∧Sat w' l)∨(fromB off b=some b∧vs=[.agg (encB7 b).toArray,.bool true]∧Sat w' l) ∨
  (∃ (c:BatM) (z:Sl),(fromB off b).map BatM.p=some c.p∧vs=[.agg (encB7 (c.at z)).toArray,.bool true]∧Sat w' (slc T.a3 4 z (c.rs.flatMap encR)::l)) :=
 zf117_calls b.base b.pid b.epoch b.seq b.kind b.time b.x off <| by
  unfold zf117
  have hl:=hs.slen b.x (xs:=b.rs) (enc:=encR)
  obtain ⟨h64,-⟩:=valid_recs hv
  obtain ⟨s1,s2,⟨hki,hba,hpi,hep,hsq,htm⟩,hfit,s3⟩:=span_le b hv
  have hnx:nextB b=b.base+spanB b:=by unfold nextB;rw [if_neg (by rw [hv];simp)]
  refine wp_boxO hs fun a0 w' hs=>?_
  refine wp_newO hs fun a1 w' hs=>?_
  refine wp_mid (fun q w'=>q=(decide (off≥nextB b),())∧Sat w' (pt a1 (.cells zeroC T.a1)::pt a0 (.cells (cB b) T.a1)::l)) ?_ ?_
  ·refine wp_tk hs fun w' hs=>?_
   refine wp_ldG hs ?_
   refine wp_call (dvalid_c b hs) fun _ w' hs=>?_
   obtain ⟨rfl,hs⟩:=hs
   refine ret_of ?_
   refine wp_hdO hs ?_
   refine wp_ldG hs ?_
   refine wp_ifF ?_ (by rw [hv];simp)
   refine wp_call (dspan_c b hs) fun _ w' hs=>?_
   obtain ⟨rfl,hs⟩:=hs
   refine ret_of ?_ (by first|trivial|(repeat (first|exact trivial|exact fun _=>run_ldO hs|exact fun _=>run_ldG hs|refine And.intro ?_ ?_)))
   refine wp_untick ?_
   refine wp_lv ⟨?_,hs⟩
   have ew:IntKind.wrap .i64 (b.base+spanB b)=b.base+spanB b:=w64 (by omega) (by omega)
   rw [ew,w64 (by omega) (by omega),hnx]
   refine Prod.ext ?_ rfl
   show decide _=decide _
   apply decide_eq_decide.2
   omega
  clear hs
  rintro _ w ⟨rfl,hs⟩
  refine wp_on ?_
  refine wp_if (fun h=>?_) fun h=>?_
  ·have h:off≥nextB b:=by simpa using h
   refine wp_stG hs fun w' hs=>?_
   refine wp_ldG hs ?_
   exact ⟨rfl,.inl ⟨by unfold fromB;rw [if_pos (.inr h)],rfl,hs.tail.tail⟩⟩
  have h:¬ off≥nextB b:=by simpa using h
  have hf0:¬ (validB b≠0∨off≥nextB b):=by rintro (h1|h1);exact h1 hv;exact h h1
  refine wp_ldG hs ?_
  refine wp_call (dmark_c b hs) fun _ w' hs=>?_
  obtain ⟨rfl,hs⟩:=hs
  refine ret_of ?_
  refine wp_if (fun hm=>?_) fun hm=>?_
  ·refine wp_ldG hs ?_
   refine wp_stG hs fun w' hs=>?_
   refine wp_ldG hs ?_
   exact ⟨rfl,.inr (.inl ⟨by unfold fromB;rw [if_neg hf0,if_pos (.inl hm)],rfl,hs.tail.tail⟩)⟩
  have hm:markB b=false:=by simpa using hm
  have hsp:spanB b=b.rs.length:=by unfold spanB;rw [hm];simp
  refine wp_mid (fun q w'=>q=((((off-b.base).toNat:Nat):Int),())∧Sat w' (pt a1 (.cells zeroC T.a1)::pt a0 (.cells (cB b) T.a1)::l)) ?_ ?_
  ·refine wp_loop (fun m v w=>∃ i:Nat,v=((i:Int),())∧i≤(off-b.base).toNat∧(off-b.base).toNat-i=m∧Sat w (pt a1 (.cells zeroC T.a1)::pt a0 (.cells (cB b) T.a1)::l)) (off-b.base).toNat ⟨0,rfl,by omega,rfl,hs⟩ ?_
   clear hs
   rintro m _ w ⟨i,rfl,hi,hm2,hs⟩
   refine wp_on ?_
   refine wp_ldO hs ?_
   rw [w64 (by omega) (by omega)]
   refine wp_if (fun hc=>?_) fun hc=>?_
   ·refine wp_ltx (y:=((i+1:Nat):Int)) ?_ (by rw [w64 (by omega) (by omega)];omega)
    exact wp_lp ((off-b.base).toNat-(i+1)) ⟨i+1,rfl,by omega,rfl,hs⟩
   ·refine wp_pass (wp_lv ⟨?_,hs⟩)
    have:i=(off-b.base).toNat:=by omega
    rw [this]
  clear hs
  rintro _ w ⟨rfl,hs⟩
  refine wp_on ?_
  refine wp_ldG hs ?_
  refine wp_ldO hs ?_
  rw [hl]
  refine wp_call (dpiece_c b (off-b.base).toNat hv (by omega) hs) fun _ w' hs=>?_
  obtain ⟨z,rfl,hs⟩:=hs
  refine ⟨(b.base+((off-b.base).toNat:Nat),b.pid,b.epoch,(if b.pid>0 then b.seq+((off-b.base).toNat:Nat) else 0),b.kind,b.time,z,()),rfl,trivial,wp_u7 _ _ _ _ _ _ _ ?_⟩
  refine wp_stG hs fun w' hs=>?_
  refine wp_ldG hs ?_
  refine ⟨rfl,.inr (.inr ⟨pieceB b (off-b.base).toNat,z,?_,rfl,(show Sat w' (slc T.a3 4 z ((b.rs.drop (off-b.base).toNat).flatMap encR)::l) from hs.sub)⟩)⟩
  have hseq:b.pid>0∨b.seq=0:=by
   by_cases hp:b.pid>0
   ·exact .inl hp
   ·refine .inr ?_
    apply Decidable.byContradiction
    intro hq
    unfold validB at hv
    split at hv
    ·cases hv
    ·rename_i hh
     have hh2:=Decidable.not_not.1 (fun hn=>hh (.inr hn))
     exact hh2.1 ⟨by omega,.inr (.inr hq)⟩
  unfold fromB
  rw [if_neg hf0]
  split
  ·rename_i h2
   have h2:off≤b.base:=by
    rcases h2 with h2|h2
    ·rw [hm] at h2;cases h2
    ·exact h2
   have e0:(off-b.base).toNat=0:=by omega
   rw [e0]
   show some b.p=some (pieceB b 0).p
   unfold pieceB BatM.p
   simp only [List.drop_zero]
   congr 2
   ·simp
   ·rcases hseq with h|h
    ·rw [if_pos h];simp
    ·rw [h];split <;> simp
  ·show some (partB b _).p=some (pieceB b _).p
   unfold partB pieceB BatM.p
   simp only
   congr 2
   rcases hseq with h|h
   ·rw [if_pos h,if_pos h]
   ·by_cases hp:b.pid>0
    ·rw [if_pos hp,if_pos hp]
    ·rw [if_neg hp,if_neg hp,h]
end
def InB (pool bs:List BatM):Prop:=∀ b ∈ bs,∃ c ∈ pool,b.x=c.x∧b.rs=c.rs
theorem InB.rd {pool bs:List BatM} {l:List HP} (h:InB pool bs):∀ b ∈ bs,FocR (batsP pool::l) b.x 4 (b.rs.flatMap encR):=fun b hb=>by
 obtain ⟨c,hc,e1,e2⟩:=h b hb
 rw [e1,e2]
 exact bats_rd hc
theorem InB.more {pool bs:List BatM} (h:InB pool bs) (q:List BatM):InB (pool++q) bs:=fun b hb=>by
 obtain ⟨c,hc,e⟩:=h b hb
 exact ⟨c,List.mem_append_left _ hc,e⟩
theorem InB.app {pool a b:List BatM} (h1:InB pool a) (h2:InB pool b):InB pool (a++b):=fun x hx=>by
 rcases List.mem_append.1 hx with hx|hx
 ·exact h1 x hx
 ·exact h2 x hx
section
variable {w:World} {l r:List HP} {lg:Nat} {A:LogA}
theorem bats_cat:∀ {a b:List BatM} {l:List HP},Sat w (batsP a::batsP b::l)→Sat w (batsP (b++a)::l)
 | [],b,l,hs=>by rw [List.append_nil];exact hs.tail
 | x::a,b,l,hs=>by
  have hs:Sat w (HP.all (rsP x::a.map rsP)::batsP b::l):=hs
  have hs:Sat w (rsP x::batsP a::batsP b::l):=hs.all_cons
  have h1:Sat w (batsP (b++[x])::batsP a::l):=bats_put (b:=x) (hs.pick [0,1])
  have h2:=bats_cat (a:=a) (b:=b++[x]) (h1.pick [1])
  rwa [List.append_assoc] at h2
theorem lnextP_c [hf:Fo l lgP lg A r] (hlen:A.l.length≤1000000000) (hs:Sat w l):Ret P F.a50 #[.pointer (some ⟨lg,0,none⟩)] w fun vs w'=>vs=[.int .i64 (nextL A.l)]∧Sat w' (lgP lg A::r):=by
 have hs:=hs.perm hf.perm
 clear hf
 obtain ⟨M,hM,hsn⟩:=lgP_open hs
 clear hs
 subst hM
 have hll:M.l.length=M.SM.length:=List.length_map ..
 have hMl:M.A.l=M.l:=rfl
 rw [hMl] at hlen
 refine (lnext_c (lg:=lg) (M:=M) (by omega) hsn).mono fun vs w' h=>?_
 obtain ⟨h1,h2⟩:=h
 exact ⟨h1,lgP_close M h2⟩
set_option maxHeartbeats 1000000 in
theorem reads6_law (seg gap:Int) (x:Sl) (bs:List BatM) (offset most:Int) (hx:FocR l x 7 (bs.flatMap encB7)) (hbs:∀ b ∈ bs,FocR l b.x 4 (b.rs.flatMap encR)) (hs:Sat w l) :
  Ret P F.a94 #[.int .i64 seg,.int .i64 gap,x.v,.int .i64 offset,.int .i64 most] w fun vs w'=>vs=[.bool true]∧Sat w' l :=
 zf104_calls seg gap x offset most <| by
  unfold zf104
  refine wp_call (config_c seg gap hs) fun _ w' hs=>?_
  obtain ⟨s,g,hsr,hgr,rfl,hs⟩:=hs
  refine ⟨(s,g,()),rfl,trivial,wp_u2 _ _ ?_⟩
  have hcfg:okCfg s g:=⟨by omega,by omega⟩
  refine wp_newO hs fun a2 w' hs=>?_
  refine wp_stG hs fun w' hs=>?_
  refine wp_call (new_ok 1048576 (by omega) hs) fun _ w' hs=>?_
  obtain ⟨d,rfl,hs⟩:=hs
  refine ⟨(some ⟨d,0,none⟩,0,()),rfl,trivial,wp_u2 _ _ ?_⟩
  refine wp_lt ?_
  refine wp_ldG hs ?_
  refine wp_call (filled_c d x ⟨none,0,0⟩ bs [] s g True (D:=⟨1048576,-1,false,[]⟩) rfl (cpl_empty _ _ (by omega)) rfl rfl rfl (fun _=>⟨rfl,rfl⟩) hcfg inferInstance (fun b hb=>by have:=hbs b hb;infer_instance) (FocR.nil' 1) hs) fun _ w' hs=>?_
  obtain ⟨lg,y,outs,n,D,l',pool,rfl,hE,hs⟩:=hs
  refine ⟨(some ⟨lg,0,none⟩,y,(n:Int),()),rfl,trivial,wp_u3 _ _ _ ?_⟩
  obtain ⟨k1,k2,k3⟩:=hE.cpl.len
  obtain ⟨-,hall⟩:=hE.calm trivial
  have hnx:=hE.cpl.segs.next (Int.le_refl 0)
  have hok:=allB_ok (Int.le_refl 0) hE.cpl.segs
  have hfst:firstG l'=0:=by rw [hE.rep];exact (replay_last _ _).1
  have hmore:∀ at_:Int,0≤at_→at_<nextL l'→(allB l').filterMap (fromB at_)≠[]:=fun at_ h0 h1=>by
   have:=from_more (seg:=s) (bs:=allB l') (off:=at_) (by rw [← hE.rep];exact h1) h0
   rw [← hE.rep] at this
   exact this
  have hvo:∀ b ∈ outs,validB b=0:=fun b hb=>by
   have h1:b.p ∈ allB l':=by rw [← hall];exact List.mem_map.2 ⟨b,hb,rfl⟩
   exact (hok.valid _ h1).1
  have hol:outs.length≤21:=hE.num
  have hallen:(allB l').length≤21:=by rw [← hall,List.length_map];exact hol
  have hFl:∀ at_:Int,((allB l').filterMap (fromB at_)).length≤21:=fun at_=>Nat.le_trans (List.length_filterMap_le _ _) hallen
  refine wp_lt ?_
  refine wp_ifF ?_ (by simp)
  have hm1 : -5<Int.tmod most 5∧Int.tmod most 5<5:=⟨by have:=Int.lt_tmod_of_pos most (b:=5) (by omega);omega,Int.tmod_lt_of_pos most (by omega)⟩
  generalize Int.tmod most 5=t at *
  refine wp_lt ?_
  refine wp_mid (fun q w'=>∃ m0:Nat,m0≤4∧q=((m0:Int),())∧Sat w' (lgP lg ⟨d,qP,s,g,l'⟩::dk d D::slc T.a1 7 y (outs.flatMap encB7)::batsP pool::pt a2 (.cells #[.int .i64 s,.int .i64 g] T.a27)::l)) ?_ ?_
  ·refine wp_if (fun h=>?_) fun h=>?_
   ·rw [w64 (by omega) (by omega)]
    refine wp_lt ?_
    obtain ⟨n0,hn0⟩:∃ n0:Nat,0-t=(n0:Int):=⟨(0-t).toNat,by omega⟩
    rw [hn0]
    exact wp_lv ⟨n0,by omega,rfl,hs⟩
   ·obtain ⟨n0,hn0⟩:∃ n0:Nat,t=(n0:Int):=⟨t.toNat,by omega⟩
    rw [hn0]
    exact wp_lv ⟨n0,by omega,rfl,hs⟩
  clear hs
  rintro _ w ⟨m0,hm0,rfl,hs⟩
  refine wp_on ?_
  refine wp_ltx (y:=((m0+1:Nat):Int)) ?_ (by rw [w64 (by omega) (by omega)];omega)
  refine wp_call (lnextP_c (lg:=lg) (A:=⟨d,qP,s,g,l'⟩) (by show l'.length≤_;omega) hs) fun _ w' hs=>?_
  obtain ⟨rfl,hs⟩:=hs
  refine ret_of ?_
  refine wp_mid (fun q w'=>∃ o:Int,(nextL l'>0 → -nextL l'<o∧o<nextL l')∧q=(o,())∧Sat w' (lgP lg ⟨d,qP,s,g,l'⟩::dk d D::slc T.a1 7 y (outs.flatMap encB7)::batsP pool::pt a2 (.cells #[.int .i64 s,.int .i64 g] T.a27)::l)) ?_ ?_
  ·refine wp_if (fun h=>?_) fun h=>?_
   ·have h:nextL l'>0:=h
    refine wp_call (lnextP_c (lg:=lg) (A:=⟨d,qP,s,g,l'⟩) (by show l'.length≤_;omega) hs) fun _ w' hs=>?_
    obtain ⟨rfl,hs⟩:=hs
    refine ret_of ?_
    refine wp_must (by show nextL l'≠0;omega) ?_
    refine wp_lt ?_
    refine wp_lv ⟨Int.tmod offset (nextL l'),fun _=>⟨by have:=Int.lt_tmod_of_pos offset (b:=nextL l') h;omega,Int.tmod_lt_of_pos offset h⟩,rfl,hs⟩
   ·exact wp_lv ⟨offset,fun h2=>absurd h2 h,rfl,hs⟩
  clear hs
  rintro _ w ⟨o,ho,rfl,hs⟩
  refine wp_on ?_
  refine wp_mid (fun q w'=>q=(decide (o<0∨nextL l'=0),())∧Sat w' (lgP lg ⟨d,qP,s,g,l'⟩::dk d D::slc T.a1 7 y (outs.flatMap encB7)::batsP pool::pt a2 (.cells #[.int .i64 s,.int .i64 g] T.a27)::l)) ?_ ?_
  ·refine wp_if (fun h=>?_) fun h=>?_
   ·exact wp_lv ⟨by rw [decide_eq_true (.inl h)],hs⟩
   ·refine wp_call (lnextP_c (lg:=lg) (A:=⟨d,qP,s,g,l'⟩) (by show l'.length≤_;omega) hs) fun _ w' hs=>?_
    obtain ⟨rfl,hs⟩:=hs
    refine ret_of ?_
    refine wp_lv ⟨?_,hs⟩
    refine Prod.ext ?_ rfl
    show (nextL l' == 0)=_
    rw [Bool.eq_iff_iff]
    simp only [beq_iff_eq,decide_eq_true_eq]
    omega
  clear hs
  rintro _ w ⟨rfl,hs⟩
  refine wp_on ?_
  refine wp_mid (fun q w'=>∃ off:Int,(0≤off∧off≤nextL l')∧q=(off,())∧Sat w' (lgP lg ⟨d,qP,s,g,l'⟩::dk d D::slc T.a1 7 y (outs.flatMap encB7)::batsP pool::pt a2 (.cells #[.int .i64 s,.int .i64 g] T.a27)::l)) ?_ ?_
  ·refine wp_if (fun h=>?_) fun h=>?_
   ·exact wp_lv ⟨0,by omega,rfl,hs⟩
   ·have h:¬ (o<0∨nextL l'=0):=by simpa using h
    exact wp_lv ⟨o,by omega,rfl,hs⟩
  clear hs ho
  rintro _ w ⟨off,ho,rfl,hs⟩
  refine wp_on ?_
  have hly:=hs.slen y (xs:=outs) (enc:=encB7)
  refine wp_mid (fun q w'=>∃ (y1:Sl) (want pool:List BatM),q=(y1,())∧want.map BatM.p=(allB l').filterMap (fromB off)∧InB pool want∧want.length≤21∧(∀ b ∈ want,b.rs.length≤64)∧Sat w' (lgP lg ⟨d,qP,s,g,l'⟩::dk d D::slc T.a1 7 y1 (want.flatMap encB7)::batsP pool::pt a2 (.cells #[.int .i64 s,.int .i64 g] T.a27)::l)) ?_ ?_
  ·have hs:Sat w (slc T.a1 7 ⟨none,0,0⟩ (([]:List BatM).flatMap encB7)::lgP lg ⟨d,qP,s,g,l'⟩::dk d D::slc T.a1 7 y (outs.flatMap encB7)::batsP pool::pt a2 (.cells #[.int .i64 s,.int .i64 g] T.a27)::l):=hs.slc_nil
   refine wp_loop (fun m v w=>∃ (i:Nat) (y1:Sl) (want pool:List BatM),v=(y1,((i:Int),()))∧i≤outs.length∧outs.length-i=m∧want.map BatM.p=((outs.take i).map BatM.p).filterMap (fromB off)∧InB pool want∧InB pool outs∧want.length≤i∧(∀ b ∈ want,b.rs.length≤64)∧Sat w (slc T.a1 7 y1 (want.flatMap encB7)::lgP lg ⟨d,qP,s,g,l'⟩::dk d D::slc T.a1 7 y (outs.flatMap encB7)::batsP pool::pt a2 (.cells #[.int .i64 s,.int .i64 g] T.a27)::l)) outs.length ⟨0,⟨none,0,0⟩,[],pool,rfl,by omega,rfl,rfl,(fun b hb=>by cases hb),hE.in1,Nat.le_refl _,(fun b hb=>by cases hb),hs⟩ ?_
   clear hs
   rintro m _ w ⟨i,y1,want,pool,rfl,hi,hm,hwant,hinw,hino,hwl,hw64,hs⟩
   refine wp_on ?_
   refine wp_if (fun hc=>?_) fun hc=>?_
   rotate_left
   ·rw [List.take_of_length_le (by omega),hall] at hwant
    exact wp_pass (wp_lv ⟨y1,want,pool,rfl,hwant,hinw,by omega,hw64,hs.sub⟩)
   have hil:i<outs.length:=by omega
   have hmem:=List.getElem_mem hil
   have hv:=hvo _ hmem
   have hRb:FocR (batsP pool::pt a2 (.cells #[.int .i64 s,.int .i64 g] T.a27)::l) outs[i].x 4 (outs[i].rs.flatMap encR):=hino.rd _ hmem
   have hx1:((outs.take (i+1)).map BatM.p).filterMap (fromB off)=((outs.take i).map BatM.p).filterMap (fromB off)++(match fromB off outs[i].p with|none=>[]|some c=>[c]):=by
    rw [List.take_succ_eq_append_getElem hil,List.map_append,List.filterMap_append]
    congr 1
    show [outs[i].p].filterMap _=_
    cases hq:fromB off outs[i].p with
    | none=>rw [List.filterMap_cons_none hq];rfl
    | some c=>rw [List.filterMap_cons_some hq];rfl
   have hfm:=fromB_map off outs[i]
   have h64:=(valid_recs hv).1
   obtain ⟨cb,hcb,ecb1,ecb2⟩:=hino _ hmem
   refine wp_ixA hs (xs:=outs) (enc:=encB7) i hil ?_
   generalize outs[i]=b at *
   refine wp_newO hs fun a34 w' hs=>?_
   refine wp_stG hs fun w' hs=>?_
   refine wp_ldG hs ?_
   refine wp_call (dfrom_c b off (by omega) hv hs) fun _ w' hs=>?_
   have hfin:∀ (want' pool':List BatM) (y1':Sl) {w':World},want'.map BatM.p=((outs.take (i+1)).map BatM.p).filterMap (fromB off)→InB pool' want'→InB pool' outs→want'.length≤i+1→(∀ b ∈ want',b.rs.length≤64)→Sat w' (slc T.a1 7 y1' (want'.flatMap encB7)::lgP lg ⟨d,qP,s,g,l'⟩::dk d D::slc T.a1 7 y (outs.flatMap encB7)::batsP pool'::pt a2 (.cells #[.int .i64 s,.int .i64 g] T.a27)::l) →
     ∃ (want pool:List BatM),want.map BatM.p=((outs.take (i+1)).map BatM.p).filterMap (fromB off)∧InB pool want∧InB pool outs∧want.length≤i+1∧(∀ b ∈ want,b.rs.length≤64)∧Sat w' (slc T.a1 7 y1' (want.flatMap encB7)::lgP lg ⟨d,qP,s,g,l'⟩::dk d D::slc T.a1 7 y (outs.flatMap encB7)::batsP pool::pt a2 (.cells #[.int .i64 s,.int .i64 g] T.a27)::l):=fun want' pool' y1' w' h1 h2 h3 h4 h5 h6=>⟨want',pool',h1,h2,h3,h4,h5,h6⟩
   rcases hs with ⟨hf,rfl,hs⟩|⟨hf,rfl,hs⟩|⟨c,z,hf,rfl,hs⟩
   ·refine ⟨(0,0,0,0,0,0,⟨none,0,0⟩,false,()),rfl,trivial,wp_u8 _ _ _ _ _ _ _ _ ?_⟩
    refine wp_newO hs fun a50 w' hs=>?_
    refine wp_stG hs fun w' hs=>?_
    refine wp_lt ?_
    rw [hf] at hfm
    rw [← hfm] at hx1
    simp only [Option.map_none,List.append_nil] at hx1
    refine wp_mid (fun q w'=>∃ y1':Sl,q=(y1',())∧∃ (want pool:List BatM),want.map BatM.p=((outs.take (i+1)).map BatM.p).filterMap (fromB off)∧InB pool want∧InB pool outs∧want.length≤i+1∧(∀ b ∈ want,b.rs.length≤64)∧Sat w' (slc T.a1 7 y1' (want.flatMap encB7)::lgP lg ⟨d,qP,s,g,l'⟩::dk d D::slc T.a1 7 y (outs.flatMap encB7)::batsP pool::pt a2 (.cells #[.int .i64 s,.int .i64 g] T.a27)::l)) ?_ ?_
    ·refine wp_ifF ?_ (by simp)
     exact wp_lv ⟨y1,rfl,hfin want pool y1 (by rw [hwant,hx1]) hinw hino (by omega) hw64 hs.sub⟩
    ·rintro _ w2 ⟨y1',rfl,want',pool',g1,g2,g3,g4,g5,hs⟩
     refine wp_on ?_
     rw [wS (i:=i) (by omega)]
     exact wp_lp (outs.length-(i+1)) ⟨i+1,y1',want',pool',rfl,by omega,rfl,g1,g2,g3,g4,g5,hs⟩
   ·refine ⟨(b.base,b.pid,b.epoch,b.seq,b.kind,b.time,b.x,true,()),rfl,trivial,wp_u8 _ _ _ _ _ _ _ _ ?_⟩
    refine wp_newO hs fun a50 w' hs=>?_
    refine wp_stG hs fun w' hs=>?_
    refine wp_lt ?_
    rw [hf] at hfm
    rw [← hfm] at hx1
    simp only [Option.map_some] at hx1
    refine wp_mid (fun q w'=>∃ y1':Sl,q=(y1',())∧∃ (want pool:List BatM),want.map BatM.p=((outs.take (i+1)).map BatM.p).filterMap (fromB off)∧InB pool want∧InB pool outs∧want.length≤i+1∧(∀ b ∈ want,b.rs.length≤64)∧Sat w' (slc T.a1 7 y1' (want.flatMap encB7)::lgP lg ⟨d,qP,s,g,l'⟩::dk d D::slc T.a1 7 y (outs.flatMap encB7)::batsP pool::pt a2 (.cells #[.int .i64 s,.int .i64 g] T.a27)::l)) ?_ ?_
    ·refine wp_ifT ?_ (by simp)
     refine wp_ldG hs ?_
     refine wp_slit1 hs (enc:=encB7) b fun y4 w' hs=>?_
     refine wp_app' (xs:=want) (ys:=[b]) (enc:=encB7) hs (fun y5 w' hs=>?_) (by simp only [List.length_cons,List.length_nil];omega)
     refine wp_lv ⟨y5,rfl,hfin (want++[b]) pool y5 (by rw [List.map_append,hwant,hx1];rfl) (hinw.app fun q hq=>by rw [List.mem_singleton.1 hq];exact ⟨cb,hcb,ecb1,ecb2⟩) hino (by simp;omega) (fun q hq=>?_) hs.sub⟩
     rcases List.mem_append.1 hq with hq|hq
     ·exact hw64 q hq
     ·rw [List.mem_singleton.1 hq];exact h64
    ·rintro _ w2 ⟨y1',rfl,want',pool',g1,g2,g3,g4,g5,hs⟩
     refine wp_on ?_
     rw [wS (i:=i) (by omega)]
     exact wp_lp (outs.length-(i+1)) ⟨i+1,y1',want',pool',rfl,by omega,rfl,g1,g2,g3,g4,g5,hs⟩
   ·refine ⟨(c.base,c.pid,c.epoch,c.seq,c.kind,c.time,z,true,()),rfl,trivial,wp_u8 _ _ _ _ _ _ _ _ ?_⟩
    refine wp_newO hs fun a50 w' hs=>?_
    refine wp_stG hs fun w' hs=>?_
    refine wp_lt ?_
    rw [hf] at hfm
    rw [← hfm] at hx1
    simp only at hx1
    have hc64:c.rs.length≤64:=by
     have hmf:fromB off b.p=some c.p:=hfm.symm
     have:c.p.rs.length≤b.p.rs.length:=by
      unfold fromB at hmf
      split at hmf
      ·cases hmf
      ·split at hmf
       ·simp only [Option.some.injEq] at hmf;rw [← hmf];exact Nat.le_refl _
       ·simp only [Option.some.injEq] at hmf;rw [← hmf];show (b.rs.drop _).length≤b.rs.length;rw [List.length_drop];omega
     have:c.rs.length≤b.rs.length:=this
     omega
    refine wp_mid (fun q w'=>∃ y1':Sl,q=(y1',())∧∃ (want pool:List BatM),want.map BatM.p=((outs.take (i+1)).map BatM.p).filterMap (fromB off)∧InB pool want∧InB pool outs∧want.length≤i+1∧(∀ b ∈ want,b.rs.length≤64)∧Sat w' (slc T.a1 7 y1' (want.flatMap encB7)::lgP lg ⟨d,qP,s,g,l'⟩::dk d D::slc T.a1 7 y (outs.flatMap encB7)::batsP pool::pt a2 (.cells #[.int .i64 s,.int .i64 g] T.a27)::l)) ?_ ?_
    ·refine wp_ifT ?_ (by simp)
     refine wp_ldG hs ?_
     refine wp_slit1 hs (enc:=encB7) (c.at z) fun y4 w' hs=>?_
     refine wp_app' (xs:=want) (ys:=[c.at z]) (enc:=encB7) hs (fun y5 w' hs=>?_) (by simp only [List.length_cons,List.length_nil];omega)
     have hs:Sat w' (slc T.a3 4 z (c.rs.flatMap encR)::batsP pool::slc T.a1 7 y5 ((want++[c.at z]).flatMap encB7)::lgP lg ⟨d,qP,s,g,l'⟩::dk d D::slc T.a1 7 y (outs.flatMap encB7)::pt a2 (.cells #[.int .i64 s,.int .i64 g] T.a27)::l):=hs.sub
     have hs:=bats_put2 hs
     refine wp_lv ⟨y5,rfl,hfin (want++[c.at z]) (pool++[c.at z]) y5 (by rw [List.map_append,hwant,hx1];rfl) ((hinw.more _).app fun q hq=>by rw [List.mem_singleton.1 hq];exact ⟨c.at z,by simp,rfl,rfl⟩) (hino.more _) (by simp;omega) (fun q hq=>?_) hs.sub⟩
     rcases List.mem_append.1 hq with hq|hq
     ·exact hw64 q hq
     ·rw [List.mem_singleton.1 hq];exact hc64
    ·rintro _ w2 ⟨y1',rfl,want',pool',g1,g2,g3,g4,g5,hs⟩
     refine wp_on ?_
     rw [wS (i:=i) (by omega)]
     exact wp_lp (outs.length-(i+1)) ⟨i+1,y1',want',pool',rfl,by omega,rfl,g1,g2,g3,g4,g5,hs⟩
  clear hs hly
  rintro _ w ⟨y1,want,pool,rfl,hwant,hinw,hwl,hw64,hs⟩
  refine wp_on ?_
  refine wp_lt ?_
  refine wp_mid (fun q w'=>∃ (y2:Sl) (got pool:List BatM),q=(y2,())∧got.map BatM.p=(allB l').filterMap (fromB off)∧InB pool want∧InB pool got∧Sat w' (lgP lg ⟨d,qP,s,g,l'⟩::dk d D::slc T.a1 7 y2 (got.flatMap encB7)::slc T.a1 7 y1 (want.flatMap encB7)::batsP pool::pt a2 (.cells #[.int .i64 s,.int .i64 g] T.a27)::l)) ?_ ?_
  ·have hs:Sat w (slc T.a1 7 ⟨none,0,0⟩ (([]:List BatM).flatMap encB7)::lgP lg ⟨d,qP,s,g,l'⟩::dk d D::slc T.a1 7 y1 (want.flatMap encB7)::batsP pool::pt a2 (.cells #[.int .i64 s,.int .i64 g] T.a27)::l):=hs.slc_nil
   have hF0:=hFl off
   refine wp_loop (fun m v w=>∃ (i:Nat) (at_:Int) (y2:Sl) (got pool:List BatM),v=(y2,(at_,((i:Int),())))∧100-i=m∧(0≤at_∧at_≤nextL l')∧got.map BatM.p++(allB l').filterMap (fromB at_)=(allB l').filterMap (fromB off)∧((allB l').filterMap (fromB at_)).length+i≤21∧InB pool want∧InB pool got∧Sat w (slc T.a1 7 y2 (got.flatMap encB7)::lgP lg ⟨d,qP,s,g,l'⟩::dk d D::slc T.a1 7 y1 (want.flatMap encB7)::batsP pool::pt a2 (.cells #[.int .i64 s,.int .i64 g] T.a27)::l)) 100 ⟨0,off,⟨none,0,0⟩,[],pool,rfl,rfl,ho,rfl,by omega,hinw,(fun b hb=>by cases hb),hs⟩ ?_
   clear hs hinw
   rintro m _ w ⟨i,at_,y2,got,pool,rfl,hm,hat,hgot,hcnt,hinw,hing,hs⟩
   refine wp_on ?_
   refine wp_mid (fun q w'=>q=(decide (at_<nextL l'),())∧Sat w' (slc T.a1 7 y2 (got.flatMap encB7)::lgP lg ⟨d,qP,s,g,l'⟩::dk d D::slc T.a1 7 y1 (want.flatMap encB7)::batsP pool::pt a2 (.cells #[.int .i64 s,.int .i64 g] T.a27)::l)) ?_ ?_
   ·refine wp_ifT ?_ (by omega)
    refine wp_call (lnextP_c (lg:=lg) (A:=⟨d,qP,s,g,l'⟩) (by show l'.length≤_;omega) hs) fun _ w' hs=>?_
    obtain ⟨rfl,hs⟩:=hs
    refine ret_of ?_
    have hs:Sat w' (lgP lg ⟨d,qP,s,g,l'⟩::slc T.a1 7 y2 (got.flatMap encB7)::dk d D::slc T.a1 7 y1 (want.flatMap encB7)::batsP pool::pt a2 (.cells #[.int .i64 s,.int .i64 g] T.a27)::l):=hs
    exact wp_lv ⟨rfl,hs.pick [1]⟩
   clear hs
   rintro _ w ⟨rfl,hs⟩
   refine wp_on ?_
   refine wp_if (fun hc=>?_) fun hc=>?_
   rotate_left
   ·have hc:¬ at_<nextL l':=by simpa using hc
    have e:at_=nextL l':=by omega
    rw [e,from_next hE.cpl.segs,List.append_nil] at hgot
    exact wp_pass (wp_lv ⟨y2,got,pool,rfl,hgot,hinw,hing,hs.pick [1,1]⟩)
   have hc:at_<nextL l':=by simpa using hc
   have hne:=hmore at_ hat.1 hc
   refine wp_call (lread_c (lg:=lg) (A:=⟨d,qP,s,g,l'⟩) (D:=D) at_ ((m0+1:Nat):Int) (by omega) (by omega) hE.cpl.segs hE.cpl.has (by show l'.length≤_;omega) (by show (allB l').length≤_;omega) hs) fun _ w' hs=>?_
   obtain ⟨z3,outs3,rfl,hmap3,hs⟩:=hs
   have hra:readA l' at_ ((m0+1:Nat):Int)=(0,((allB l').filterMap (fromB at_)).take (m0+1)):=by
    unfold readA
    rw [if_neg (by omega),if_neg (by rw [hfst];omega),Int.toNat_natCast]
   have hra2:readA (⟨d,qP,s,g,l'⟩:LogA).l at_ ((m0+1:Nat):Int)=(0,((allB l').filterMap (fromB at_)).take (m0+1)):=hra
   rw [hra2] at hmap3 ⊢
   have hmap3:outs3.map BatM.p=((allB l').filterMap (fromB at_)).take (m0+1):=hmap3
   have hs:Sat w' (slc T.a1 7 z3 (outs3.flatMap encB7)::batsP outs3::lgP lg ⟨d,qP,s,g,l'⟩::dk d D::slc T.a1 7 y2 (got.flatMap encB7)::slc T.a1 7 y1 (want.flatMap encB7)::batsP pool::pt a2 (.cells #[.int .i64 s,.int .i64 g] T.a27)::l):=hs
   have hl3:outs3.length=min (m0+1) ((allB l').filterMap (fromB at_)).length:=by
    have:=congrArg List.length hmap3
    rw [List.length_map,List.length_take] at this
    exact this
   have hpos:0<((allB l').filterMap (fromB at_)).length:=List.length_pos_iff.2 hne
   have hz3:=hs.slen z3 (xs:=outs3) (enc:=encB7)
   refine ⟨(z3,0,()),rfl,trivial,wp_u2 _ _ ?_⟩
   refine wp_lt ?_
   refine wp_ifF ?_ (by omega)
   have hgl:got.length≤21:=by
    have:=congrArg List.length hgot
    rw [List.length_append,List.length_map] at this
    have:=hFl off
    omega
   refine wp_app' (x:=y2) (y:=z3) (xs:=got) (ys:=outs3) (enc:=encB7) hs (fun y6 w' hs=>?_) (by omega)
   have hil:outs3.length-1<outs3.length:=by omega
   rw [w64 (by omega) (by omega)]
   refine wp_ixA hs (xs:=outs3) (enc:=encB7) (outs3.length-1) hil ?_
   have hlast:(((allB l').filterMap (fromB at_)).take (m0+1)).getLast? = some outs3[outs3.length-1].p:=by
    rw [← hmap3,List.getLast?_map,List.getLast?_eq_getElem?,List.getElem?_eq_getElem hil]
    rfl
   obtain ⟨p1,p2,p3⟩:=from_step hok at_ (m0+1) _ hlast
   have hRl:FocR (batsP outs3::lgP lg ⟨d,qP,s,g,l'⟩::dk d D::slc T.a1 7 y1 (want.flatMap encB7)::batsP pool::pt a2 (.cells #[.int .i64 s,.int .i64 g] T.a27)::l) outs3[outs3.length-1].x 4 (outs3[outs3.length-1].rs.flatMap encR):=bats_rd (List.getElem_mem hil)
   have hend:outs3[outs3.length-1].p.base+spanB outs3[outs3.length-1].p≤nextL l':=by
    have h1:outs3[outs3.length-1].p ∈ (allB l').filterMap (fromB at_):=List.mem_of_mem_take (List.mem_of_getLast? hlast)
    obtain ⟨q,hq,hqx⟩:=List.mem_filterMap.1 h1
    obtain ⟨e1,-,-⟩:=fromB_next (hok.valid q hq).1 hqx
    have:=allB_le_next hE.cpl.segs q hq
    omega
   have ep1:outs3[outs3.length-1].p.base=outs3[outs3.length-1].base:=rfl
   have ep2:spanB outs3[outs3.length-1].p=spanB outs3[outs3.length-1]:=rfl
   rw [ep1,ep2] at p1 p2 hend
   generalize outs3[outs3.length-1]=lb at *
   refine wp_newO hs fun a82 w' hs=>?_
   refine wp_stG hs fun w' hs=>?_
   refine wp_tk hs fun w' hs=>?_
   refine wp_hdO hs ?_
   refine wp_ldG hs ?_
   refine wp_call (dspan_c lb hs) fun _ w' hs=>?_
   obtain ⟨rfl,hs⟩:=hs
   refine ret_of ?_ (by first|trivial|(repeat (first|exact trivial|exact fun _=>run_ldO hs|exact fun _=>run_ldG hs|refine And.intro ?_ ?_)))
   rw [w64 (by omega) (by omega)]
   refine wp_lt ?_
   refine wp_untick ?_
   refine wp_ltx (y:=((i+1:Nat):Int)) ?_ (by rw [w64 (by omega) (by omega)];omega)
   have hs:Sat w' (batsP outs3::batsP pool::slc T.a1 7 y6 ((got++outs3).flatMap encB7)::lgP lg ⟨d,qP,s,g,l'⟩::dk d D::slc T.a1 7 y1 (want.flatMap encB7)::pt a2 (.cells #[.int .i64 s,.int .i64 g] T.a27)::l):=hs.sub
   have hs:=bats_cat hs
   refine wp_lp (100-(i+1)) ⟨i+1,lb.base+spanB lb,y6,got++outs3,pool++outs3,rfl,rfl,by omega,?_,?_,hinw.more _,(hing.more _).app fun q hq=>⟨q,by simp [hq],rfl,rfl⟩,hs.sub⟩
   ·rw [p1,List.map_append,hmap3,List.append_assoc,List.take_append_drop]
    exact hgot
   ·rw [p1,List.length_drop];omega
  clear hs hinw
  rintro _ w ⟨y2,got,pool,rfl,hgot,hinw,hing,hs⟩
  refine wp_on ?_
  have hgl:got.length≤21:=by
   have:=congrArg List.length hgot
   rw [List.length_map] at this
   have:=hFl off
   omega
  refine wp_call (lnextP_c (lg:=lg) (A:=⟨d,qP,s,g,l'⟩) (by show l'.length≤_;omega) hs) fun _ w' hs=>?_
  obtain ⟨rfl,hs⟩:=hs
  refine ret_of ?_
  have hra:readA l' (nextL l') ((m0+1:Nat):Int)=(0,[]):=by
   unfold readA
   rw [if_neg (by omega),if_neg (by rw [hfst];omega),from_next hE.cpl.segs,List.take_nil]
  have hra3:readA l' (nextL l'+1) ((m0+1:Nat):Int)=(8,[]):=by
   unfold readA
   rw [if_neg (by omega),if_pos (by omega)]
  refine wp_call (lread_c (lg:=lg) (A:=⟨d,qP,s,g,l'⟩) (D:=D) (nextL l') ((m0+1:Nat):Int) (by omega) (by omega) hE.cpl.segs hE.cpl.has (by show l'.length≤_;omega) (by show (allB l').length≤_;omega) hs) fun _ w' hs=>?_
  obtain ⟨z3,outs3,rfl,hmap3,hs⟩:=hs
  have hra2:readA (⟨d,qP,s,g,l'⟩:LogA).l (nextL l') ((m0+1:Nat):Int)=(0,[]):=hra
  rw [hra2] at hmap3 ⊢
  have ho3:outs3=[]:=List.map_eq_nil_iff.1 hmap3
  subst ho3
  have hz3:=hs.slen z3 (xs:=([]:List BatM)) (enc:=encB7)
  have hz3:z3.len=0:=hz3
  refine ⟨(z3,0,()),rfl,trivial,wp_u2 _ _ ?_⟩
  have hs:Sat w' (lgP lg ⟨d,qP,s,g,l'⟩::dk d D::slc T.a1 7 y2 (got.flatMap encB7)::slc T.a1 7 y1 (want.flatMap encB7)::batsP pool::pt a2 (.cells #[.int .i64 s,.int .i64 g] T.a27)::l):=(show Sat w' (slc T.a1 7 z3 _::batsP []::lgP lg ⟨d,qP,s,g,l'⟩::dk d D::slc T.a1 7 y2 (got.flatMap encB7)::slc T.a1 7 y1 (want.flatMap encB7)::batsP pool::pt a2 (.cells #[.int .i64 s,.int .i64 g] T.a27)::l) from hs).tail.tail
  refine wp_lt ?_
  refine wp_call (lnextP_c (lg:=lg) (A:=⟨d,qP,s,g,l'⟩) (by show l'.length≤_;omega) hs) fun _ w' hs=>?_
  obtain ⟨rfl,hs⟩:=hs
  refine ret_of ?_
  have enw:IntKind.wrap .i64 (nextL (⟨d,qP,s,g,l'⟩:LogA).l+1)=nextL l'+1:=w64 (by show _≤nextL l'+1;omega) (by show nextL l'+1<_;omega)
  rw [enw]
  refine wp_call (lread_c (lg:=lg) (A:=⟨d,qP,s,g,l'⟩) (D:=D) (nextL l'+1) ((m0+1:Nat):Int) (by omega) (by omega) hE.cpl.segs hE.cpl.has (by show l'.length≤_;omega) (by show (allB l').length≤_;omega) hs) fun _ w' hs=>?_
  obtain ⟨z5,outs5,rfl,hmap5,hs⟩:=hs
  have hra4:readA (⟨d,qP,s,g,l'⟩:LogA).l (nextL l'+1) ((m0+1:Nat):Int)=(8,[]):=hra3
  rw [hra4]
  refine ⟨(z5,8,()),rfl,trivial,wp_u2 _ _ ?_⟩
  refine wp_lt ?_
  have hs:Sat w' (slc T.a1 7 y2 (got.flatMap encB7)::slc T.a1 7 y1 (want.flatMap encB7)::batsP pool::pt a2 (.cells #[.int .i64 s,.int .i64 g] T.a27)::l):=(show Sat w' (slc T.a1 7 z5 _::batsP outs5::lgP lg ⟨d,qP,s,g,l'⟩::dk d D::slc T.a1 7 y2 (got.flatMap encB7)::slc T.a1 7 y1 (want.flatMap encB7)::batsP pool::pt a2 (.cells #[.int .i64 s,.int .i64 g] T.a27)::l) from hs).tail.tail.tail.tail
  have hg64:∀ b ∈ got,b.rs.length≤1000000000:=fun b hb=>by
   have h1:b.p ∈ want.map BatM.p:=by rw [hwant,← hgot];exact List.mem_map.2 ⟨b,hb,rfl⟩
   obtain ⟨c,hc,hcb⟩:=List.mem_map.1 h1
   have h2:=hw64 c hc
   have h3:c.rs=b.rs:=(p_fields hcb).2.2.2.2.2.2
   rw [← h3];omega
  refine wp_mid (fun q w'=>q=(true,())∧Sat w' l) ?_ ?_
  rotate_left
  ·rintro _ w2 ⟨rfl,hs⟩
   exact ⟨rfl,rfl,hs⟩
  refine wp_call (dsameall_c y2 y1 got want (by rw [hgot,hwant]) inferInstance inferInstance (fun b hb=>by have:FocR (batsP pool::pt a2 (.cells #[.int .i64 s,.int .i64 g] T.a27)::l) b.x 4 (b.rs.flatMap encR):=hing.rd b hb;infer_instance) (fun b hb=>by have:FocR (batsP pool::pt a2 (.cells #[.int .i64 s,.int .i64 g] T.a27)::l) b.x 4 (b.rs.flatMap encR):=hinw.rd b hb;infer_instance) (by omega) hg64 hs) fun _ w' hs=>?_
  obtain ⟨rfl,hs⟩:=hs
  refine ret_of ?_
  refine wp_ifT ?_ (by rw [hz3];simp)
  have hs:Sat w' l:=hs.sub
  refine wp_call (awake6_c hs) fun _ _ hs=>?_
  obtain ⟨rfl,hs⟩:=hs
  refine ret_of ?_
  refine wp_lt ?_
  exact wp_lv ⟨rfl,hs⟩
end
open Go.ChangeShapes Go.WideShapes Go.RowKit Go.Deep
section
variable {H:Type} {enc:TypeId × Value→H} {P:Program} {w:World} {base:Nat} {spare:Nat→Bool} {held:Bool}
theorem trod_fields {t:TypeId} {fs:Array Field} {n C:Nat} {cs:List Value} {y:DataW H × List MemPlace} (ht:P.underlying t=some (.struct fs)) (hd:DataW.trod enc P w base spare held n t cs=some y) (hC:P.cellsOf t=C) :
  cs.length=C∧∃ n',∀ (j:Nat) (f:Field),fs[j]? = some f→∃ y,DataW.trod enc P w base spare held n' f.type ((cs.drop f.offset).take (P.cellsOf f.type))=some y:=by
 obtain ⟨ys,n',hn',hy,hlen,hyl,hf⟩:=DataW.trod_struct ht hd
 refine ⟨by rw [hlen,hC],n',fun j f hj=>?_⟩
 have hjl:j<fs.size:=(Array.getElem?_eq_some_iff.1 hj).1
 have h1:=hf j f hj
 rw [List.getElem?_eq_getElem (by omega)] at h1
 exact ⟨_,h1⟩
theorem read_rec {t:TypeId} {f0 f1 f2 f3:Field} {n:Nat} {cs:List Value} {y:DataW H × List MemPlace} (ht:P.underlying t=some (.struct #[f0,f1,f2,f3])) (hC:P.cellsOf t=4) (k0:P.underlying f0.type=some .string) (k1:P.underlying f1.type=some .string) (k2:P.underlying f2.type=some .bool) (k3:P.underlying f3.type=some (.int .i64))
  (o0:f0.offset=0) (o1:f1.offset=1) (o2:f2.offset=2) (o3:f3.offset=3) (c0:P.cellsOf f0.type=1) (c1:P.cellsOf f1.type=1) (c2:P.cellsOf f2.type=1) (c3:P.cellsOf f3.type=1)
  (hd:DataW.trod enc P w base spare held n t cs=some y):∃ r:RecM,cs=encR r∧True:=by
 obtain ⟨hl,n',hf⟩:=trod_fields ht hd hC
 match cs,hl with
 | [v0,v1,v2,v3],_ =>
  obtain ⟨y0,h0⟩:=hf 0 f0 rfl
  obtain ⟨y1,h1⟩:=hf 1 f1 rfl
  obtain ⟨y2,h2⟩:=hf 2 f2 rfl
  obtain ⟨y3,h3⟩:=hf 3 f3 rfl
  rw [o0,c0] at h0
  rw [o1,c1] at h1
  rw [o2,c2] at h2
  rw [o3,c3] at h3
  obtain ⟨s0,q0,-,-⟩:=DataW.trod_string k0 h0
  obtain ⟨s1,q1,-,-⟩:=DataW.trod_string k1 h1
  obtain ⟨b2,q2,-⟩:=DataW.trod_bool k2 h2
  obtain ⟨n3,q3,-,-⟩:=DataW.trod_int k3 h3
  simp at q0 q1 q2 q3
  subst q0 q1 q2 q3
  exact ⟨⟨s0,s1,b2,n3⟩,rfl,trivial⟩
theorem read_b7 {t tr:TypeId} {b0 b1 b2 b3 b4 b5 b6:Field} {n:Nat} {cs:List Value} {y:DataW H × List MemPlace} (ht:P.underlying t=some (.struct #[b0,b1,b2,b3,b4,b5,b6])) (hC:P.cellsOf t=7)
  (hone:oneCellFields P #[b0,b1,b2,b3,b4,b5,b6]=true) (l0:P.underlying b0.type=some (.int .i64)) (l1:P.underlying b1.type=some (.int .i64)) (l2:P.underlying b2.type=some (.int .i64)) (l3:P.underlying b3.type=some (.int .i64)) (l4:P.underlying b4.type=some (.int .i64)) (l5:P.underlying b5.type=some (.int .i64))
  (l6:P.underlying b6.type=some (.slice tr)) (hR:P.cellsOf tr=4) (hrec:∀ (n:Nat) (cs:List Value) (y:DataW H × List MemPlace),cs.length=4→DataW.trod enc P w base spare held n tr cs=some y→∃ r:RecM,cs=encR r∧True)
  (hd:DataW.trod enc P w base spare held n t cs=some y):∃ b:BatM,cs=encB7 b∧Rd w 4 b.x (b.rs.flatMap encR)∧(-9223372036854775808≤b.base∧b.base<9223372036854775808):=by
 obtain ⟨hl,m,hg⟩:=trod_fields ht hd hC
 match cs,hl with
 | [v1,v2,v3,v4,v5,v6,v7],_ =>
  have one:∀ (j:Nat) (f:Field) (u:Value),#[b0,b1,b2,b3,b4,b5,b6][j]? = some f→[v1,v2,v3,v4,v5,v6,v7][j]? = some u→∃ y,DataW.trod enc P w base spare held m f.type [u]=some y:=fun j f u hj hu=>by
   obtain ⟨ho,hk⟩:=hone_of hone j f hj
   obtain ⟨y,h1⟩:=hg j f hj
   rw [ho,hk] at h1
   obtain ⟨hjl,rfl⟩:=List.getElem?_eq_some_iff.1 hu
   have hone':([v1,v2,v3,v4,v5,v6,v7].drop j).take 1=[[v1,v2,v3,v4,v5,v6,v7][j]]:=by
    rw [List.drop_eq_getElem_cons hjl];rfl
   rw [hone'] at h1
   exact ⟨y,h1⟩
  obtain ⟨z0,e0⟩:=one 0 b0 v1 rfl rfl
  obtain ⟨z1,e1⟩:=one 1 b1 v2 rfl rfl
  obtain ⟨z2,e2⟩:=one 2 b2 v3 rfl rfl
  obtain ⟨z3,e3⟩:=one 3 b3 v4 rfl rfl
  obtain ⟨z4,e4⟩:=one 4 b4 v5 rfl rfl
  obtain ⟨z5,e5⟩:=one 5 b5 v6 rfl rfl
  obtain ⟨z6,e6⟩:=one 6 b6 v7 rfl rfl
  obtain ⟨m0,p0,-,w0⟩:=DataW.trod_int l0 e0
  obtain ⟨m1,p1,-,-⟩:=DataW.trod_int l1 e1
  obtain ⟨m2,p2,-,-⟩:=DataW.trod_int l2 e2
  obtain ⟨m3,p3,-,-⟩:=DataW.trod_int l3 e3
  obtain ⟨m4,p4,-,-⟩:=DataW.trod_int l4 e4
  obtain ⟨m5,p5,-,-⟩:=DataW.trod_int l5 e5
  obtain ⟨x,rs,p6,-,-,-,-,hrd⟩:=trod_rows l6 hR (by decide) hrec e6
  simp at p0 p1 p2 p3 p4 p5
  subst p0 p1 p2 p3 p4 p5 p6
  exact ⟨⟨m0,m1,m2,m3,m4,m5,x,rs⟩,rfl,hrd,wf64 w0⟩
theorem trod_of {t e:TypeId} {r:Reach} {b0:Nat} {v:Value} {d:DataW H} {ps:List MemPlace} (ht:P.underlying t=some (.slice e)) (hval:Value.okWide P w r b0 t v) (hd:DataW.Trod enc P w base spare held t v d ps):∃ (fuel:Nat) (y:DataW H × List MemPlace),DataW.trod enc P w base spare held fuel t [v]=some y:=by
 obtain ⟨a0,len0,cap0,rfl⟩:=okWide_slice ht hval
 obtain ⟨fuel,hf⟩:=hd
 exact ⟨fuel,_,hf⟩
theorem foc_whole {W:World} {sz:Nat} {x:Sl} {cs:List Value} (h:Rd W sz x cs):FocR [whole W] x sz cs:=⟨fun w hs=>rd_keep hs.of_whole.1 h⟩
end
end Go.Dec
