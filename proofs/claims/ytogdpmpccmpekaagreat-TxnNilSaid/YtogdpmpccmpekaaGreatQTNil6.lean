/- What the claim of this folder leans on: our own texts, joined, without what it does not use. -/
import Derived.Test.YtogdpmpccmpekaaGreatQTNil5
set_option linter.unusedVariables false
set_option linter.unusedSimpArgs false
namespace Go.Dec
def zg1 (seg gap:Int):Prop:=(64<=seg/\seg<=4194304)/\(1<=gap/\gap<=4194304)
section
variable {w:World} {l r:List HP} {lg d:Nat} {M:LogM} {A:LogA} {D:DiskA}
set_option maxHeartbeats 1000000 in
theorem z0ah (pre:ByteArray) (seg gap:Int) (hp:z2n pre=true) (hc:zg1 seg gap) (hg:D.gone=false) [hf:Fo l dk d D r] (hs:Sat w l):Ret P F.a125 #[.pointer (some ⟨d,0,none⟩),.string pre,.agg #[.int .i64 seg,.int .i64 gap]] w λvs w' =>
  ((z7s pre D).1≠0/\vs=[.pointer none,.int .i64 (z7s pre D).1]/\Sat w' (dk d (z7s pre D).2.2::r)) \/
  ((z7s pre D).1=0/\∃ lg,vs=[.pointer (some ⟨lg,0,none⟩),.int .i64 0]/\Sat w' (lgP lg ⟨d,pre,seg,gap,(z7s pre D).2.1⟩::dk d (z7s pre D).2.2::r)) :=
 zrf _ pre seg gap <| by
  delta z07e AA AB AP AR AU Aa Ab Ac Ad Af Ag Aj Ak Al Am Av Aw Bk Bl Bn Bo Bp;have hs:=hs.perm hf.perm;obtain ⟨m_,FS_,-,hokD,-⟩:=z2h hs;refine zr hs λa0 w' hs=>wp_lt (z06 ?_ (by simp));refine zj (λq w'=>q=(false,())/\Sat w' (dk d D::pt a0 (.cells #[.int .i64 seg,.int .i64 gap] T.a54)::r)) ?_ ?_
  ·refine zb (z04z pre hs) λ_ w' hs=>?_;obtain ⟨rfl,hs⟩:=hs;refine zd (zl hs ?_);refine z06 ?_ (by rw [hp];simp);refine zb (z0cr seg gap hs) λ_ w' hs=>?_;obtain ⟨rfl,hs⟩:=hs;refine zd (wp_lt ?_);refine zg ⟨?_,hs.sub⟩;have:((64<=seg/\seg<=4194304)/\(1<=gap/\gap<=4194304)):=hc;rw [decide_eq_true this];rfl
  rintro _ w2 ⟨rfl,hs⟩;refine z06 ?_ (by simp);refine zb (z0cg (d:=d) hs) λ_ w' hs=>?_;obtain ⟨rfl,hs⟩:=hs;refine zd (wp_lt ?_);refine z06 ?_ (by rw [hg];simp);refine zl hs (zr hs λlg w' hs=>?_)
  have hokm:okM gap seg pre:=⟨hc.2,hc.1,hp⟩
  have hs:Sat w' (lgQ lg ⟨d,pre,seg,gap,⟨none,0,0⟩,[]⟩::dk d D::r):=by
   refine z1t ⟨d,pre,seg,gap,⟨none,0,0⟩,[]⟩ hokm ?_
   have h1:Sat w' (HP.all (([]:List (Nat × SegM)).map λt=>z0t gap t.1 t.2)::pt lg (.cells #[.pointer (some ⟨d,0,none⟩),.string pre,.int .i64 seg,.int .i64 gap,.slice none 0 0] T.a55)::dk d D::r):=by
    have hs:Sat w' (pt lg (.cells #[.pointer (some ⟨d,0,none⟩),.string pre,.int .i64 seg,.int .i64 gap,.slice none 0 0] T.a55)::dk d D::r):=hs.sub;exact Sat.all_nil hs
   have h2:Sat w' (slc T.a36 1 ⟨none,0,0⟩ (((([]:List (Nat × SegM))).map Prod.fst).flatMap z1v)::_):=h1.slc_nil;exact h2.pick [2]
  unfold z7s;refine zb (z09u (lg:=lg) (M:=⟨d,pre,seg,gap,⟨none,0,0⟩,[]⟩) (D:=D) hs) λ_ w' hs=>?_
  have hnl:(z13 pre (z17 (z1n pre) D.fs) D).2.1.length<=128:=by
   refine Nat.le_trans zim ?_;unfold z17;exact Nat.le_trans (List.length_filter_le _ _) (by rw [List.length_map];exact hokD.many)
  have hlt:=zlj (pre:=pre) (ns:=z17 (z1n pre) D.fs) (D:=D)
  rcases hs with ⟨he,rfl,hs⟩|⟨he,x,rfl,hs⟩
  ·have he:(z13 pre (z17 (z1n pre) D.fs) D).1≠0:=he;refine zd (wp_lt ?_);refine z18 ?_ he;refine wp_lt ?_;rw [if_pos he];exact ⟨rfl,.inl ⟨he,rfl,hs.tail⟩⟩
  have he:(z13 pre (z17 (z1n pre) D.fs) D).1=0:=he;refine ⟨(x,0,()),rfl,trivial,z23 _ _ ?_⟩;refine wp_lt (z06 ?_ (by simp));rw [if_neg (by rw [he];simp)];have hs:Sat w' (slc T.a14 1 x ((z13 pre (z17 (z1n pre) D.fs) D).2.1.flatMap encI)::lgQ lg ⟨d,pre,seg,gap,⟨none,0,0⟩,[]⟩::dk d (z13 pre (z17 (z1n pre) D.fs) D).2.2::r):=hs;generalize (z13 pre (z17 (z1n pre) D.fs) D).2.2=D1 at *;generalize (z13 pre (z17 (z1n pre) D.fs) D).2.1=bs at *;have hl:=hs.slen x (xs:=bs) (enc:=encI);have hcap:=hs.slc_cap;refine zj (λq w'=>∃ M:LogM,q=((z4b pre bs [] D1).1,())/\(M.d=d/\M.pre=pre/\M.seg=seg/\M.gap=gap)/\M.l=(z4b pre bs [] D1).2.1/\Sat w' (lgQ lg M::dk d (z4b pre bs [] D1).2.2::r)) ?_ ?_;rotate_left
  ·rintro _ w3 ⟨M,rfl,⟨rfl,rfl,rfl,rfl⟩,h2,hs⟩;refine zi (λh=>?_) λh=>?_
   ·exact wp_lt ⟨rfl,.inl ⟨h,rfl,hs.tail⟩⟩
   ·have h:(z4b M.pre bs [] D1).1=0:=Decidable.not_not.1 h;refine ⟨rfl,.inr ⟨h,lg,rfl,?_⟩⟩;have:=z50 M hs
    have e:M.A=⟨M.d,M.pre,M.seg,M.gap,(z4b M.pre bs [] D1).2.1⟩:=by rw [<- h2];rfl
    rw [<- e];exact this
  refine z0a (λm v w=>∃ (i:Nat) (M:LogM) (D':DiskA),v=((0:Int),((i:Int),()))/\i<=bs.length/\bs.length-i=m/\M.SM.length<=i/\z4b pre bs [] D1=z4b pre (bs.drop i) M.l D'/\(M.d=d/\M.pre=pre/\M.seg=seg/\M.gap=gap) /\
   Sat w (slc T.a14 1 x (bs.flatMap encI)::lgQ lg M::dk d D'::r)) bs.length ⟨0,⟨d,pre,seg,gap,⟨none,0,0⟩,[]⟩,D1,rfl,by omega,rfl,by simp,rfl,⟨rfl,rfl,rfl,rfl⟩,hs⟩ ?_
  clear hs;rintro m _ w ⟨i,M,D',rfl,hi,hm,hsm,hq,⟨rfl,rfl,rfl,rfl⟩,hsn⟩;have hs:=hsn;refine zh (zi (λhcc=>?_) λhcc=>?_);rotate_left
  ·have e:bs.drop i=[]:=List.drop_eq_nil_of_le (by omega);rw [e] at hq;have hq:z4b M.pre bs [] D1=(0,M.l,D'):=hq;rw [hq];exact zm (zg ⟨M,rfl,⟨rfl,rfl,rfl,rfl⟩,rfl,hs.sub⟩)
  have hil:i<bs.length:=by omega
  rw [List.drop_eq_getElem_cons hil] at hq;have hbb:=hlt bs[i] (List.getElem_mem hil)
  have hun:z4b M.pre (bs[i]::bs.drop (i+1)) M.l D'=if bs[i]<zn M.l then (if (z2c D' (zx M.pre bs[i] z08)).1≠0 then ((z2c D' (zx M.pre bs[i] z08)).1,M.l,(z2c D' (zx M.pre bs[i] z08)).2) else z4b M.pre (bs.drop (i+1)) M.l (z2c D' (zx M.pre bs[i] z08)).2) else
   if (z2j M.pre M.l D' bs[i]).1.2≠0 then ((z2j M.pre M.l D' bs[i]).1.2,(z2j M.pre M.l D' bs[i]).2) else
   if (z2j M.pre M.l D' bs[i]).1.1=true then z4b M.pre (bs.drop (i+1)) (z2j M.pre M.l D' bs[i]).2.1 (z2j M.pre M.l D' bs[i]).2.2 else ((z7b M.pre (bs.drop (i+1)) (z2j M.pre M.l D' bs[i]).2.2).1,(z2j M.pre M.l D' bs[i]).2.1,(z7b M.pre (bs.drop (i+1)) (z2j M.pre M.l D' bs[i]).2.2).2):=rfl
  have ei:IntKind.wrap .i64 ((i:Int)+1)=((i+1:Nat):Int):=by rw [w64 (by omega) (by omega)];omega
  refine zj (λq w'=>∃ (M2:LogM) (D2:DiskA),q=((0:Int),())/\M2.SM.length<=i+1/\z4b M.pre bs [] D1=z4b M.pre (bs.drop (i+1)) M2.l D2/\(M2.d=M.d/\M2.pre=M.pre/\M2.seg=M.seg/\M2.gap=M.gap) /\
   Sat w' (slc T.a14 1 x (bs.flatMap encI)::lgQ lg M2::dk M.d D2::r)) ?_ ?_
  rotate_left
  ·rintro _ w3 ⟨M2,D2,rfl,h1,h2,h3,hs⟩;rw [ei];exact z0x (bs.length-(i+1)) ⟨i+1,M2,D2,rfl,by omega,rfl,h1,h2,h3,hs⟩
  refine z1g hs (xs:=bs) (enc:=encI) i hil (wp_lt ?_);refine wp_lt (zb (zcv (lg:=lg) (by omega) hs) λ_ w' hs=>?_);obtain ⟨rfl,hs⟩:=hs;refine zd (zi (λh1=>?_) λh1=>?_)
  ·rw [if_pos h1] at hun;obtain ⟨hokm,hs⟩:=zb7 hs;refine zb (z99 (lg:=lg) bs[i] hbb (ByteArray.mk #[46,108,111,103]) (by decide) M.pre hokm.size hs) λ_ w' hs=>?_;obtain ⟨rfl,hs⟩:=hs;refine zd (zb (zdu (d:=M.d) (A:=D') (zx M.pre bs[i] (bl (ByteArray.mk #[46,108,111,103]))) hs) λ_ w' hs=>?_);obtain ⟨rfl,hs⟩:=hs;refine zd (wp_lt ?_);have en:zx M.pre bs[i] (bl (ByteArray.mk #[46,108,111,103]))=zx M.pre bs[i] z08:=rfl;rw [en] at hs ⊢;have hs:=z52 M hokm (hs.pick [1,1]);refine zi (λh2=>?_) λh2=>?_
   ·rw [if_pos h2] at hun;rw [hun] at hq;rw [hq];exact zm (zm (zg ⟨M,rfl,⟨rfl,rfl,rfl,rfl⟩,rfl,hs.sub⟩))
   ·rw [if_neg h2] at hun;rw [hun] at hq;have h2:=Decidable.not_not.1 h2;rw [h2];exact zg ⟨M,_,rfl,by omega,hq,⟨rfl,rfl,rfl,rfl⟩,hs.sub⟩
  ·rw [if_neg h1] at hun;refine zb (z0db (lg:=lg) (D:=D') bs[i] hbb (by omega) hs) λ_ w' hs=>?_;obtain ⟨rfl,M2,⟨e1,e2,e3,e4⟩,hMl,hMs,hs⟩:=hs;refine zd (wp_lt ?_);refine wp_lt ?_;have hs:Sat w' (lgQ lg M2::dk M.d (z2j M.pre M.l D' bs[i]).2.2::slc T.a14 1 x (bs.flatMap encI)::r):=hs;generalize z2j M.pre M.l D' bs[i]=SC at *;obtain ⟨⟨b0,e0⟩,l0,D0⟩:=SC;dsimp only at hun hMl hs ⊢;refine zi (λh2=>?_) λh2=>?_
   ·obtain ⟨h2a,h2b⟩:=h2;have h2a:e0=0:=h2a
    have h2b:b0=false:=by simpa using h2b
    rw [if_neg (by rw [h2a];simp),if_neg (by rw [h2b];simp)] at hun;rw [ei];refine wp_must (by omega) ?_;rw [Int.toNat_natCast];rw [<- e1] at hs;have hx:FocR (slc T.a14 1 x (bs.flatMap encI)::r) ⟨z0k x.a 1 (i+1) x.cap,x.len-(i+1),x.cap-(i+1)⟩ 1 ((bs.drop (i+1)).flatMap encI):=FocR.post hcap;refine zb (z09o (lg:=lg) (M:=M2) (D:=D0) ⟨z0k x.a 1 (i+1) x.cap,x.len-(i+1),x.cap-(i+1)⟩ (bs.drop (i+1)) (λb hb=>hlt b (List.mem_of_mem_drop hb)) hx (by rw [List.length_drop];omega) hs) λ_ w' hs=>?_;obtain ⟨rfl,hs⟩:=hs;refine zd (wp_lt ?_);rw [e2,e1] at hs;rw [e2];rw [hun] at hq;rw [hq];refine zm (zm (zg ⟨M2,rfl,⟨e1,e2,e3,e4⟩,hMl,hs.sub⟩))
   ·refine zi (λh3=>?_) λh3=>?_
    ·rw [if_pos h3] at hun;rw [hun] at hq;rw [hq];refine zm (zm (zg ⟨M2,rfl,⟨e1,e2,e3,e4⟩,hMl,hs.sub⟩))
    ·have h3:e0=0:=Decidable.not_not.1 h3
     have h4:b0=true:=by
      cases hb0:b0 with
      | true=>rfl
      | false=>exact absurd ⟨h3,by rw [hb0];simp⟩ h2
     rw [if_neg (by rw [h3];simp),if_pos h4,<- hMl] at hun;rw [hun] at hq;rw [h3];exact zg ⟨M2,D0,rfl,by omega,hq,⟨e1,e2,e3,e4⟩,hs.sub⟩
end
theorem zc3:∀ {bs:List BatM} {n:Int},0<=n->(z05 n bs).1=0->z21 n ((z05 n bs).2.map BatM.p)/\(∀ b ∈ (z05 n bs).2,n<=b.base)
 | [],n,_,_=>⟨trivial,λ_ h=>by cases h⟩
 | b::bs,n,hn,h=>by
  unfold z05 at h ⊢
  by_cases h1:z02 (b.to n)≠0
  ·rw [if_pos h1] at h;exact absurd h h1
  rw [if_neg h1] at h ⊢
  by_cases h2:(z05 (n+zo b) bs).1≠0
  ·rw [if_pos h2] at h;exact absurd h h2
  rw [if_neg h2];have hv:=Decidable.not_not.1 h1;obtain ⟨s1,-,-,-,-⟩:=z1d _ hv;have s1:1<=zo b:=s1;obtain ⟨i1,i2⟩:=zc3 (n:=n+zo b) (by omega) (Decidable.not_not.1 h2);refine ⟨⟨hv,rfl,Int.le_refl _,i1⟩,λc hc=>?_⟩
  rcases List.mem_cons.1 hc with rfl|hc
  ·exact Int.le_refl _
  ·have:=i2 c hc;omega
theorem z21.append:∀ {n:Int} {cs bs:List BatM},0<=n->z21 n cs->z21 (max n (z0s cs)) bs->z21 n (cs++bs)
 | n,[],bs,hn,_,h2=>h2.mono (by show n<=max n 0;omega)
 | n,a::cs,bs,hn,⟨h1,h2,h3,h4⟩,hb=>by
  obtain ⟨s1,-,⟨-,hba,-⟩,-,-⟩:=z1d a h1;refine ⟨h1,h2,h3,h4.append (by omega) (hb.mono ?_)⟩;have h5:a.base+zo a<=z0s (a::cs):=z21.le_next (n:=n) (bs:=a::cs) ⟨h1,h2,h3,h4⟩ (List.mem_cons_self ..)
  have h6:z0s cs<=z0s (a::cs):=by
   cases cs with
   | nil=>show (0:Int)<=_;omega
   | cons c ds=>exact Int.le_refl _
  omega
theorem z7g (l:List SegA) (s:SegA):zn (l++[s])=s.reach:=by unfold zn;rw [z25]
theorem zie (l:List SegA) (s:SegA):z5v (l++[s])=s.base:=by unfold z5v;rw [z25]
theorem z6p (l:List SegA) (s:SegA) (bs:List BatM):z7a (l++[s]) bs=l++[s.add bs]:=by unfold z7a;rw [z25];simp
theorem z15.snoc:∀ {n:Int} {l:List SegA} {s:SegA},z15 n l->SegOk s->n<=s.base->(∀ t ∈ l,t.reach<=s.base/\t.base<s.base)->z15 n (l++[s])
 | n,[],s,_,hs,hn,_=>⟨hn,hs,trivial⟩
 | n,a::l,s,⟨h1,h2,h3⟩,hs,hn,ht=>by
  have:=ht a (List.mem_cons_self ..);exact ⟨h1,h2,h3.snoc hs (by omega) λt h=>ht t (List.mem_cons_of_mem _ h)⟩
theorem z15.front:∀ {n:Int} {l:List SegA} {s:SegA},z15 n (l++[s])->z15 n l/\SegOk s/\n<=s.base/\∀ t ∈ l,t.reach<=s.base/\t.base<s.base
 | n,[],s,h=>⟨trivial,h.2.1,h.1,λ_ h=>by cases h⟩
 | n,a::l,s,⟨h1,h2,h3⟩=>by
  obtain ⟨i1,i2,i3,i4⟩:=h3.front;have:=(z74 h2).1;refine ⟨⟨h1,h2,i1⟩,i2,by omega,λt ht=>?_⟩
  rcases List.mem_cons.1 ht with rfl|ht
  ·omega
  ·exact i4 t ht
theorem z000 {s:SegA} (hs:SegOk s) {bs:List BatM} {n:Int} (h:(z05 n bs).1=0) (hn:n=s.reach):SegOk (s.add (z05 n bs).2):=by
 have hr:=z74 hs;have hb:=hs.base;refine ⟨hs.base,hs.fin,?_⟩;subst hn
 have hm:max s.base (z0s s.bs)<=s.reach:=by omega
 exact hs.bs.append hb.1 ((zc3 (by omega) h).1.mono hm)
theorem zqj {bs:List BatM} {n:Int} (h:(z05 n bs).1=0) (hb:bs≠[]):0<=n/\n<=1099511627776:=by
 cases bs with
 | nil=>exact absurd rfl hb
 | cons b bs =>
  unfold z05 at h
  by_cases h1:z02 (b.to n)≠0
  ·rw [if_pos h1] at h;exact absurd h h1
  ·obtain ⟨-,-,⟨-,hba,-⟩,-,-⟩:=z1d _ (Decidable.not_not.1 h1);exact hba
def z2p (seg:Int) (l:List SegA) (bs:List BatM):(Int × Int) × List SegA :=
 if bs=[] then ((0,3),l) else if (z05 (zn l) bs).1≠0 then ((0,(z05 (zn l) bs).1),l) else
 ((zn l,0),if z7z seg l ((z05 (zn l) bs).2.flatMap frL).length then z7a l (z05 (zn l) bs).2 else l++[(⟨zn l,0,[]⟩:SegA).add (z05 (zn l) bs).2])
theorem zmc {seg:Int} {l:List SegA} {bs:List BatM} (h:z15 0 l):z15 0 (z2p seg l bs).2:=by
 unfold z2p;split
 ·exact h
 rename_i hb
 split
 ·exact h
 rename_i hp
 have hp:=Decidable.not_not.1 hp;have hv:=zqj hp hb;simp only;split
 ·rename_i hr
  have hne:l≠[]:=by rintro rfl;cases hr
  obtain ⟨l0,s,rfl⟩:=z6b hne;rw [z6p];obtain ⟨h1,h2,h3,h4⟩:=h.front;exact h1.snoc (z000 h2 hp (z7g _ _)) h3 h4
 ·rename_i hr
  have hs:SegOk ((⟨zn l,0,[]⟩:SegA).add (z05 (zn l) bs).2):=by
   refine ⟨hv,.inl rfl,?_⟩;show z21 _ ([]++_);rw [List.nil_append];exact (zc3 hv.1 hp).1
  refine h.snoc hs hv.1 λt ht=>?_;show t.reach<=zn l/\t.base<zn l;have hne:l≠[]:=List.ne_nil_of_mem ht;obtain ⟨l0,s,rfl⟩:=z6b hne;obtain ⟨h1,h2,h3,h4⟩:=h.front;rw [z7g];have hsr:=z74 h2
  have hlast:s.base<s.reach:=by
   have hr2:z7z seg (l0++[s]) ((z05 (zn (l0++[s])) bs).2.flatMap frL).length=false:=by simpa using hr
   unfold z7z at hr2;rw [z25] at hr2;simp only [Bool.or_eq_false_iff,decide_eq_false_iff_not] at hr2
   have hbs:s.bs≠[]:=by rintro hbs;rw [hbs] at hr2;exact hr2.1 rfl
   have:=hsr.2.2.2.2 hbs;omega
  rcases List.mem_append.1 ht with ht|ht
  ·have:=h4 t ht;omega
  ·simp only [List.mem_cons,List.not_mem_nil,or_false] at ht;subst ht;exact ⟨Int.le_refl _,hlast⟩
theorem zit (pre:ByteArray) (seg:Int) (l:List SegA) (D:DiskA) (bs:List BatM):((z0u pre seg l D bs).1=(z2p seg l bs).1/\(z0u pre seg l D bs).2.1=(z2p seg l bs).2)\/((z0u pre seg l D bs).1.1=0/\(z0u pre seg l D bs).1.2≠0/\(z0u pre seg l D bs).2.1=l/\(z2p seg l bs).1.2=0):=by
 unfold z0u z2p;split
 ·exact .inl ⟨rfl,rfl⟩
 split
 ·exact .inl ⟨rfl,rfl⟩
 split
 ·split
  ·rename_i h;exact .inr ⟨rfl,h,rfl,rfl⟩
  ·exact .inl ⟨rfl,rfl⟩
 ·split
  ·rename_i h;exact .inr ⟨rfl,h,rfl,rfl⟩
  split
  ·rename_i h;exact .inr ⟨rfl,h,rfl,rfl⟩
  ·exact .inl ⟨rfl,rfl⟩
theorem z00z {pre:ByteArray} {seg:Int} {l:List SegA} {D:DiskA} {bs:List BatM} (h:z15 0 l):z15 0 (z0u pre seg l D bs).2.1:=by
 rcases zit pre seg l D bs with ⟨-,h2⟩|⟨-,-,h2,-⟩
 ·rw [h2];exact zmc h
 ·rw [h2];exact h
def aP:ByteArray:=ByteArray.mk #[112]
structure Calm (D:DiskA):Prop where
 gone:D.gone=false
 left:D.left = -1
theorem zld {D:DiskA} (h:D.left = -1):z3e D=D:=by unfold z3e;rw [if_neg (by omega)]
theorem znn {D:DiskA} (h:Calm D) (n:ByteArray) (bs:List UInt8):Calm (z0b D n bs).2:=by
 unfold z0b;split
 ·exact h
 split
 ·exact h
 split
 ·exact h
 ·show Calm (z3e _);rw [zld (by exact h.left)];exact ⟨h.gone,h.left⟩
theorem z026 {D:DiskA} (h:Calm D) (ns:List ByteArray):Calm (z29 D ns).2:=by
 unfold z29;split
 ·exact h
 split
 ·exact h
 ·show Calm (z3e _);rw [zld (by exact h.left)];exact ⟨h.gone,h.left⟩
theorem zdn {D:DiskA} (h:Calm D) (pre:ByteArray) (l:List SegA):Calm (z0p pre l D).2:=by
 unfold z0p;split
 ·exact h
 ·exact z026 h _
theorem z8m {A:DiskA} {n:ByteArray} {bs:List UInt8}:(z0b A n bs).2.fs.length<=A.fs.length+1/\((z0r A.fs n).isSome=true->(z0b A n bs).2.fs.length=A.fs.length):=by
 unfold z0b;split
 ·exact ⟨by show A.fs.length<=_;omega,λ_=>rfl⟩
 split
 ·exact ⟨by show A.fs.length<=_;omega,λ_=>rfl⟩
 split
 ·exact ⟨by show A.fs.length<=_;omega,λ_=>rfl⟩
 ·show (z3e _).fs.length<=_/\(_->(z3e _).fs.length=_);rw [z93];show (if z2b A.fs n=true then _ else _:List FileA).length<=_/\(_->(if z2b A.fs n=true then _ else _:List FileA).length=_);rw [<- z7e];split
  ·rw [List.length_map];exact ⟨by omega,λ_=>rfl⟩
  ·rename_i h
   rw [(z6y _ _).length_eq];exact ⟨by simp,λh2=>absurd h2 h⟩
structure Cpl (pre:ByteArray) (l:List SegA) (D:DiskA):Prop where
 ok:okA D
 segs:z15 0 l
 has:znh pre l D
 only:∀ n,(z0r D.fs n).isSome=true->(bl (z1n pre)).isPrefixOf (bl n)=true->∃ s ∈ l,n=zx pre s.base z08
def z6f (l:List SegA):Nat:=(l.map λs=>s.file.length).sum
theorem z8k (l:List SegA) (s:SegA):z6f (l++[s])=z6f l+s.file.length:=by simp [z6f]
theorem zke {pre:ByteArray} {s t:SegA} (hs:SegOk s) (ht:SegOk t) (h:s.base≠t.base):zx pre s.base z08≠zx pre t.base z08:=λe=>by
 have h1:=hs.base;have h2:=ht.base;exact h (z01a (by omega) (by omega) e).1
theorem zg0 {pre:ByteArray} (hp:z2n pre=true) (base:Int):z3u (zx pre base z08)=true:=zqf hp base rfl (by decide)
structure Fr (pre:ByteArray) (D D':DiskA):Prop where
 room:D'.room=D.room
 other:∀ m,(bl (z1n pre)).isPrefixOf (bl m)=false->z0r D'.fs m=z0r D.fs m
theorem Fr.refl (pre:ByteArray) (D:DiskA):Fr pre D D:=⟨rfl,λ_ _=>rfl⟩
theorem Fr.trans {pre:ByteArray} {D D' D'':DiskA} (h1:Fr pre D D') (h2:Fr pre D' D''):Fr pre D D'':=⟨h2.room.trans h1.room,λm hm=>(h2.other m hm).trans (h1.other m hm)⟩
theorem z05l {D:DiskA} (hok:okA D) (n:ByteArray):okA (z29 D [n]).2/\(z29 D [n]).2.room=D.room/\used (z29 D [n]).2.fs=used D.fs/\(z29 D [n]).2.fs.length=D.fs.length /\
  ∀ m,z0r (z29 D [n]).2.fs m=z0r D.fs m\/(m=n/\(z29 D [n]).1=0/\z0r (z29 D [n]).2.fs m=(z0r D.fs m).map λp=>(p.1,p.1.length)):=by
 by_cases h:(z29 D [n]).1=0
 ·obtain ⟨-,h1,h2,h3,h4,h5⟩:=z0bc hok h;refine ⟨h1,h2,h3,h4,λm=>?_⟩
  by_cases hm:n=m
  ·subst hm;refine .inr ⟨rfl,h,?_⟩;rw [h5];simp
  ·refine .inl ?_;rw [h5];simp [hm]
 ·rcases zi3 (A:=D) (n:=n) with ⟨h1,-,-,-⟩|⟨-,-,h4⟩|⟨-,-,-,h4⟩
  ·exact absurd h1 h
  ·rw [h4];exact ⟨hok,rfl,rfl,rfl,λm=>.inl rfl⟩
  ·rw [h4];exact ⟨hok,rfl,rfl,rfl,λm=>.inl rfl⟩
theorem Cpl.same {pre:ByteArray} {l:List SegA} {D D':DiskA} (h:Cpl pre l D) (hok:okA D') (hf:∀ m,(bl (z1n pre)).isPrefixOf (bl m)=true->(z0r D'.fs m).map Prod.fst=(z0r D.fs m).map Prod.fst):Cpl pre l D':=by
 refine ⟨hok,h.segs,λs hs=>?_,λn hn hp=>?_⟩
 ·obtain ⟨k,hk⟩:=h.has s hs;have:=hf _ (z72 pre s.base z08);rw [hk] at this
  cases hq:z0r D'.fs (zx pre s.base z08) with
  | none=>rw [hq] at this;cases this
  | some q =>
   rw [hq] at this;simp only [Option.map_some,Option.some.injEq] at this;exact ⟨q.2,by rw [<- this]⟩
 ·refine h.only n ?_ hp;have:=hf n hp
  cases hq:z0r D.fs n with
  | none =>
   rw [hq] at this
   cases hq2:z0r D'.fs n with
   | none=>rw [hq2] at hn;cases hn
   | some q=>rw [hq2] at this;cases this
  | some q=>rfl
theorem z5s {pre:ByteArray} {l:List SegA} {D:DiskA} (h:Cpl pre l D):Cpl pre l (z0p pre l D).2/\Fr pre D (z0p pre l D).2/\used (z0p pre l D).2.fs=used D.fs/\(z0p pre l D).2.fs.length=D.fs.length/\(Calm D->(z0p pre l D).1=0):=by
 unfold z0p
 cases hl:l.getLast? with
 | none=>exact ⟨h,.refl _ _,rfl,rfl,λ_=>rfl⟩
 | some s =>
  simp only;obtain ⟨h1,h2,h3,h4,h5⟩:=z05l h.ok (zx pre s.base z08);refine ⟨h.same h1 λm hm=>?_,⟨h2,λm hm=>?_⟩,h3,h4,λhc=>?_⟩
  ·rcases h5 m with h6|⟨-,-,h6⟩
   ·rw [h6]
   ·rw [h6,Option.map_map];rfl
  ·rcases h5 m with h6|⟨h6,-,-⟩
   ·exact h6
   ·rw [h6,z72] at hm;cases hm
  ·rcases zi3 (A:=D) (n:=zx pre s.base z08) with ⟨h6,-,-,-⟩|⟨-,h6,-⟩|⟨-,-,h6,-⟩
   ·exact h6
   ·rw [hc.gone] at h6;cases h6
   ·obtain ⟨k,hk⟩:=h.has s (List.mem_of_getLast? hl);rw [hk] at h6;cases h6
theorem Cpl.grow {pre:ByteArray} {l0:List SegA} {s s':SegA} {D:DiskA} {x:List UInt8} (hp:z2n pre=true) (h:Cpl pre (l0++[s]) D) (hsegs:z15 0 (l0++[s'])) (hb:s'.base=s.base) (hx:s'.file=s.file++x) (ha:(z0b D (zx pre s.base z08) x).1=0) :
  Cpl pre (l0++[s']) (z0b D (zx pre s.base z08) x).2/\Fr pre D (z0b D (zx pre s.base z08) x).2/\used (z0b D (zx pre s.base z08) x).2.fs+z6f (l0++[s])=used D.fs+z6f (l0++[s'])/\(z0b D (zx pre s.base z08) x).2.fs.length=D.fs.length:=by
 obtain ⟨h1,h2,h3,h4,h5,h6,h7⟩:=zl3 h.ok ha;obtain ⟨k,hk⟩:=h.has s (by simp);obtain ⟨f1,f2,f3,f4⟩:=h.segs.front;refine ⟨⟨h4,hsegs,λt ht=>?_,λn hn hpn=>?_⟩,⟨h5,λm hm=>?_⟩,?_,(z8m.2 (by rw [hk];rfl))⟩
 ·rcases List.mem_append.1 ht with ht|ht
  ·have hto:=(f1.mem t ht).1;have hne:zx pre t.base z08≠zx pre s.base z08:=zke hto f2 (by have:=(f4 t ht).2;omega);rw [h7,if_neg hne];exact h.has t (by simp [ht])
  ·simp only [List.mem_cons,List.not_mem_nil,or_false] at ht;subst ht;rw [hb,h7,if_pos rfl,hk,hx];exact ⟨k,rfl⟩
 ·rw [h7] at hn
  by_cases hm:n=zx pre s.base z08
  ·exact ⟨s',by simp,by rw [hb];exact hm⟩
  ·rw [if_neg hm] at hn;obtain ⟨t,ht,rfl⟩:=h.only n hn hpn
   rcases List.mem_append.1 ht with ht|ht
   ·exact ⟨t,by simp [ht],rfl⟩
   ·simp only [List.mem_cons,List.not_mem_nil,or_false] at ht;subst ht;exact absurd rfl hm
 ·rw [h7,if_neg];rintro rfl;rw [z72] at hm;cases hm
 ·rw [h6,z8k,z8k,hx,List.length_append];omega
theorem Cpl.begin {pre:ByteArray} {l:List SegA} {s:SegA} {D:DiskA} (h:Cpl pre l D) (hsegs:z15 0 (l++[s])) (ha:(z0b D (zx pre s.base z08) s.file).1=0) :
  Cpl pre (l++[s]) (z0b D (zx pre s.base z08) s.file).2/\Fr pre D (z0b D (zx pre s.base z08) s.file).2/\used (z0b D (zx pre s.base z08) s.file).2.fs+z6f l=used D.fs+z6f (l++[s])/\(z0b D (zx pre s.base z08) s.file).2.fs.length<=D.fs.length+1:=by
 obtain ⟨h1,h2,h3,h4,h5,h6,h7⟩:=zl3 h.ok ha;obtain ⟨f1,f2,f3,f4⟩:=hsegs.front
 have hnone:z0r D.fs (zx pre s.base z08)=none:=by
  cases hq:z0r D.fs (zx pre s.base z08) with
  | none=>rfl
  | some q =>
   obtain ⟨t,ht,e⟩:=h.only _ (by rw [hq];rfl) (z72 pre s.base z08);exact absurd e (zke f2 (f1.mem t ht).1 (by have:=(f4 t ht).2;omega))
 refine ⟨⟨h4,hsegs,λt ht=>?_,λn hn hpn=>?_⟩,⟨h5,λm hm=>?_⟩,?_,z8m.1⟩
 ·rcases List.mem_append.1 ht with ht|ht
  ·have hto:=(f1.mem t ht).1;have hne:zx pre t.base z08≠zx pre s.base z08:=zke hto f2 (by have:=(f4 t ht).2;omega);rw [h7,if_neg hne];exact h.has t ht
  ·simp only [List.mem_cons,List.not_mem_nil,or_false] at ht;subst ht;rw [h7,if_pos rfl,hnone];exact ⟨0,rfl⟩
 ·rw [h7] at hn
  by_cases hm:n=zx pre s.base z08
  ·exact ⟨s,by simp,hm⟩
  ·rw [if_neg hm] at hn;obtain ⟨t,ht,rfl⟩:=h.only n hn hpn;exact ⟨t,by simp [ht],rfl⟩
 ·rw [h7,if_neg];rintro rfl;rw [z72] at hm;cases hm
 ·rw [h6,z8k];omega
def Stp (pre:ByteArray) (l:List SegA) (D:DiskA) (l':List SegA) (D':DiskA):Prop :=
 Cpl pre l' D'/\Fr pre D D'/\used D'.fs+z6f l=used D.fs+z6f l'/\D'.fs.length+l.length<=D.fs.length+l'.length/\(Calm D->Calm D')
theorem Stp.same {pre:ByteArray} {l:List SegA} {D:DiskA} (h:Cpl pre l D):Stp pre l D l D:=⟨h,.refl _ _,rfl,Nat.le_refl _,id⟩
theorem Stp.trans {pre:ByteArray} {l l' l'':List SegA} {D D' D'':DiskA} (h1:Stp pre l D l' D') (h2:Stp pre l' D' l'' D''):Stp pre l D l'' D'' :=
 ⟨h2.1,h1.2.1.trans h2.2.1,by have:=h1.2.2.1;have:=h2.2.2.1;omega,by have:=h1.2.2.2.1;have:=h2.2.2.2.1;omega,λh=>h2.2.2.2.2 (h1.2.2.2.2 h)⟩
theorem zfc {pre:ByteArray} {l:List SegA} {D:DiskA} (h:Cpl pre l D):Stp pre l D l (z0p pre l D).2:=by
 obtain ⟨h1,h2,h3,h4,-⟩:=z5s h;exact ⟨h1,h2,by omega,by omega,λhc=>zdn hc _ _⟩
theorem zpo (n:Int) (bs:List BatM):(SegA.add ⟨n,0,[]⟩ bs).file=shL n 0++bs.flatMap frL:=by
 rw [z95];simp [SegA.file]
theorem z96 {pre:ByteArray} (seg:Int) {l:List SegA} {D:DiskA} (bs:List BatM) (hp:z2n pre=true) (h:Cpl pre l D):Stp pre l D (z0u pre seg l D bs).2.1 (z0u pre seg l D bs).2.2:=by
 have hsegs:=zmc (seg:=seg) (bs:=bs) h.segs;unfold z0u;unfold z2p at hsegs;split
 ·exact .same h
 rename_i hb
 rw [if_neg hb] at hsegs;split
 ·exact .same h
 rename_i hpl
 rw [if_neg hpl] at hsegs;simp only at hsegs;split
 ·rename_i hr
  rw [if_pos hr] at hsegs
  have hne:l≠[]:=by rintro rfl;cases hr
  obtain ⟨l0,s,rfl⟩:=z6b hne;rw [zie];rw [z6p] at hsegs;split
  ·rename_i he
   simp only;rw [zic he];exact .same h
  ·rename_i he
   have he:=Decidable.not_not.1 he;simp only;rw [z6p];obtain ⟨c1,c2,c3,c4⟩:=h.grow hp hsegs rfl (z95 _ _) he;exact ⟨c1,c2,c3,by rw [List.length_append,List.length_append];simp;omega,λhc=>znn hc _ _⟩
 ·rename_i hr
  rw [if_neg hr] at hsegs;have hst:=zfc h;split
  ·exact hst
  split
  ·rename_i he
   simp only;rw [zic he];exact hst
  ·rename_i he
   have he:=Decidable.not_not.1 he;simp only;rw [<- zpo] at he ⊢;obtain ⟨c1,c2,c3,c4⟩:=hst.1.begin (s:=SegA.add ⟨zn l,0,[]⟩ (z05 (zn l) bs).2) hsegs he;refine hst.trans ⟨c1,c2,c3,?_,λhc=>znn hc _ _⟩;rw [List.length_append,List.length_singleton];have c4:(z0b (z0p pre l D).2 (zx pre (zn l) z08) _).2.fs.length<=_:=c4;omega
theorem zlw {pre:ByteArray} (seg:Int) {l:List SegA} {D:DiskA} (bs:List BatM) (hp:z2n pre=true) (h:Cpl pre l D) (hc:Calm D) :
  ((z0u pre seg l D bs).1=(z2p seg l bs).1/\(z0u pre seg l D bs).2.1=(z2p seg l bs).2) \/
  ((z0u pre seg l D bs).1=(0,5)/\(z0u pre seg l D bs).2.1=l/\(z2p seg l bs).1.2=0/\(z05 (zn l) bs).1=0/\(((z05 (zn l) bs).2.flatMap frL).length+(shL (zn l) 0).length>D.free\/D.fs.length>=128)):=by
 unfold z0u z2p;split
 ·exact .inl ⟨rfl,rfl⟩
 split
 ·exact .inl ⟨rfl,rfl⟩
 rename_i hpl
 have hpl:=Decidable.not_not.1 hpl;split
 ·rename_i hr
  split
  ·rename_i he
   have hne:l≠[]:=by rintro rfl;cases hr
   obtain ⟨l0,s,rfl⟩:=z6b hne;rw [zie] at he ⊢;obtain ⟨k,hk⟩:=h.has s (by simp)
   have h5:(z0b D (zx pre s.base z08) ((z05 (zn (l0++[s])) bs).2.flatMap frL)).1=5:=by
    rcases zgi (A:=D) (n:=zx pre s.base z08) (bs:=(z05 (zn (l0++[s])) bs).2.flatMap frL) (zg0 hp _) with h6|⟨-,h6⟩|⟨h6,-⟩
    ·exact absurd h6 he
    ·rw [hc.gone] at h6;cases h6
    ·exact h6
   refine .inr ⟨by rw [h5],rfl,rfl,hpl,.inl ?_⟩;apply Nat.lt_of_not_le;intro hle;exact he (zgj hc.gone (zg0 hp _) (by omega) (.inl (by rw [hk];simp)))
  ·exact .inl ⟨rfl,rfl⟩
 ·rename_i hr
  obtain ⟨s1,s2,s3,s4,s5⟩:=z5s h;have s5:=s5 hc;have hc2:=zdn hc pre l;rw [if_neg (by rw [s5];simp)];split
  ·rename_i he
   have h5:(z0b (z0p pre l D).2 (zx pre (zn l) z08) (shL (zn l) 0++(z05 (zn l) bs).2.flatMap frL)).1=5:=by
    rcases zgi (A:=(z0p pre l D).2) (n:=zx pre (zn l) z08) (bs:=shL (zn l) 0++(z05 (zn l) bs).2.flatMap frL) (zg0 hp _) with h6|⟨-,h6⟩|⟨h6,-⟩
    ·exact absurd h6 he
    ·rw [hc2.gone] at h6;cases h6
    ·exact h6
   refine .inr ⟨by rw [h5],rfl,rfl,hpl,?_⟩
   by_cases hfl:D.fs.length>=128
   ·exact .inr hfl
   refine .inl ?_;apply Nat.lt_of_not_le;intro hle;refine he (zgj hc2.gone (zg0 hp _) ?_ (.inr (by omega)))
   have:(z0p pre l D).2.free=D.free:=by unfold DiskA.free;rw [s2.room,s3]
   rw [this,List.length_append];omega
  ·exact .inl ⟨rfl,rfl⟩
theorem zml:∀ {xs ys:List ByteArray},xs.Pairwise (λa b=>ltS a b=true)->ys.Pairwise (λa b=>ltS a b=true)->(∀ n,n ∈ xs↔n ∈ ys)->xs=ys
 | [],[],_,_,_=>rfl
 | [],y::ys,_,_,h=>absurd ((h y).2 (List.mem_cons_self ..)) (by simp)
 | x::xs,[],_,_,h=>absurd ((h x).1 (List.mem_cons_self ..)) (by simp)
 | x::xs,y::ys,hx,hy,h=>by
  rw [List.pairwise_cons] at hx hy
  have hxy:x=y:=by
   rcases List.mem_cons.1 ((h x).1 (List.mem_cons_self ..)) with h1|h1
   ·exact h1
   ·rcases List.mem_cons.1 ((h y).2 (List.mem_cons_self ..)) with h2|h2
    ·exact h2.symm
    ·have h3:=hy.1 x h1;have h4:=hx.1 y h2;rw [z015 h3] at h4;cases h4
  subst hxy
  congr 1
  refine zml hx.2 hy.2 λn=>?_;constructor
  ·intro hn
   rcases List.mem_cons.1 ((h n).1 (List.mem_cons_of_mem _ hn)) with h1|h1
   ·subst h1;have:=hx.1 n hn;rw [z8q] at this;cases this
   ·exact h1
  ·intro hn
   rcases List.mem_cons.1 ((h n).2 (List.mem_cons_of_mem _ hn)) with h1|h1
   ·subst h1;have:=hy.1 n hn;rw [z8q] at this;cases this
   ·exact h1
theorem zur (p s:ByteArray):Go.Proofs.YtogdpmpccmpekaaGreat.preF p s=(bl p).isPrefixOf (bl s):=by
 unfold Go.Proofs.YtogdpmpccmpekaaGreat.preF;rw [ByteArray.toList_eq,ByteArray.toList_eq]
theorem z019 {D:DiskA} {pre n:ByteArray}:n ∈ z17 (z1n pre) D.fs↔(z0r D.fs n).isSome=true/\(bl (z1n pre)).isPrefixOf (bl n)=true:=by
 unfold z17;rw [List.mem_filter,<- z7e,z6t,zur];constructor
 ·rintro ⟨h1,h2⟩;obtain ⟨f,hf,rfl⟩:=List.mem_map.1 h1;exact ⟨⟨f,hf,rfl⟩,h2⟩
 ·rintro ⟨⟨f,hf,rfl⟩,h2⟩;exact ⟨List.mem_map.2 ⟨f,hf,rfl⟩,h2⟩
theorem zot {D:DiskA} (hok:okA D) (p:ByteArray):(z17 p D.fs).Pairwise λa b=>ltS a b=true:=by
 unfold z17;exact ((List.pairwise_map.2 hok.sorted).filter _)
theorem zgy (pre:ByteArray):∀ {n:Int} {l:List SegA},z15 n l->(l.map λs=>zx pre s.base z08).Pairwise λa b=>ltS a b=true
 | _,[],_=>List.Pairwise.nil
 | n,s::l,⟨h1,h2,h3⟩=>by
  rw [List.map_cons,List.pairwise_cons];refine ⟨λm hm=>?_,zgy pre h3⟩;obtain ⟨t,ht,rfl⟩:=List.mem_map.1 hm;have h4:=h3.mem t ht;have:=h2.base;have:=h4.1.base;exact (z016 pre (by omega) (by omega) z08).2 (by omega)
theorem Cpl.names {pre:ByteArray} {l:List SegA} {D:DiskA} (h:Cpl pre l D):z17 (z1n pre) D.fs=l.map λs=>zx pre s.base z08:=by
 refine zml (zot h.ok _) (zgy pre h.segs) λn=>?_;rw [z019];constructor
 ·rintro ⟨h1,h2⟩;obtain ⟨s,hs,rfl⟩:=h.only n h1 h2;exact List.mem_map.2 ⟨s,hs,rfl⟩
 ·intro hn;obtain ⟨s,hs,rfl⟩:=List.mem_map.1 hn;obtain ⟨k,hk⟩:=h.has s hs;exact ⟨by rw [hk];rfl,z72 pre s.base z08⟩
theorem zin (pre:ByteArray) (D:DiskA):∀ {l:List SegA},(∀ s ∈ l,SegOk s)->z13 pre (l.map λs=>zx pre s.base z08) D=(0,l.map SegA.base,D)
 | [],_=>rfl
 | s::l,h=>by
  have hb:=(h s (List.mem_cons_self ..)).base;have h1:z1m pre (zx pre s.base z08) z08=some s.base.toNat:=zgk pre (by omega) z08;have h2:z1m pre (zx pre s.base z08) z9a=none:=zl7 h1 (by decide);rw [List.map_cons];unfold z13;rw [h2];rw [if_neg (by rintro ⟨h3,-⟩;cases h3)];simp only [Option.isSome_none,Bool.false_eq_true,if_false];rw [zin pre D λt ht=>h t (List.mem_cons_of_mem _ ht),h1];simp only [List.map_cons]
  have e:((s.base.toNat:Nat):Int)=s.base:=by omega
  rw [e];rfl
theorem zj3 {pre:ByteArray} {D:DiskA}:∀ {l l1:List SegA},z15 0 (l1++l)->(∀ s ∈ l,∃ k,z0r D.fs (zx pre s.base z08)=some (s.file,k))->z4b pre (l.map SegA.base) l1 D=(0,l1++l,D)
 | [],l1,_,_=>by unfold z4b;simp
 | s::l,l1,hok,hh=>by
  rw [List.map_cons];unfold z4b
  have hok2:z15 0 ((l1++[s])++l):=by rwa [List.append_assoc]
  have hs:SegOk s:=(hok.mem s (by simp)).1;obtain ⟨k,hk⟩:=hh s (List.mem_cons_self ..)
  have hb:¬ s.base<zn l1:=by
   have:=hs.base
   by_cases h0:l1=[]
   ·subst h0;show ¬ s.base<0;omega
   ·obtain ⟨l0,t,rfl⟩:=z6b h0;rw [z7g];have h1:=hok.skip l0.length (l0.length+1) (by simp) (by omega)
    have e1:(l0++[t]++s::l)[l0.length]'(by simp)=t:=by simp
    have e2:(l0++[t]++s::l)[l0.length+1]'(by simp)=s:=by
     rw [List.getElem_append_right (by simp)];simp
    rw [e1,e2] at h1;omega
  have hsc:z2j pre l1 D s.base=((true,0),l1++[s],D):=by
   unfold z2j;rw [hk];simp only;rw [z01v hs];simp only;rw [if_pos trivial]
  rw [if_neg hb,hsc,if_neg (by simp),if_pos rfl];simp only;rw [zj3 hok2 λt ht=>hh t (List.mem_cons_of_mem _ ht),List.append_assoc];rfl
theorem Cpl.opened {pre:ByteArray} {l:List SegA} {D:DiskA} (h:Cpl pre l D):z7s pre D=(0,l,D):=by
 unfold z7s;rw [h.names,zin pre D λs hs=>(h.segs.mem s hs).1];rw [if_neg (by simp)];simp only;have:=zj3 (pre:=pre) (D:=D) (l:=l) (l1:=[]) h.segs h.has;rw [this];rfl
theorem zla (pre:ByteArray) (n:Nat) (hn:n<=4194304):Cpl pre [] ⟨n,-1,false,[]⟩ :=
 ⟨⟨hn,by show (0:Nat)<=_;omega,by show (0:Nat)<=_;omega,by show -1<=(-1:Int)/\(-1:Int)<=_;omega,List.Pairwise.nil,(λf h=>by cases h),λf h=>by cases h⟩,trivial,(λs h=>by cases h),λn h=>by cases h⟩
structure SegR where
 base:Int
 fin:Int
 x:Sl
 bs:List BatM
structure RefM where
 seg:Int
 gap:Int
 SR:List SegR
def zbj (t:ByteArray):ByteArray:=if t.size>30 then t.extract 0 30 else t
def zfn (r:RecM):RecM:=⟨zbj r.key,zbj r.value,r.gone,r.time⟩
def z32 (b:BatM):BatM:=⟨b.base,b.pid,b.epoch,b.seq,b.kind,b.time,z9b,(b.rs.take 6).map zfn⟩
theorem zh0 (t:ByteArray):(zbj t).size<=30:=by
 unfold zbj;split
 ·rw [ByteArray.size_extract];omega
 ·omega
theorem z01y (b:BatM) (n:Int) (z:Sl):2<=(z2y (((z32 b).at z).to n)).length/\(z2y (((z32 b).at z).to n)).length<=668:=by
 have h:=ztn (b:=((z32 b).at z).to n) (n:=60) λr hr=>by
  obtain ⟨q,-,rfl⟩:=List.mem_map.1 (show r ∈ (b.rs.take 6).map zfn from hr);have h1:=zh0 q.key;have h2:=zh0 q.value;show (zbj q.key).size+(zbj q.value).size<=60;omega
 have h3:(((z32 b).at z).to n).rs.length<=6:=by
  show ((b.rs.take 6).map zfn).length<=6;rw [List.length_map,List.length_take];omega
 omega
theorem zmn {nm:SegA->ByteArray}:∀ {fs:List FileA} {l:List SegA},fs.map (·.name)=l.map nm->(∀ f ∈ fs,∀ s ∈ l,f.name=nm s->f.b=s.file)->used fs=z6f l
 | [],[],_,_=>rfl
 | [],s::l,h,_=>by simp at h
 | f::fs,[],h,_=>by simp at h
 | f::fs,s::l,h,hh=>by
  rw [List.map_cons,List.map_cons,List.cons.injEq] at h;have h1:=hh f (List.mem_cons_self ..) s (List.mem_cons_self ..) h.1;have h2:=zmn h.2 λf hf s hs=>hh f (List.mem_cons_of_mem _ hf) s (List.mem_cons_of_mem _ hs);rw [z2a,h2,h1];simp [z6f]
theorem Cpl.sizes {pre:ByteArray} {l:List SegA} {D:DiskA} (h:Cpl pre l D):l.length<=D.fs.length/\z6f l<=used D.fs:=by
 have hn:=h.names
 have e:(D.fs.filter λf=>(bl (z1n pre)).isPrefixOf (bl f.name)).map (·.name)=l.map λs=>zx pre s.base z08:=by
  rw [<- hn];unfold z17;rw [List.filter_map]
  congr 1
  apply List.filter_congr;intro f _;show _=Go.Proofs.YtogdpmpccmpekaaGreat.preF (z1n pre) f.name;rw [zur]
 have hs:=zmn e λf hf s hs hfs=>by
  have h1:=zen (z3q h.ok.sorted) (List.mem_filter.1 hf).1;obtain ⟨k,hk⟩:=h.has s hs;rw [hfs,hk] at h1;simp only [Option.some.injEq,Prod.mk.injEq] at h1;exact h1.1.symm
 have hl:=congrArg List.length e;rw [List.length_map,List.length_map] at hl;exact ⟨by rw [<- hl];exact List.length_filter_le _ _,by rw [<- hs];exact z05w List.filter_sublist⟩
theorem zv3:∀ {n:Int} {l:List SegA},z15 n l->(z0e l).length*10<=z6f l
 | _,[],_=>Nat.le_refl _
 | n,s::l,⟨h1,h2,h3⟩=>by
  have h4:=zv3 h3;have h5:=zk4 h2
  have e1:z0e (s::l)=s.bs++z0e l:=by simp [z0e]
  have e2:z6f (s::l)=s.file.length+z6f l:=by simp [z6f]
  rw [e1,e2,List.length_append];omega
theorem Cpl.len {pre:ByteArray} {l:List SegA} {D:DiskA} (h:Cpl pre l D):l.length<=128/\(z0e l).length<=500000/\∀ s ∈ l,s.file.length<=4194304:=by
 obtain ⟨h1,h2⟩:=h.sizes;have h3:=zv3 h.segs;have h4:=h.ok.many;have h5:=h.ok.used;refine ⟨by omega,by omega,λs hs=>?_⟩;obtain ⟨k,hk⟩:=h.has s hs;exact Nat.le_trans (zfr hk) h5
theorem zqi (b:BatM) (z:Sl) (n:Int):((z05 n [(z32 b).at z]).2.flatMap frL).length<=676:=by
 unfold z05;split
 ·exact Nat.zero_le _
 ·rename_i hv
  have hv:=Decidable.not_not.1 hv;split
  ·exact Nat.zero_le _
  ·show ((((z32 b).at z).to n)::(z05 _ []).2 |>.flatMap frL).length<=676;have h1:=z01y b n z;have h2:=z68 hv;simp only [z05,List.flatMap_cons,List.flatMap_nil,List.append_nil];omega
theorem z05k {seg:Int} {l:List SegA} {bs:List BatM}:z6f (z2p seg l bs).2<=z6f l+((z05 (zn l) bs).2.flatMap frL).length+29:=by
 unfold z2p;split
 ·simp only;omega
 split
 ·simp only;omega
 simp only;split
 ·rename_i hr
  have hne:l≠[]:=by rintro rfl;cases hr
  obtain ⟨l0,s,rfl⟩:=z6b hne;rw [z6p,z8k,z8k,z95,List.length_append];omega
 ·have:=zkp (zn l) 0;rw [z8k,zpo,List.length_append];omega
theorem zw7 {pre:ByteArray} (seg:Int) {l:List SegA} {D:DiskA} (b:BatM) (z:Sl) (hp:z2n pre=true) (h:Cpl pre l D) (hc:Calm D) (hf:705<=D.free) (hl:D.fs.length<128) :
  (z0u pre seg l D [(z32 b).at z]).1=(z2p seg l [(z32 b).at z]).1/\(z0u pre seg l D [(z32 b).at z]).2.1=(z2p seg l [(z32 b).at z]).2 /\
  used (z0u pre seg l D [(z32 b).at z]).2.2.fs<=used D.fs+705/\(z0u pre seg l D [(z32 b).at z]).2.2.fs.length<=D.fs.length+1:=by
 have h1:=zqi b z (zn l);have h2:=zkp (zn l) 0;have h3:=z96 seg [(z32 b).at z] hp h;have h4:=z05k (seg:=seg) (l:=l) (bs:=[(z32 b).at z])
 rcases zlw seg [(z32 b).at z] hp h hc with ⟨e1,e2⟩|⟨-,-,-,-,h5|h5⟩
 ·refine ⟨e1,e2,?_,?_⟩
  ·have:=h3.2.2.1;rw [e2] at this;omega
  ·unfold z0u;split
   ·simp only;omega
   split
   ·simp only;omega
   split
   ·split <;> exact z8m.1
   ·obtain ⟨-,-,-,s4,-⟩:=z5s h;split
    ·simp only;omega
    split
    ·simp only;have:=(z8m (A:=(z0p pre l D).2) (n:=zx pre (zn l) z08) (bs:=shL (zn l) 0++(z05 (zn l) [(z32 b).at z]).2.flatMap frL)).1;omega
    ·simp only;have:=(z8m (A:=(z0p pre l D).2) (n:=zx pre (zn l) z08) (bs:=shL (zn l) 0++(z05 (zn l) [(z32 b).at z]).2.flatMap frL)).1;omega
 ·omega
 ·omega
theorem zei (l:List SegA) (s:SegA):z0e (l++[s])=z0e l++s.bs:=by simp [z0e]
theorem z01b {a b:List BatM} (h:b≠[]):z0s (a++b)=z0s b:=by
 obtain ⟨b0,x,rfl⟩:=z6b h;rw [<- List.append_assoc,z60,z60]
theorem z052 {seg:Int} {l:List SegA} {bs:List BatM} (hok:z15 0 l) (hb:bs≠[]) (hp:(z05 (zn l) bs).1=0) :
  z0e (z2p seg l bs).2=z0e l++(z05 (zn l) bs).2.map BatM.p/\zn (z2p seg l bs).2=z0s ((z05 (zn l) bs).2.map BatM.p):=by
 have hq1:=(zfh hp).1
 have hq:(z05 (zn l) bs).2.map BatM.p≠[]:=by
  intro h;have:=List.map_eq_nil_iff.1 h;rw [this] at hq1;exact hb (List.length_eq_zero_iff.1 hq1.symm)
 have hnx:=hok.next (Int.le_refl 0);have hlt:=((zc3 hnx.1 hp).1.next hnx.1).1 hq;unfold z2p;rw [if_neg hb,if_neg (by rw [hp];simp)];simp only;split
 ·rename_i hr
  have hne:l≠[]:=by rintro rfl;cases hr
  obtain ⟨l0,s,rfl⟩:=z6b hne;rw [z6p,zei,zei,z7g];refine ⟨by simp [SegA.add],?_⟩;have hsr:=z74 hok.front.2.1;rw [z7g] at hlt hq ⊢;show max (max s.base s.fin) (z0s (s.bs++_))=_;rw [z01b hq];omega
 ·rw [zei,z7g];refine ⟨by simp [SegA.add],?_⟩;show max (max (zn l) 0) (z0s ([]++_))=_;rw [List.nil_append];omega
theorem zcj:∀ {n:Int} {l:List SegA},0<=n->z15 n l->z21 n (z0e l)
 | _,[],_,_=>trivial
 | n,s::l,hn,⟨h1,h2,h3⟩=>by
  have e1:z0e (s::l)=s.bs++z0e l:=by simp [z0e]
  have hr:=z74 h2;have hb:=h2.base;rw [e1];refine z21.append hn (h2.bs.mono h1) ((zcj (by omega) h3).mono ?_);omega
section
variable {w:World} {l r:List HP} {lg d:Nat} {D:DiskA} {A:LogA}
theorem z0bw (b:BatM) (x:Sl) {r1:List HP} [hf:Fo l lgP lg A r1] [hf2:Fo r1 dk A.d D r] (hlen:A.l.length<=1000000) (hok:z15 0 A.l) (hfl:∀ s ∈ A.l,s.file.length<=500000000)
  (hx:FocR r x 7 ([b].flatMap z01)) (hb:FocR r b.x 4 (b.rs.flatMap z0f)) (hs:Sat w l) :
  Ret P F.a107 #[.pointer (some ⟨lg,0,none⟩),x.v] w λvs w'=>vs=[.int .i64 (z0u A.pre A.seg A.l D [b]).1.1,.int .i64 (z0u A.pre A.seg A.l D [b]).1.2] /\
   Sat w' (lgP lg (A.set (z0u A.pre A.seg A.l D [b]).2.1)::dk A.d (z0u A.pre A.seg A.l D [b]).2.2::r) :=
 z010 x [b] hlen hok hfl (by show 1<=900;omega) hx (λc hc=>by
  simp only [List.mem_cons,List.not_mem_nil,or_false] at hc;subst hc
  exact hb) hs
end
section
variable {w:World} {l r:List HP} {lg a:Nat} {A:LogA} {D:DiskA} {R:RefM}
theorem z049 {r1:List HP} [hf:Fo l lgP lg A r1] [hf2:Fo r1 dk A.d D r] (hlen:A.l.length<=1000000000) (hok:z15 0 A.l) (hs:Sat w l) :
  Ret P F.a113 #[.pointer (some ⟨lg,0,none⟩)] w λvs w'=>vs=[.int .i64 (z0p A.pre A.l D).1]/\Sat w' (lgP lg A::dk A.d (z0p A.pre A.l D).2::r):=by
 have hs:=hs.perm (hf.perm.trans (.cons _ hf2.perm));clear hf hf2;obtain ⟨M,rfl,hs⟩:=z97 hs;have hll:M.l.length=M.SM.length:=List.length_map ..;have hMl:M.A.l=M.l:=rfl;rw [hMl] at hlen hok;have hs:Sat w (lgQ lg M::dk M.d D::r):=hs;refine (zuc (lg:=lg) (M:=M) (D:=D) (by omega) hok hs).mono λvs w' h=>?_;obtain ⟨h1,h2⟩:=h;exact ⟨h1,z50 M h2⟩
set_option maxHeartbeats 1000000 in
end
section
variable {w:World} {l r:List HP} {lg:Nat} {A:LogA}
theorem z047 [hf:Fo l lgP lg A r] (hlen:A.l.length<=1000000000) (hs:Sat w l):Ret P F.a109 #[.pointer (some ⟨lg,0,none⟩)] w λvs w'=>vs=[.int .i64 (zn A.l)]/\Sat w' (lgP lg A::r):=by
 have hs:=hs.perm hf.perm;clear hf;obtain ⟨M,hM,hsn⟩:=z97 hs;clear hs;subst hM;have hll:M.l.length=M.SM.length:=List.length_map ..;have hMl:M.A.l=M.l:=rfl;rw [hMl] at hlen;refine (zcv (lg:=lg) (M:=M) (by omega) hsn).mono λvs w' h=>?_;obtain ⟨h1,h2⟩:=h;exact ⟨h1,z50 M h2⟩
set_option maxHeartbeats 1000000 in
end
structure PartA where
 L:LogA
 most:Int
 T:TabA
 V:ViewA
def paP (p:Nat) (A:PartA):HP:=HP.ex λM:Nat × Nat × Nat=>HP.star (pt p (.cells #[.pointer (some ⟨M.1,0,none⟩),.pointer (some ⟨A.L.d,0,none⟩),.string A.L.pre,.int .i64 A.most,.pointer (some ⟨M.2.1,0,none⟩),.pointer (some ⟨M.2.2,0,none⟩)] T.a39))
 (HP.star (lgP M.1 A.L) (HP.star (tb M.2.1 A.T) (vw M.2.2 A.V)))
def z5n (A:PartA):Int:=if A.V.op.length=0 then zn A.L.l else max (z5m A.V) (z19 A.L.l)
section
variable {w:World} {l r r1 r2 r3 r4 l':List HP} {p lg t v:Nat} {A:PartA} {D:DiskA}
theorem z69 (hs:Sat w (paP p A::l)):∃ lg t v:Nat,Sat w (pt p (.cells #[.pointer (some ⟨lg,0,none⟩),.pointer (some ⟨A.L.d,0,none⟩),.string A.L.pre,.int .i64 A.most,.pointer (some ⟨t,0,none⟩),.pointer (some ⟨v,0,none⟩)] T.a39)::lgP lg A.L::tb t A.T::vw v A.V::l):=by
 obtain ⟨⟨lg,t,v⟩,hs⟩:=hs.ex;have hs:=hs.star;have hs:=(hs.pick [1]).star;have hs:=(hs.pick [1]).star;exact ⟨lg,t,v,hs.pick [3,2,0]⟩
theorem z0gj (lg t v:Nat) (hs:Sat w (pt p (.cells #[.pointer (some ⟨lg,0,none⟩),.pointer (some ⟨A.L.d,0,none⟩),.string A.L.pre,.int .i64 A.most,.pointer (some ⟨t,0,none⟩),.pointer (some ⟨v,0,none⟩)] T.a39)::lgP lg A.L::tb t A.T::vw v A.V::l)):Sat w (paP p A::l):=by
 have h1:=(hs.pick [2,2]).star_mk;have h2:=(h1.pick [2,0]).star_mk;exact .ex_mk (lg,t,v) ((h2.pick [1]).star_mk)
theorem z39 (A:PartA) (hs:Sat w l) [h1:FocB l p (.cells [.pointer (some ⟨lg,0,none⟩),.pointer (some ⟨A.L.d,0,none⟩),.string A.L.pre,.int .i64 A.most,.pointer (some ⟨t,0,none⟩),.pointer (some ⟨v,0,none⟩)].toArray T.a39) r1] [h2:Fo r1 lgP lg A.L r2] [h3:Fo r2 tb t A.T r3] [h4:Fo r3 vw v A.V r4] [h5:Sub r4 l']:Sat w (paP p A::l'):=by
 have hs:=hs.perm (h1.perm.trans (.cons _ (h2.perm.trans (.cons _ (h3.perm.trans (.cons _ h4.perm))))));have hs:Sat w (paP p A::r4):=z0gj lg t v hs;exact hs.sub
theorem zuq [hf:Fo l paP p A r] (hlen:A.L.l.length<=1000000000) (hs:Sat w l):Ret P F.a78 #[.pointer (some ⟨p,0,none⟩)] w λvs w'=>vs=[.int .i64 (zn A.L.l)]/\Sat w' (paP p A::r) :=
 zzd _ <| by
  delta z0fh Aa Ab Ac Ad Al Am Ao Bq;obtain ⟨lg,t,v,hs⟩:=z69 (hs.perm hf.perm);refine z06 ?_ (by simp);refine zf (z8 hs ?_);refine zb (z047 (lg:=lg) (A:=A.L) hlen hs) λ_ w' hs=>?_;obtain ⟨rfl,hs⟩:=hs;refine zd (wp_lt ?_);exact ⟨rfl,rfl,z39 A hs⟩
theorem zp5 [hf:Fo l paP p A r] (hs:Sat w l):Ret P F.a77 #[.pointer (some ⟨p,0,none⟩)] w λvs w'=>vs=[.int .i64 (z19 A.L.l)]/\Sat w' (paP p A::r) :=
 zzc _ <| by
  delta z0fg Aa Ab Ac Ad Al Am Ao Bq;obtain ⟨lg,t,v,hs⟩:=z69 (hs.perm hf.perm);refine z06 ?_ (by simp);refine zf (z8 hs ?_);obtain ⟨M,hM,hsl⟩:=z97 (hs.pick [1]);refine zb (zk5 (lg:=lg) hsl) λ_ w' hs=>?_;obtain ⟨rfl,hs⟩:=hs;refine zd (wp_lt ?_);have hMl:M.l=A.L.l:=congrArg LogA.l hM;have hs:=z50 M hs;rw [hM] at hs;rw [hMl];exact ⟨rfl,rfl,z39 A hs⟩
def zi8 (A:PartA):Prop:=∀ {w:World} {l r:List HP} {p:Nat},Fo l paP p A r->A.L.l.length<=1000000000->Sat w l->Ret P F.a80 #[.pointer (some ⟨p,0,none⟩)] w λvs w'=>vs=[.int .i64 (z5n A)]/\Sat w' (paP p A::r)
end
def z83 (A:PartA) (b:BatM):VerA × Int:=if (z1k A.T b).2≠0\/(z1k A.T b).1.again=true then z1k A.T b else ((z1k A.T b).1,z4l A.V b)
def z4c (A:PartA) (b:BatM):PartA:=⟨A.L,A.most,(ze0 A.T b).2,(z6m A.V b).2⟩
def PartA.log (A:PartA) (l:List SegA):PartA:=⟨A.L.set l,A.most,A.T,A.V⟩
def zax (A:PartA) (D:DiskA) (c:BatM):(Int × Bool × Int) × PartA × DiskA :=
 if (z0u A.L.pre A.L.seg A.L.l D [c]).1.2≠0 then ((0,false,(z0u A.L.pre A.L.seg A.L.l D [c]).1.2),A.log (z0u A.L.pre A.L.seg A.L.l D [c]).2.1,(z0u A.L.pre A.L.seg A.L.l D [c]).2.2) else
 if (z0p A.L.pre (z0u A.L.pre A.L.seg A.L.l D [c]).2.1 (z0u A.L.pre A.L.seg A.L.l D [c]).2.2).1≠0 then ((0,false,(z0p A.L.pre (z0u A.L.pre A.L.seg A.L.l D [c]).2.1 (z0u A.L.pre A.L.seg A.L.l D [c]).2.2).1),A.log (z0u A.L.pre A.L.seg A.L.l D [c]).2.1,(z0p A.L.pre (z0u A.L.pre A.L.seg A.L.l D [c]).2.1 (z0u A.L.pre A.L.seg A.L.l D [c]).2.2).2) else
 (((z0u A.L.pre A.L.seg A.L.l D [c]).1.1,false,0),z4c (A.log (z0u A.L.pre A.L.seg A.L.l D [c]).2.1) (c.to (z0u A.L.pre A.L.seg A.L.l D [c]).1.1),(z0p A.L.pre (z0u A.L.pre A.L.seg A.L.l D [c]).2.1 (z0u A.L.pre A.L.seg A.L.l D [c]).2.2).2)
def z0d (A:PartA) (D:DiskA) (b:BatM):(Int × Bool × Int) × PartA × DiskA :=
 if (z83 A (b.to (zn A.L.l))).2≠0\/(z83 A (b.to (zn A.L.l))).1.again=true then (((z83 A (b.to (zn A.L.l))).1.base,(z83 A (b.to (zn A.L.l))).1.again,(z83 A (b.to (zn A.L.l))).2),A,D)
 else zax A D (b.to (zn A.L.l))
instance {n k:Int} {b:Bool}:IsR (.tup [.one (.int .i64),.one .bool,.one (.int .i64)]) [.int .i64 n,.bool b,.int .i64 k] (n,b,k,()):=⟨rfl⟩
section
variable {w:World} {l r r1 r2 r3 r4 l':List HP} {p lg t v:Nat} {A:PartA} {D:DiskA}
theorem zuv (b:BatM) [hf:Fo l paP p A r] [hb:FocR r b.x 4 (b.rs.flatMap z0f)] (hs:Sat w l):Ret P F.a85 #[.pointer (some ⟨p,0,none⟩),.agg (z01 b).toArray] w λvs w'=>vs=[]/\Sat w' (paP p (z4c A b)::r) :=
 zzk _ b.base b.pid b.epoch b.seq b.kind b.time b.x <| by
  delta z0fo AC AE Ab Ad Af Am Ao Bq Bw Bx;obtain ⟨lg,t,v,hs⟩:=z69 (hs.perm hf.perm);refine zr hs λa0 w' hs=>zt hs λw' hs=>zf (z8 hs ?_);refine zl hs (zb (z0be (t:=t) (A:=A.T) b hs) λ_ _ hs=>?_);obtain ⟨rfl,hs⟩:=hs;refine zd (ze ?_);refine zt hs λw' hs=>zf (z8 hs ?_);refine zl hs (zb (z0a6 (v:=v) (A:=A.V) b hs) λ_ _ hs=>?_);obtain ⟨rfl,hs⟩:=hs;refine zd (ze ?_);exact ⟨rfl,rfl,z39 (lg:=lg) (t:=t) (v:=v) (z4c A b) hs⟩
theorem z0ap (b:BatM) (hs:Sat w l):Ret P F.a88 #[.agg (z01 b).toArray] w λvs w'=>vs=[.bool (z0i b)]/\Sat w' l :=
 zzn b.base b.pid b.epoch b.seq b.kind b.time b.x <| by
  delta z0fr AD AR Ab Af Aj Bw;refine zr hs λa0 w' hs=>z8 hs (z8 hs ?_);refine wp_lt ⟨rfl,?_,hs.tail⟩;unfold z0i;rfl
theorem z0d2 (b:BatM) [hf:Fo l paP p A r] [hb:FocR r b.x 4 (b.rs.flatMap z0f)] (hs:Sat w l):Ret P F.a81 #[.pointer (some ⟨p,0,none⟩),.agg (z01 b).toArray] w λvs w'=>vs=[.agg (zij (z83 A b).1).toArray,.int .i64 (z83 A b).2]/\Sat w' (paP p A::r) :=
 zzg _ b.base b.pid b.epoch b.seq b.kind b.time b.x <| by
  delta z0fk AC AE AH AK Aa Ab Ac Ad Af Ag Ai Al Am Ao Aw B5 BM BN BV Bq Bw Bx;unfold z83
  obtain ⟨lg,t,v,hs⟩:=z69 (hs.perm hf.perm)
  refine zr hs λa0 w' hs=>?_
  refine zu hs λa1 w' hs=>?_
  refine zj (λq w'=>∃ a:Nat,q=(⟨a,0,none⟩,(z1k A.T b).2,())/\Sat w' (pt a (.cells #[.bool (z1k A.T b).1.again,.int .i64 (z1k A.T b).1.base] T.a7)::pt a1 (.cells #[.bool false,.int .i64 0] T.a7)::pt a0 (.cells #[.int .i64 b.base,.int .i64 b.pid,.int .i64 b.epoch,.int .i64 b.seq,.int .i64 b.kind,.int .i64 b.time,.slice b.x.a b.x.len b.x.cap] T.a0)::paP p A::r)) ?_ ?_
  ·refine zt hs λw' hs=>?_
   refine zf ?_
   refine z0y hs ?_
   refine zjq hs ?_
   refine ⟨?_,?_⟩
   ·refine ze ?_
    refine zb (zi4 (t:=t) (A:=A.T) b hs) λ_ _ hs=>?_
    obtain ⟨rfl,hs⟩:=hs
    refine zd ?_
    refine zu hs λa15 w' hs=>?_
    refine zv hs λw' hs=>?_
    refine wp_lt ?_
    refine ze ?_
    have hs:Sat w' (pt a15 (.cells #[.bool (z1k A.T b).1.again,.int .i64 (z1k A.T b).1.base] T.a7)::_):=hs
    refine zg ⟨a15,rfl,?_⟩
    have hs:Sat w' (paP p A::pt a15 (.cells #[.bool (z1k A.T b).1.again,.int .i64 (z1k A.T b).1.base] T.a7)::pt a1 (.cells #[.bool false,.int .i64 0] T.a7)::pt a0 (.cells #[.int .i64 b.base,.int .i64 b.pid,.int .i64 b.epoch,.int .i64 b.seq,.int .i64 b.kind,.int .i64 b.time,.slice b.x.a b.x.len b.x.cap] T.a0)::r):=z39 (lg:=lg) (t:=t) (v:=v) A hs
    exact hs.pick [1,1,1,0]
   ·refine zu hs λa17 w' hs=>?_
    refine ze ?_
    refine zb (zi4 (t:=t) (A:=A.T) b hs) λ_ _ hs=>?_
    obtain ⟨rfl,hs⟩:=hs
    refine zd ?_
    refine zv hs λw' hs=>?_
    refine wp_lt ?_
    refine ze ?_
    refine zg ⟨a17,rfl,?_⟩
    have hs:Sat w' (paP p A::pt a17 (.cells #[.bool (z1k A.T b).1.again,.int .i64 (z1k A.T b).1.base] T.a7)::pt a1 (.cells #[.bool false,.int .i64 0] T.a7)::pt a0 (.cells #[.int .i64 b.base,.int .i64 b.pid,.int .i64 b.epoch,.int .i64 b.seq,.int .i64 b.kind,.int .i64 b.time,.slice b.x.a b.x.len b.x.cap] T.a0)::r):=z39 (lg:=lg) (t:=t) (v:=v) A hs
    exact hs.pick [1,1,1,0]
  clear hs
  rintro _ w ⟨a,rfl,hs⟩
  refine z23 _ _ ?_
  generalize z1k A.T b=j at *
  obtain ⟨v0,e⟩:=j
  simp only at hs ⊢
  refine z8 hs ?_
  refine zi (λh=>?_) λh=>?_
  ·rw [if_pos h]
   refine zl hs ?_
   refine zv hs λw' hs=>?_
   refine wp_lt ?_
   refine zl hs ?_
   exact ⟨rfl,rfl,hs.sub⟩
  rw [if_neg h]
  refine zj (λq w'=>q=(z4l A.V b,())/\Sat w' (pt a1 (.cells #[.bool v0.again,.int .i64 v0.base] T.a7)::paP p A::r)) ?_ ?_
  ·refine zt hs λw' hs=>?_
   refine zjq hs ?_
   obtain ⟨lg,t,v,hs⟩:=z69 (hs.pick [3])
   refine zf ?_
   refine z8 hs ?_
   refine zl hs ?_
   refine zb (z00r (v:=v) (A:=A.V) b hs) λ_ w' hs=>?_
   obtain ⟨rfl,hs⟩:=hs
   refine zd ?_ (by first|trivial|(repeat (first|exact trivial|exact λ_=>z09 hs|exact λ_=>z0g hs|refine And.intro ?_ ?_)))
   refine ze ?_
   refine zv hs λw' hs=>?_
   refine wp_lt ?_
   refine ze ?_
   refine zg ⟨rfl,?_⟩
   have hs:Sat w' (paP p A::pt a1 (.cells #[.bool v0.again,.int .i64 v0.base] T.a7)::r):=z39 (lg:=lg) (t:=t) (v:=v) A hs
   exact hs.pick [1]
  clear hs
  rintro _ w ⟨rfl,hs⟩
  refine zh ?_
  refine zl hs ?_
  exact ⟨rfl,rfl,hs.sub⟩
theorem z03z (pre:ByteArray) (seg:Int) (l:List SegA) (D:DiskA) (bs:List BatM):(z0u pre seg l D bs).2.1.length<=l.length+1:=by
 unfold z0u;split
 ·exact Nat.le_succ _
 split
 ·exact Nat.le_succ _
 split
 ·split
  ·exact Nat.le_succ _
  ·unfold z7a;split <;> simp
 split
 ·exact Nat.le_succ _
 split
 ·exact Nat.le_succ _
 ·simp
set_option maxHeartbeats 1000000 in
theorem z0d4 (b:BatM) {r1:List HP} [hf:Fo l paP p A r1] [hf2:Fo r1 dk A.L.d D r] (hb:FocR r b.x 4 (b.rs.flatMap z0f)) (hlen:A.L.l.length<=100000) (hok:z15 0 A.L.l) (hfl:∀ s ∈ A.L.l,s.file.length<=500000000) (hr:b.rs.length<=1000000) (hs:Sat w l) :
  Ret P F.a83 #[.pointer (some ⟨p,0,none⟩),.agg (z01 b).toArray] w λvs w'=>vs=[.int .i64 (z0d A D b).1.1,.bool (z0d A D b).1.2.1,.int .i64 (z0d A D b).1.2.2]/\Sat w' (paP p (z0d A D b).2.1::dk A.L.d (z0d A D b).2.2::r) :=
 zzi _ b.base b.pid b.epoch b.seq b.kind b.time b.x <| by
  delta z0fm AC AE AH AK AQ AR AS Aa Ab Ac Ad Af Ai Aj Al Am An Ao Aw Ax Ay B5 BA BM BN Bc Bq Bw Bx;unfold z0d;have hs:=hs.perm (hf.perm.trans (.cons _ hf2.perm));clear hf hf2;have hb':FocR r (b.to (zn A.L.l)).x 4 ((b.to (zn A.L.l)).rs.flatMap z0f):=hb;have hr':(b.to (zn A.L.l)).rs.length<=1000000:=hr;refine zr hs λa0 w' hs=>zb (zuq (p:=p) (A:=A) (by omega) hs) λ_ w' hs=>?_;obtain ⟨rfl,hs⟩:=hs;refine zd (zy hs λw' hs=>?_);have hs:Sat w' (pt a0 (.cells (z01 (b.to (zn A.L.l))).toArray T.a0)::paP p A::dk A.L.d D::r):=hs;generalize b.to (zn A.L.l)=c at *;have hs:Sat w' (pt a0 (.cells #[.int .i64 c.base,.int .i64 c.pid,.int .i64 c.epoch,.int .i64 c.seq,.int .i64 c.kind,.int .i64 c.time,.slice c.x.a c.x.len c.x.cap] T.a0)::paP p A::dk A.L.d D::r):=hs;refine zl hs (zb (z0d2 (p:=p) (A:=A) c hs) λ_ w' hs=>?_);obtain ⟨rfl,hs⟩:=hs;refine zd (zu hs λa12 w' hs=>?_);refine zv hs λw' hs=>wp_lt (z8 hs ?_);refine zi (λh=>?_) λh=>?_
  ·rw [if_pos h];refine zt hs λw' hs=>z8 hs (z8 hs ?_);refine wp_lt (wp_lt ?_);refine wp_lt (ze ?_);exact ⟨rfl,rfl,hs.sub⟩
  rw [if_neg h];have hs:Sat w' (pt a0 (.cells #[.int .i64 c.base,.int .i64 c.pid,.int .i64 c.epoch,.int .i64 c.seq,.int .i64 c.kind,.int .i64 c.time,.slice c.x.a c.x.len c.x.cap] T.a0)::paP p A::dk A.L.d D::r):=hs.sub;unfold zax;have hlsg:=z00z (pre:=A.L.pre) (seg:=A.L.seg) (D:=D) (bs:=[c]) hok;have hlln:=z03z A.L.pre A.L.seg A.L.l D [c];generalize hla:z0u A.L.pre A.L.seg A.L.l D [c]=la at *;refine zj (λq w'=>q=(la.1.2,la.1.1,())/\Sat w' (pt a0 (.cells #[.int .i64 c.base,.int .i64 c.pid,.int .i64 c.epoch,.int .i64 c.seq,.int .i64 c.kind,.int .i64 c.time,.slice c.x.a c.x.len c.x.cap] T.a0)::paP p (A.log la.2.1)::dk A.L.d la.2.2::r)) ?_ ?_
  ·refine zt hs λw' hs=>?_;obtain ⟨lg,t,v,hs⟩:=z69 (hs.pick [1]);refine zf (z0y hs ?_);refine zl hs ?_
   refine z7o hs (enc:=z01) [c] λy w' hs=>⟨(by first|trivial|(repeat (first|exact trivial|exact λ_=>z09 hs|exact λ_=>z0g hs|refine And.intro ?_ ?_))),?_⟩
   refine ze (zb (z0bw (lg:=lg) (A:=A.L) (D:=D) c y (by omega) hok hfl inferInstance inferInstance hs) λ_ w' hs=>?_);obtain ⟨rfl,hs⟩:=hs;rw [hla] at hs ⊢;refine ⟨(la.1.1,la.1.2,()),rfl,trivial,z23 _ _ ?_⟩;refine wp_lt (wp_lt ?_);refine ze (zg ⟨rfl,?_⟩);have hs:Sat w' (lgP lg (A.log la.2.1).L::_):=hs;have hs:Sat w' (paP p (A.log la.2.1)::dk A.L.d la.2.2::pt a0 (.cells #[.int .i64 c.base,.int .i64 c.pid,.int .i64 c.epoch,.int .i64 c.seq,.int .i64 c.kind,.int .i64 c.time,.slice c.x.a c.x.len c.x.cap] T.a0)::r):=z39 (lg:=lg) (t:=t) (v:=v) (A.log la.2.1) hs;exact hs.pick [2]
  clear hs;rintro _ w ⟨rfl,hs⟩;refine z23 _ _ ?_;obtain ⟨⟨at_,e⟩,l',D'⟩:=la;simp only at hs hlsg hlln ⊢;refine zj (λq w'=>q=((if e≠0 then e else (z0p A.L.pre l' D').1),())/\Sat w' (pt a0 (.cells #[.int .i64 c.base,.int .i64 c.pid,.int .i64 c.epoch,.int .i64 c.seq,.int .i64 c.kind,.int .i64 c.time,.slice c.x.a c.x.len c.x.cap] T.a0)::paP p (A.log l')::dk A.L.d (if e≠0 then D' else (z0p A.L.pre l' D').2)::r)) ?_ ?_
  ·refine zi (λh1=>?_) λh1=>?_
   ·have hs:Sat w (paP p (A.log l')::pt a0 (.cells #[.int .i64 c.base,.int .i64 c.pid,.int .i64 c.epoch,.int .i64 c.seq,.int .i64 c.kind,.int .i64 c.time,.slice c.x.a c.x.len c.x.cap] T.a0)::dk (A.log l').L.d D'::r):=hs.pick [1];obtain ⟨lg,t,v,hs⟩:=z69 hs;refine zf (z8 hs ?_);refine zb (z049 (lg:=lg) (A:=(A.log l').L) (D:=D') (by show l'.length<=_;omega) hlsg hs) λ_ w' hs=>?_;obtain ⟨rfl,hs⟩:=hs;refine zd (wp_lt ?_);refine zg ⟨?_,?_⟩
    ·rw [if_neg (by simpa using h1)];rfl
    ·rw [if_neg (by simpa using h1)];have hs:Sat w' (lgP lg (A.log l').L::dk A.L.d (z0p A.L.pre l' D').2::_):=hs;have hs:Sat w' (paP p (A.log l')::dk A.L.d (z0p A.L.pre l' D').2::pt a0 (.cells #[.int .i64 c.base,.int .i64 c.pid,.int .i64 c.epoch,.int .i64 c.seq,.int .i64 c.kind,.int .i64 c.time,.slice c.x.a c.x.len c.x.cap] T.a0)::r):=z39 (lg:=lg) (t:=t) (v:=v) (A.log l') hs;exact hs.pick [2]
   ·refine zg ⟨?_,?_⟩
    ·rw [if_pos (by simpa using h1)]
    ·rw [if_pos (by simpa using h1)];exact hs
  clear hs;rintro _ w ⟨rfl,hs⟩;refine zh ?_
  by_cases he:e≠0
  ·rw [if_pos he] at hs ⊢;rw [if_pos he];refine z18 ?_ (by simpa using he);exact wp_lt ⟨rfl,rfl,hs.sub⟩
  rw [if_neg he] at hs ⊢;rw [if_neg he];refine zi (λh2=>?_) λh2=>?_
  ·rw [if_pos h2];exact wp_lt ⟨rfl,rfl,hs.sub⟩
  rw [if_neg h2];refine zy hs λw' hs=>zl hs ?_;have hb2:FocR r (c.to at_).x 4 ((c.to at_).rs.flatMap z0f):=hb';refine zb (zuw (c.to at_) hr' hs) λ_ w' hs=>?_;obtain ⟨z,rfl,hs⟩:=hs;refine ⟨(at_,c.pid,c.epoch,c.seq,c.kind,c.time,z,()),rfl,trivial,zxi _ _ _ _ _ _ _ ?_⟩
  have hb3:FocR (slc T.a2 4 z ((c.to at_).rs.flatMap z0f)::dk A.L.d (z0p A.L.pre l' D').2::r) ((c.to at_).at z).x 4 (((c.to at_).at z).rs.flatMap z0f):=(FocR.head:FocR (slc T.a2 4 z ((c.to at_).rs.flatMap z0f)::_) z 4 ((c.to at_).rs.flatMap z0f))
  have hs:Sat w' (paP p (A.log l')::slc T.a2 4 z ((c.to at_).rs.flatMap z0f)::dk A.L.d (z0p A.L.pre l' D').2::r):=hs.sub;refine zb (zuv (p:=p) (A:=A.log l') ((c.to at_).at z) hs) λ_ w' hs=>?_;obtain ⟨rfl,hs⟩:=hs;refine zd (wp_lt ?_);have hs:Sat w' (paP p (z4c (A.log l') (c.to at_))::_):=hs;exact ⟨rfl,rfl,hs.sub⟩
theorem z01g (b:BatM) {r1:List HP} [hf:Fo l paP p A r1] [hf2:Fo r1 dk A.L.d D r] (hb:FocR r b.x 4 (b.rs.flatMap z0f)) (hlen:A.L.l.length<=100000) (hok:z15 0 A.L.l) (hfl:∀ s ∈ A.L.l,s.file.length<=500000000) (hr:b.rs.length<=1000000) (hm:z0i b=false) (hs:Sat w l) :
  Ret P F.a76 #[.pointer (some ⟨p,0,none⟩),.agg (z01 b).toArray] w λvs w'=>vs=[.int .i64 (z0d A D b).1.1,.bool (z0d A D b).1.2.1,.int .i64 (z0d A D b).1.2.2]/\Sat w' (paP p (z0d A D b).2.1::dk A.L.d (z0d A D b).2.2::r) :=
 zzb _ b.base b.pid b.epoch b.seq b.kind b.time b.x <| by
  delta z0ff AA AP Ab Ac Ad Af Aj Al Bw Bx;have hs:=hs.perm (hf.perm.trans (.cons _ hf2.perm));clear hf hf2;refine zr hs λa0 w' hs=>wp_lt (z06 ?_ (by simp));refine zl hs (zb (z0ap b hs) λ_ w' hs=>?_);obtain ⟨rfl,hs⟩:=hs;refine zd (wp_lt ?_);refine z06 ?_ (by rw [hm];simp);refine zl hs ?_;have hs:=hs.pick [1,1];refine zb (z0d4 (p:=p) (A:=A) (D:=D) b inferInstance hlen hok hfl hr hs) λ_ w' hs=>?_;obtain ⟨rfl,hs⟩:=hs;refine zd (wp_lt ?_);refine wp_lt (wp_lt ?_);exact ⟨rfl,rfl,hs.sub⟩
def z0gk (pid epoch:Int) (commit:Bool) (time:Int) (x:Sl):BatM:=⟨0,pid,epoch,0,if commit then 2 else 3,time,x,[]⟩
end
def z3b (A:PartA) (c:Bool):Int->List BatM->List AtM × Int
 | n,[]=>([],n)
 | n,b::bs=>if c=true/\b.base>=z5n A then ([],n) else ((if c=false\/z5x A.V b=1 then z0o b else [])++(z3b A c (z1u b) bs).1,(z3b A c (z1u b) bs).2)
def z2t (A:PartA) (off most:Int) (c:Bool):(List AtM × Int) × Int:=if (z5h A.L.l off most).1≠0 then (([],0),(z5h A.L.l off most).1) else (z3b A c off (z5h A.L.l off most).2,0)
theorem zuo (A:PartA) (c:Bool):∀ (bs:List BatM) (n:Int),z3b A c n (bs.map BatM.p)=z3b A c n bs
 | [],n=>rfl
 | b::bs,n=>by
  have ih:=zuo A c bs (z1u b);show (if c=true/\b.base>=z5n A then (([]:List AtM),n) else ((if c=false\/z5x A.V b=1 then z0o b else [])++(z3b A c (z1u b) (bs.map BatM.p)).1,(z3b A c (z1u b) (bs.map BatM.p)).2))=_;rw [ih];rfl
theorem z01h {A:PartA} {c:Bool} {n:Int} {b:BatM} {bs:List BatM} (h:c=true/\b.base>=z5n A):z3b A c n (b::bs)=([],n):=if_pos h
theorem zup {A:PartA} {c:Bool} {n:Int} {b:BatM} {bs:List BatM} (h:¬ (c=true/\b.base>=z5n A)):z3b A c n (b::bs)=((if c=false\/z5x A.V b=1 then z0o b else [])++(z3b A c (z1u b) bs).1,(z3b A c (z1u b) bs).2):=if_neg h
theorem z01p (l:List SegA) (off most:Int):(z5h l off most).2.length<=(z0e l).length:=by
 unfold z5h;split
 ·exact Nat.zero_le _
 split
 ·exact Nat.zero_le _
 ·simp only [List.length_take];exact Nat.le_trans (Nat.min_le_right _ _) (List.length_filterMap_le ..)
theorem z055 {l:List SegA} {off most:Int} {b:BatM} (hok:z15 0 l) (h:b ∈ (z5h l off most).2):b.rs.length<=64:=by
 unfold z5h at h;split at h
 ·cases h
 split at h
 ·cases h
 ·obtain ⟨c,hc,hf⟩:=List.mem_filterMap.1 (List.mem_of_mem_take h);have hv:=((zcj (Int.le_refl 0) hok).valid c hc).1;have h64:=(z2x hv).1;unfold z0w at hf;split at hf
  ·cases hf
  split at hf
  ·cases hf;exact h64
  ·cases hf;show (c.rs.drop _).length<=64;rw [List.length_drop];omega
section
variable {w:World} {l r:List HP} {p:Nat} {A:PartA} {D:DiskA}
set_option maxHeartbeats 1000000 in
theorem z0as (hst:zi8 A) (off most:Int) (c:Bool) (ho : -9223372036854775808<=off/\off<9223372036854775808) (hmo:most<9223372036854775808) {r1:List HP} [hf:Fo l paP p A r1] [hf2:Fo r1 dk A.L.d D r] (hok:z15 0 A.L.l) (hhas:znh A.L.pre A.L.l D) (hlen:A.L.l.length<=1000000) (hall:(z0e A.L.l).length<=1000000) (hs:Sat w l) :
  Ret P F.a79 #[.pointer (some ⟨p,0,none⟩),.int .i64 off,.int .i64 most,.bool c] w λvs w'=>∃ z:Sl,vs=[z.v,.int .i64 (z2t A off most c).1.2,.int .i64 (z2t A off most c).2]/\Sat w' (slc T.a40 5 z ((z2t A off most c).1.1.flatMap zp)::paP p A::dk A.L.d D::r) :=
 zze _ off most c <| by
  delta z0fi AB AC AE AH AJ AK AO Aa Ab Ac Ad Ah Ak Al Am Ao Av B8 Bc Bf Bo Bq Bu Bv Bw Bx;unfold z2t;have hs:=hs.perm (hf.perm.trans (.cons _ hf2.perm));clear hf hf2;obtain ⟨lg,t,v,hs⟩:=z69 hs;refine z06 ?_ (by simp);refine zf (z8 hs ?_);refine zb (zub (lg:=lg) (A:=A.L) (D:=D) off most ho hmo hok hhas hlen hall hs) λ_ w' hs=>?_;obtain ⟨y,outs,rfl,hmap,hs⟩:=hs;refine ⟨(y,(z5h A.L.l off most).1,()),rfl,trivial,z23 _ _ ?_⟩
  have hs:Sat w' (slc T.a0 7 y (outs.flatMap z01)::z28 outs::paP p A::dk A.L.d D::r):=by
   have hs:Sat w' (paP p A::slc T.a0 7 y (outs.flatMap z01)::z28 outs::dk A.L.d D::r):=z39 (lg:=lg) (t:=t) (v:=v) A hs;exact hs.pick [1,1]
  refine wp_lt (zi (λh=>?_) λh=>?_)
  ·rw [if_pos h];refine wp_lt ?_;have hs:Sat w' (slc T.a40 5 ⟨none,0,0⟩ (([]:List AtM).flatMap zp)::_):=hs.slc_nil;exact ⟨rfl,⟨none,0,0⟩,rfl,hs.sub⟩
  rw [if_neg h,<- hmap,zuo]
  have hol:outs.length<=1000000:=by
   have:=congrArg List.length hmap;rw [List.length_map] at this;rw [this];exact Nat.le_trans (z01p _ _ _) hall
  have hov:∀ b ∈ outs,b.rs.length<=64:=λb hb=>by
   have h1:b.p ∈ (z5h A.L.l off most).2:=by rw [<- hmap];exact List.mem_map.2 ⟨b,hb,rfl⟩
   have h2:=z055 hok h1;exact h2
  have hly:=hs.slen y (xs:=outs) (enc:=z01);refine wp_lt (zj (λq w'=>∃ z:Sl,q=(z,(z3b A c off outs).2,())/\Sat w' (slc T.a40 5 z ((z3b A c off outs).1.flatMap zp)::paP p A::dk A.L.d D::r)) ?_ ?_);rotate_left
  ·rintro _ w2 ⟨z,rfl,hs⟩;refine z23 _ _ (wp_lt ?_);exact ⟨rfl,z,rfl,hs⟩
  have hs:Sat w' (slc T.a40 5 ⟨none,0,0⟩ (([]:List AtM).flatMap zp)::slc T.a0 7 y (outs.flatMap z01)::z28 outs::paP p A::dk A.L.d D::r):=hs.slc_nil
  refine z0a (λm q w=>∃ (i:Nat) (z:Sl) (n:Int) (done:List AtM),q=(z,n,(i:Int),())/\i<=outs.length/\outs.length-i=m/\done.length<=64*i /\
   z3b A c off outs=(done++(z3b A c n (outs.drop i)).1,(z3b A c n (outs.drop i)).2) /\
   Sat w (slc T.a40 5 z (done.flatMap zp)::slc T.a0 7 y (outs.flatMap z01)::z28 outs::paP p A::dk A.L.d D::r)) outs.length
   ⟨0,⟨none,0,0⟩,off,[],rfl,by omega,rfl,by simp,by simp,hs⟩ ?_
  clear hs;rintro m _ w ⟨i,z,n,done,rfl,hi,hm,hdl,hq,hs⟩;refine z90 _ _ _ (zi (λhc=>?_) λhc=>?_);rotate_left
  ·have e:outs.drop i=[]:=List.drop_eq_nil_of_le (by omega);rw [e] at hq;have hq:z3b A c off outs=(done++[],n):=hq;rw [List.append_nil] at hq;refine zm (zg ⟨z,by rw [hq],?_⟩);rw [hq];exact hs.sub
  have hil:i<outs.length:=by omega
  have hdrop:outs.drop i=outs[i]::outs.drop (i+1):=List.drop_eq_getElem_cons hil;rw [hdrop] at hq;have hrl:outs[i].rs.length<=64:=hov _ (List.getElem_mem hil);generalize hb:outs[i]=b at *
  have hbm:b ∈ outs:=by rw [<- hb];exact List.getElem_mem hil
  refine z5b hs i hil ?_;rw [hb];refine zu hs λa w' hs=>zv hs λw' hs=>?_;have hbr:FocR (z28 outs::paP p A::dk A.L.d D::r) b.x 4 (b.rs.flatMap z0f):=ztp hbm;have hs:Sat w' (pt a (.cells #[.int .i64 b.base,.int .i64 b.pid,.int .i64 b.epoch,.int .i64 b.seq,.int .i64 b.kind,.int .i64 b.time,.slice b.x.a b.x.len b.x.cap] T.a0)::slc T.a40 5 z (done.flatMap zp)::slc T.a0 7 y (outs.flatMap z01)::z28 outs::paP p A::dk A.L.d D::r):=hs;refine zj (λq w'=>q=(decide (c=true/\b.base>=z5n A),())/\Sat w' (pt a (.cells #[.int .i64 b.base,.int .i64 b.pid,.int .i64 b.epoch,.int .i64 b.seq,.int .i64 b.kind,.int .i64 b.time,.slice b.x.a b.x.len b.x.cap] T.a0)::slc T.a40 5 z (done.flatMap zp)::slc T.a0 7 y (outs.flatMap z01)::z28 outs::paP p A::dk A.L.d D::r)) ?_ ?_
  ·refine zt hs λw' hs=>z0y hs ?_
   cases c with
   | false =>
    refine z06 ?_ (by simp);exact ze (zg ⟨by simp,hs⟩)
   | true =>
    refine z18 ?_ (by simp);refine zb (hst (p:=p) inferInstance (by omega) hs) λ_ w' hs=>?_;obtain ⟨rfl,hs⟩:=hs;refine zd ?_ (by first|trivial|(repeat (first|exact trivial|exact λ_=>z09 hs|exact λ_=>z0g hs|refine And.intro ?_ ?_)));exact ze (zg ⟨by simp,hs.pick [1,1,1,1]⟩)
  clear hs;rintro _ w ⟨rfl,hs⟩;refine zh ?_
  by_cases hstop:c=true/\b.base>=z5n A
  ·refine z18 ?_ (by simpa using hstop)
   have hq:z3b A c off outs=(done++[],n):=by
    rw [hq,z01h hstop]
   rw [List.append_nil] at hq;refine zm (zg ⟨z,by rw [hq],?_⟩);rw [hq];exact hs.sub
  refine z06 ?_ (by simpa using hstop)
  have hq:z3b A c off outs=(done++((if c=false\/z5x A.V b=1 then z0o b else [])++(z3b A c (z1u b) (outs.drop (i+1))).1),(z3b A c (z1u b) (outs.drop (i+1))).2):=by
   rw [hq,zup hstop]
  refine zj (λq w'=>q=(decide (c=false\/z5x A.V b=1),())/\Sat w' (pt a (.cells #[.int .i64 b.base,.int .i64 b.pid,.int .i64 b.epoch,.int .i64 b.seq,.int .i64 b.kind,.int .i64 b.time,.slice b.x.a b.x.len b.x.cap] T.a0)::slc T.a40 5 z (done.flatMap zp)::slc T.a0 7 y (outs.flatMap z01)::z28 outs::paP p A::dk A.L.d D::r)) ?_ ?_
  ·refine zt hs λw' hs=>?_;obtain ⟨lg,t,v,hs⟩:=z69 (hs.pick [4]);refine z04 (z8 hs ?_);refine zl hs ?_
   cases c with
   | false =>
    refine z18 ?_ (by simp);refine ze (zg ⟨by simp,?_⟩);have hs:Sat w' (paP p A::pt a (.cells #[.int .i64 b.base,.int .i64 b.pid,.int .i64 b.epoch,.int .i64 b.seq,.int .i64 b.kind,.int .i64 b.time,.slice b.x.a b.x.len b.x.cap] T.a0)::slc T.a40 5 z (done.flatMap zp)::slc T.a0 7 y (outs.flatMap z01)::z28 outs::dk A.L.d D::r):=z39 (lg:=lg) (t:=t) (v:=v) A hs;exact hs.pick [1,1,1,1]
   | true =>
    refine z06 ?_ (by simp);refine zb (z0a4 (v:=v) (A:=A.V) b hs) λ_ w' hs=>?_;obtain ⟨rfl,hs⟩:=hs;refine zd (ze ?_);refine zg ⟨?_,?_⟩
    ·have:(z5x A.V b == 1)=decide (true=false\/z5x A.V b=1):=by rw [Bool.eq_iff_iff];simp
     rw [this]
    have hs:Sat w' (paP p A::pt a (.cells #[.int .i64 b.base,.int .i64 b.pid,.int .i64 b.epoch,.int .i64 b.seq,.int .i64 b.kind,.int .i64 b.time,.slice b.x.a b.x.len b.x.cap] T.a0)::slc T.a40 5 z (done.flatMap zp)::slc T.a0 7 y (outs.flatMap z01)::z28 outs::dk A.L.d D::r):=z39 (lg:=lg) (t:=t) (v:=v) A hs;exact hs.pick [1,1,1,1]
  clear hs;rintro _ w ⟨rfl,hs⟩;refine zh ?_;have hfl:=zbw b;refine zj (λq w'=>∃ z':Sl,q=(z',())/\Sat w' (pt a (.cells #[.int .i64 b.base,.int .i64 b.pid,.int .i64 b.epoch,.int .i64 b.seq,.int .i64 b.kind,.int .i64 b.time,.slice b.x.a b.x.len b.x.cap] T.a0)::slc T.a40 5 z' ((done++(if c=false\/z5x A.V b=1 then z0o b else [])).flatMap zp)::slc T.a0 7 y (outs.flatMap z01)::z28 outs::paP p A::dk A.L.d D::r)) ?_ ?_
  ·by_cases hd:c=false\/z5x A.V b=1
   ·refine z18 ?_ (by simpa using hd);rw [if_pos hd];refine zl hs (z9k hs (enc:=z01) [b] λx1 w' hs=>?_);refine zb (z00n x1 [b] (λb' hb'=>by rw [List.mem_singleton.1 hb'];infer_instance) (by simp) (λb' hb'=>by rw [List.mem_singleton.1 hb'];omega) hs) λ_ w' hs=>?_;obtain ⟨z2,rfl,hs⟩:=hs;refine zd ?_
    have e:z16 [b]=z0o b:=by simp [z16]
    rw [e] at hs;refine wp_app' (xs:=done) (ys:=z0o b) (enc:=zp) hs (λz3 w' hs=>?_) (by omega);refine zg ⟨z3,rfl,?_⟩;exact hs.sub
   ·refine z06 ?_ (by simpa using hd);rw [if_neg hd,List.append_nil];exact zg ⟨z,rfl,hs⟩
  clear hs;rintro _ w ⟨z',rfl,hs⟩;refine zh (zl hs ?_);refine zb (zan b hs) λ_ w' hs=>?_;obtain ⟨rfl,hs⟩:=hs;refine zd (wp_lt ?_);refine z22 (us':=[z'.v,.int .i64 (z1u b),.int .i64 ((i+1:Nat):Int)]) (by (try simp (disch:=omega) only [w64]);first|rfl|(congr;omega)) (z0x (outs.length-(i+1)) ⟨i+1,z',z1u b,done++(if c=false\/z5x A.V b=1 then z0o b else []),rfl,by omega,rfl,?_,?_,hs.sub⟩)
  ·rw [List.length_append];split
   ·omega
   ·simp only [List.length_nil];omega
  ·rw [hq,List.append_assoc]
end
section
variable {w:World} {l r:List HP}
theorem z09x (x:Sl) (bs:List UInt8) [hx:FocR l x 1 (bs.flatMap zk)] (hcap:x.len<=x.cap) (hn:bs.length<=1000000000) (hs:Sat w l) :
  Ret P F.a42 #[x.v] w λvs w'=>∃ z:Sl,vs=[z.v,.bool (zn7 bs).isSome]/\Sat w' (slc T.a63 1 z (((zn7 bs).getD []).flatMap zk)::l) :=
 zyl x <| by
  delta z0er Aa Ab Aj Ak Al B4;have hl:=hs.slen x (xs:=bs) (enc:=zk);refine zb (zdd x bs hcap hn hs) λ_ _ hs=>?_;obtain ⟨z,rfl,hs⟩:=hs;refine zd (wp_lt ?_);refine wp_lt ?_;unfold zn7
  cases hf:z1c bs with
  | none =>
   refine z18 ?_ (by simp);exact ⟨rfl,⟨none,0,0⟩,rfl,(hs.tail).slc_nil⟩
  | some q =>
   obtain ⟨body,n⟩:=q;rw [hf] at hs;dsimp only;refine zi (λh=>?_) λh=>?_
   ·rw [if_neg (by simp at h;omega)];exact ⟨rfl,⟨none,0,0⟩,rfl,(hs.tail).slc_nil⟩
   ·rw [if_pos (by simp at h;omega)];exact ⟨rfl,z,rfl,hs⟩
end
def zc7 (pre:ByteArray):ByteArray:=pre++ByteArray.mk #[46,115,110,97,112]
def zc8 (pre:ByteArray):ByteArray:=pre++ByteArray.mk #[46,116,109,112]
def z7x (L:LogA) (most:Int):PartA:=⟨L,most,⟨most,0,[]⟩,⟨0,[],[]⟩⟩
def z2f (L:LogA) (most:Int):PartA:=(z0e L.l).foldl z4c (z7x L most)
theorem z0di (A:PartA) (b:BatM):z4c A b.p=z4c A b:=rfl
theorem zv8:∀ (bs:List BatM) (A:PartA),(bs.map BatM.p).foldl z4c A=bs.foldl z4c A
 | [],A=>rfl
 | b::bs,A=>by
  rw [List.map_cons,List.foldl_cons,List.foldl_cons,z0di];exact zv8 bs _
section
variable {w:World} {l r:List HP} {p d lg t v:Nat} {A:PartA} {D:DiskA} {c1 c2 c3 c4 c5:Value}
theorem z0at (pre:ByteArray) (hp:pre.size<=100) [hf:FocB l p (.cells [c1,c2,.string pre,c3,c4,c5].toArray T.a39) r] (hs:Sat w l):Ret P F.a84 #[.pointer (some ⟨p,0,none⟩)] w λvs w'=>vs=[.string (zc7 pre)]/\Sat w' l :=
 zzj _ <| by
  delta z0fn Ab Ao Bd Be;refine zf (z8 hs ?_);refine wp_must (by omega) (wp_lt ?_);exact ⟨rfl,rfl,hs⟩
theorem zus (pre:ByteArray) (hp:pre.size<=100) [hf:FocB l p (.cells [c1,c2,.string pre,c3,c4,c5].toArray T.a39) r] (hs:Sat w l):Ret P F.a86 #[.pointer (some ⟨p,0,none⟩)] w λvs w'=>vs=[.string (zc8 pre)]/\Sat w' l :=
 zzl _ <| by
  delta z0fp Ab Ao Bd Be;refine zf (z8 hs ?_);refine wp_must (by omega) (wp_lt ?_);exact ⟨rfl,rfl,hs⟩
theorem z0an (n:ByteArray) (hno:∀ f ∈ D.fs,f.name≠n) [hf:Fo l dk d D r] (hs:Sat w l):Ret P F.a87 #[.pointer (some ⟨d,0,none⟩),.string n] w λvs w'=>vs=[.bool false]/\Sat w' (dk d D::r) :=
 zzm _ n <| by
  delta z0fq Ab Ad Aj Al Bo;refine zb (zj8 (d:=d) (A:=D) n hs) λ_ w' h=>?_
  rcases h with ⟨f,hf1,hf2,-⟩|⟨-,rfl,hs⟩
  ·exact absurd hf2 (hno f hf1)
  refine ⟨(⟨none,0,0⟩,3,()),rfl,trivial,z23 _ _ ?_⟩;refine wp_lt (wp_lt ?_);exact ⟨rfl,rfl,hs⟩
theorem z04s (pre:ByteArray) (most:Int) (hp:pre.size<=100) (hm:1<=most/\most<=4096) (hno:∀ f ∈ D.fs,f.name≠zc7 pre) (hs:Sat w (pt p (.cells #[c1,.pointer (some ⟨d,0,none⟩),.string pre,.int .i64 most,c2,c3] T.a39)::dk d D::r)) :
  Ret P F.a82 #[.pointer (some ⟨p,0,none⟩)] w λvs w'=>vs=[.int .i64 0]/\∃ t v:Nat,Sat w' (pt p (.cells #[c1,.pointer (some ⟨d,0,none⟩),.string pre,.int .i64 most,.pointer (some ⟨t,0,none⟩),.pointer (some ⟨v,0,none⟩)] T.a39)::tb t ⟨most,0,[]⟩::vw v ⟨0,[],[]⟩::dk d D::r) :=
 zzh _ <| by
  delta z0fl AB AC AE AR AS AY Aa Ab Ac Ad Aj Al Am Ao Av B2 B5 BD Bc Be Bf Bo Bp Bs;refine zf (z8 hs ?_);refine zb (z0dj most hs) λ_ w' h=>?_
  rcases h with ⟨-,-,t,rfl,hs⟩|⟨h,-⟩
  rotate_left
  ·omega
  refine ⟨(some ⟨t,0,none⟩,0,()),rfl,trivial,z23 _ _ ?_⟩;refine zf (zy hs λw' hs=>?_);refine zb (z0dn hs) λ_ w' hs=>?_;obtain ⟨v,rfl,hs⟩:=hs;refine zd (zf ?_);refine zy hs λw' hs=>zj (λq w'=>q=(⟨none,0,0⟩,())/\Sat w' (pt p (.cells #[c1,.pointer (some ⟨d,0,none⟩),.string pre,.int .i64 most,.pointer (some ⟨t,0,none⟩),.pointer (some ⟨v,0,none⟩)] T.a39)::tb t ⟨most,0,[]⟩::vw v ⟨0,[],[]⟩::dk d D::r)) ?_ ?_
  ·refine zt hs λw' hs=>zf (z0y hs ?_);refine zb (z0at (p:=p) pre hp hs) λ_ w' hs=>?_;obtain ⟨rfl,hs⟩:=hs;refine zd ?_ (by first|trivial|(repeat (first|exact trivial|exact λ_=>z09 hs|exact λ_=>z0g hs|refine And.intro ?_ ?_)));refine ze (zb (zj8 (d:=d) (A:=D) (zc7 pre) hs) λ_ w' h=>?_)
   rcases h with ⟨f,hf1,hf2,-⟩|⟨-,rfl,hs⟩
   ·exact absurd hf2 (hno f hf1)
   refine ⟨(⟨none,0,0⟩,3,()),rfl,trivial,z23 _ _ ?_⟩;refine wp_lt (ze ?_);refine zg ⟨rfl,?_⟩;exact hs.sub
  clear hs;rintro _ w ⟨rfl,hs⟩;refine zh ?_;have hs:Sat w (slc T.a63 1 ⟨none,0,0⟩ (([]:List UInt8).flatMap zk)::_):=hs.slc_nil;refine zb (z09x ⟨none,0,0⟩ [] (Nat.le_refl _) (Nat.zero_le _) hs) λ_ w' hs=>?_;obtain ⟨z,rfl,hs⟩:=hs
  have e:(zn7 []).isSome=false:=by kernel_rfl
  rw [e];refine ⟨(z,false,()),rfl,trivial,z23 _ _ ?_⟩;refine wp_lt (z18 ?_ (by simp));exact ⟨rfl,rfl,t,v,hs.tail.tail⟩
theorem z03d {fs:List FileA} {n:ByteArray} (hno:∀ f ∈ fs,f.name≠n):(zai fs n).1=0:=by rw [zai,zer hno]
set_option maxHeartbeats 1000000 in
theorem z04t (pre:ByteArray) (seg gap most:Int) (hp:z2n pre=true) (hc:zg1 seg gap) (hm:1<=most/\most<=1024) (hg:D.gone=false) (S:List SegA) (D':DiskA) (ho:z7s pre D=(0,S,D')) (hno:∀ f ∈ D'.fs,f.name≠zc7 pre/\f.name≠zc8 pre)
  (hok:z15 0 S) (hhas:znh pre S D') (hlen:S.length<=1000000) (hall:(z0e S).length<=1000000) [hf:Fo l dk d D r] (hs:Sat w l) :
  Ret P F.a75 #[.pointer (some ⟨d,0,none⟩),.string pre,.agg #[.int .i64 seg,.int .i64 gap,.int .i64 most]] w λvs w'=>∃ p:Nat,vs=[.pointer (some ⟨p,0,none⟩),.int .i64 0]/\Sat w' (paP p (z2f ⟨d,pre,seg,gap,S⟩ most)::dk d D'::r) :=
 zza _ pre seg gap most <| by
  delta z0fe AA AB AD AH AK AO AR AW Aa Ab Ac Ad Af Ag Ak Al Am An Av Az B9 BD Bk Bn Bp Bv Bw Bx
  have hs:=hs.perm hf.perm
  clear hf
  have hps:pre.size<=100:=by
   unfold z2n at hp
   rw [Bool.and_eq_true,decide_eq_true_eq] at hp
   omega
  refine zr hs λa0 w' hs=>?_
  refine z8 hs ?_
  refine z8 hs ?_
  refine z06 ?_ (by simp;omega)
  refine zq4 hs (seg,gap,()) ?_
  refine zb (z0ah (d:=d) (D:=D) pre seg gap hp hc hg hs) λ_ w' hs=>?_
  rw [ho] at hs
  rcases hs with ⟨he,-,-⟩|⟨-,lg,rfl,hs⟩
  ·exact absurd rfl he
  refine ⟨(some ⟨lg,0,none⟩,0,()),rfl,trivial,z23 _ _ ?_⟩
  refine wp_lt ?_
  refine z06 ?_ (by simp)
  refine z8 hs ?_
  refine zr hs λa10 w' hs=>?_
  have hs:Sat w' (pt a10 (.cells #[.pointer (some ⟨lg,0,none⟩),.pointer (some ⟨d,0,none⟩),.string pre,.int .i64 most,.pointer none,.pointer none] T.a39)::dk d D'::lgP lg ⟨d,pre,seg,gap,S⟩::r):=hs.sub
  refine zj (λq w'=>q=(false,())/\Sat w' (pt a10 (.cells #[.pointer (some ⟨lg,0,none⟩),.pointer (some ⟨d,0,none⟩),.string pre,.int .i64 most,.pointer none,.pointer none] T.a39)::dk d D'::lgP lg ⟨d,pre,seg,gap,S⟩::r)) ?_ ?_
  ·refine zb (zus (p:=a10) pre hps hs) λ_ w' hs=>?_
   obtain ⟨rfl,hs⟩:=hs
   refine zd ?_
   refine zb (z0dd (d:=d) (A:=D') (zc8 pre) hs) λ_ w' hs=>?_
   obtain ⟨rfl,hs⟩:=hs
   refine zd ?_
   rw [z03d λf hf=>(hno f hf).2]
   refine z06 ?_ (by simp)
   refine zb (zus (p:=a10) pre hps hs) λ_ w' hs=>?_
   obtain ⟨rfl,hs⟩:=hs
   refine zd ?_
   refine zb (z0an (d:=d) (D:=D') (zc8 pre) (λf hf=>(hno f hf).2) hs) λ_ w' hs=>?_
   obtain ⟨rfl,hs⟩:=hs
   refine zd ?_
   exact zg ⟨rfl,hs.sub⟩
  clear hs
  rintro _ w ⟨rfl,hs⟩
  refine zh ?_
  refine zj (λq w'=>Sat w' (pt a10 (.cells #[.pointer (some ⟨lg,0,none⟩),.pointer (some ⟨d,0,none⟩),.string pre,.int .i64 most,.pointer none,.pointer none] T.a39)::dk d D'::lgP lg ⟨d,pre,seg,gap,S⟩::r)) ?_ ?_
  ·refine z06 ?_ (by simp)
   exact zg hs
  clear hs
  rintro _ w hs
  refine zh ?_
  refine zb (z04s (p:=a10) (d:=d) (D:=D') pre most hps (by omega) (λf hf=>(hno f hf).1) hs) λ_ w' hs=>?_
  obtain ⟨rfl,t,v,hs⟩:=hs
  refine zd ?_
  refine wp_lt ?_
  refine zb (z0cq (lg:=lg) (A:=⟨d,pre,seg,gap,S⟩) (D:=D') hok hhas hlen hall hs) λ_ w' hs=>?_
  obtain ⟨y,outs,rfl,hmap,hs⟩:=hs
  refine zd ?_
  have hmap:outs.map BatM.p=z0e S:=hmap
  have hs:Sat w' (paP a10 (z7x ⟨d,pre,seg,gap,S⟩ most)::slc T.a0 7 y (outs.flatMap z01)::z28 outs::dk d D'::r):=by
   have hs:Sat w' (slc T.a0 7 y (outs.flatMap z01)::z28 outs::lgP lg (z7x ⟨d,pre,seg,gap,S⟩ most).L::dk d D'::pt a10 (.cells #[.pointer (some ⟨lg,0,none⟩),.pointer (some ⟨(z7x ⟨d,pre,seg,gap,S⟩ most).L.d,0,none⟩),.string (z7x ⟨d,pre,seg,gap,S⟩ most).L.pre,.int .i64 (z7x ⟨d,pre,seg,gap,S⟩ most).most,.pointer (some ⟨t,0,none⟩),.pointer (some ⟨v,0,none⟩)] T.a39)::tb t (z7x ⟨d,pre,seg,gap,S⟩ most).T::vw v (z7x ⟨d,pre,seg,gap,S⟩ most).V::r):=hs
   exact z39 (lg:=lg) (t:=t) (v:=v) (z7x ⟨d,pre,seg,gap,S⟩ most) hs
  have hlo:=congrArg List.length hmap
  rw [List.length_map] at hlo
  have hly:=hs.slen y (xs:=outs) (enc:=z01)
  have hov:∀ b ∈ outs,0<=b.base:=λb hb=>by
   have h1:b.p ∈ z0e S:=by rw [<- hmap];exact List.mem_map.2 ⟨b,hb,rfl⟩
   have hv:z02 b=0:=((zcj (Int.le_refl 0) hok).valid _ h1).1
   exact (z1d b hv).2.2.1.2.1.1
  have hop:z2f ⟨d,pre,seg,gap,S⟩ most=outs.foldl z4c (z7x ⟨d,pre,seg,gap,S⟩ most):=by
   unfold z2f
   show (z0e S).foldl z4c _=_
   rw [<- hmap,zv8]
  rw [hop]
  generalize z7x ⟨d,pre,seg,gap,S⟩ most=A0 at *
  refine zj (λq w'=>Sat w' (paP a10 (outs.foldl z4c A0)::dk d D'::r)) ?_ ?_
  rotate_left
  ·rintro _ w2 hs
   refine zh ?_
   exact ⟨rfl,a10,rfl,hs⟩
  refine z0a (λm q w=>∃ i:Nat,q=((i:Int),())/\i<=outs.length/\outs.length-i=m/\Sat w (paP a10 ((outs.take i).foldl z4c A0)::slc T.a0 7 y (outs.flatMap z01)::z28 outs::dk d D'::r)) outs.length ⟨0,rfl,by omega,rfl,hs⟩ ?_
  clear hs
  rintro m _ w ⟨i,rfl,hi,hm2,hs⟩
  refine zh ?_
  refine zi (λhc2=>?_) λhc2=>?_
  rotate_left
  ·rw [List.take_of_length_le (by omega)] at hs
   refine zm (zg ?_)
   exact hs.sub
  have hil:i<outs.length:=by omega
  have hb0:=hov _ (List.getElem_mem hil)
  have hbr:FocR (z28 outs::dk d D'::r) outs[i].x 4 (outs[i].rs.flatMap z0f):=ztp (List.getElem_mem hil)
  have htk:outs.take (i+1)=outs.take i++[outs[i]]:=by rw [List.take_add_one,List.getElem?_eq_getElem hil,Option.toList_some]
  refine z5b hs i hil ?_
  refine zu hs λa33 w' hs=>?_
  refine zv hs λw' hs=>?_
  refine z8 hs ?_
  refine zj (λq w'=>Sat w' (paP a10 ((outs.take (i+1)).foldl z4c A0)::slc T.a0 7 y (outs.flatMap z01)::z28 outs::dk d D'::r)) ?_ ?_
  ·refine z18 ?_ (by simpa using hb0)
   refine zl hs ?_
   refine zb (zuv (p:=a10) (A:=(outs.take i).foldl z4c A0) outs[i] hs) λ_ w' hs=>?_
   obtain ⟨rfl,hs⟩:=hs
   refine zd ?_
   refine zg ?_
   rw [htk,List.foldl_append,List.foldl_cons,List.foldl_nil]
   exact hs.sub
  clear hs
  rintro _ w hs
  refine zh ?_
  refine z22 (us':=[.int .i64 ((i+1:Nat):Int)]) (by (try simp (disch:=omega) only [w64]);first|rfl|(congr;omega)) ?_
  exact z0x (outs.length-(i+1)) ⟨i+1,rfl,by omega,rfl,hs⟩
end
theorem zwu (A:PartA) (D:DiskA) (b:BatM):(z0d A D b).2.1.L.d=A.L.d/\(z0d A D b).2.1.L.pre=A.L.pre/\(z0d A D b).2.1.L.seg=A.L.seg/\(z0d A D b).2.1.L.gap=A.L.gap/\(z0d A D b).2.1.most=A.most:=by
 unfold z0d;split
 ·exact ⟨rfl,rfl,rfl,rfl,rfl⟩
 unfold zax;split
 ·exact ⟨rfl,rfl,rfl,rfl,rfl⟩
 split
 ·exact ⟨rfl,rfl,rfl,rfl,rfl⟩
 ·exact ⟨rfl,rfl,rfl,rfl,rfl⟩
theorem zuu {A:PartA} {D:DiskA} (b:BatM) (hp:z2n A.L.pre=true) (h:Cpl A.L.pre A.L.l D):Cpl A.L.pre (z0d A D b).2.1.L.l (z0d A D b).2.2:=by
 unfold z0d;split
 ·exact h
 have h1:=(z96 A.L.seg [b.to (zn A.L.l)] hp h).1;unfold zax;split
 ·exact h1
 split
 ·exact (z5s h1).1
 ·exact (z5s h1).1
section
variable {w:World} {l r:List HP} {p d:Nat} {A:PartA} {D:DiskA}
theorem z0d0 (b:BatM) {r1:List HP} [hf:Fo l paP p A r1] [hf2:Fo r1 dk A.L.d D r] (hb:FocR r b.x 4 (b.rs.flatMap z0f)) (h:Cpl A.L.pre A.L.l D) (hr:b.rs.length<=1000000) (hm:z0i b=false) (hs:Sat w l) :
  Ret P F.a76 #[.pointer (some ⟨p,0,none⟩),.agg (z01 b).toArray] w λvs w'=>vs=[.int .i64 (z0d A D b).1.1,.bool (z0d A D b).1.2.1,.int .i64 (z0d A D b).1.2.2]/\Sat w' (paP p (z0d A D b).2.1::dk A.L.d (z0d A D b).2.2::r):=by
 obtain ⟨h1,h2,h3⟩:=h.len;exact z01g b hb (by omega) h.segs (λs hs=>by have:=h3 s hs;omega) hr hm hs
theorem z04x (hst:zi8 A) (off most:Int) (c:Bool) (ho : -9223372036854775808<=off/\off<9223372036854775808) (hmo:most<9223372036854775808) {r1:List HP} [hf:Fo l paP p A r1] [hf2:Fo r1 dk A.L.d D r] (h:Cpl A.L.pre A.L.l D) (hs:Sat w l) :
  Ret P F.a79 #[.pointer (some ⟨p,0,none⟩),.int .i64 off,.int .i64 most,.bool c] w λvs w'=>∃ z:Sl,vs=[z.v,.int .i64 (z2t A off most c).1.2,.int .i64 (z2t A off most c).2]/\Sat w' (slc T.a40 5 z ((z2t A off most c).1.1.flatMap zp)::paP p A::dk A.L.d D::r):=by
 obtain ⟨h1,h2,h3⟩:=h.len;exact z0as hst off most c ho hmo h.segs h.has (by omega) (by omega) hs
theorem z0aq (pre:ByteArray) (seg gap most:Int) (hp:z2n pre=true) (hc:zg1 seg gap) (hm:1<=most/\most<=1024) (hg:D.gone=false) {S:List SegA} (h:Cpl pre S D) (hno:∀ f ∈ D.fs,f.name≠zc7 pre/\f.name≠zc8 pre) [hf:Fo l dk d D r] (hs:Sat w l) :
  Ret P F.a75 #[.pointer (some ⟨d,0,none⟩),.string pre,.agg #[.int .i64 seg,.int .i64 gap,.int .i64 most]] w λvs w'=>∃ p:Nat,vs=[.pointer (some ⟨p,0,none⟩),.int .i64 0]/\Sat w' (paP p (z2f ⟨d,pre,seg,gap,S⟩ most)::dk d D::r):=by
 obtain ⟨h1,h2,h3⟩:=h.len;exact z04t pre seg gap most hp hc hm hg S D h.opened hno h.segs h.has (by omega) (by omega) hs
end
def kR:List RecM:=[⟨ByteArray.mk #[107],ByteArray.mk #[],false,0⟩]
def kB (x:Sl):BatM:=⟨0,3,0,0,1,0,x,kR⟩
def kA (d:Nat):PartA:=z7x ⟨d,aP,100,9,[]⟩ 4
def kD:DiskA:=⟨10000,-1,false,[]⟩
def kM:BatM:=z0gk 3 0 true 0 ⟨none,0,0⟩
theorem k1 (d:Nat) (x:Sl):(z0d (kA d) kD (kB x)).1=(0,false,0):=by kernel_rfl
section
variable {d:Nat} {x:Sl} {S U:PartA × DiskA}
theorem k2 (h:S=(z0d (kA d) kD (kB x)).2):z0d S.1 S.2 (kB x)=((0,true,0),S):=by subst h;kernel_rfl
theorem k3 (h:S=(z0d (kA d) kD (kB x)).2):z2t S.1 0 9 true=(([],0),0):=by subst h;kernel_rfl
theorem k4 (h:S=(z0d (kA d) kD (kB x)).2):((z2t S.1 0 9 false).1.1.length,(z2t S.1 0 9 false).1.2,(z2t S.1 0 9 false).2)=(1,1,0):=by subst h;kernel_rfl
theorem k5 (h:S=(z0d (kA d) kD (kB x)).2):(z0d S.1 S.2 kM).1=(1,false,0):=by subst h;kernel_rfl
theorem k6 (h:S=(z0d (kA d) kD (kB x)).2) (h2:U=(z0d S.1 S.2 kM).2):((z2t U.1 0 9 true).1.1.length,(z2t U.1 0 9 true).1.2,(z2t U.1 0 9 true).2)=(1,2,0):=by subst h h2;kernel_rfl
theorem k7 (h:S=(z0d (kA d) kD (kB x)).2):S.1.L.d=d/\S.1.L.pre=aP/\Cpl aP S.1.L.l S.2:=by
 have h1:=zwu (kA d) kD (kB x);have h2:=zuu (A:=kA d) (D:=kD) (kB x) (by kernel_rfl) (zla aP 10000 (by omega));rw [<- h] at h1 h2;exact ⟨h1.1,h1.2.1,h2⟩
theorem k8 (h:S.1.L.d=d/\S.1.L.pre=aP/\Cpl aP S.1.L.l S.2) (h2:U=(z0d S.1 S.2 kM).2):U.1.L.d=d/\U.1.L.pre=aP/\Cpl aP U.1.L.l U.2:=by
 obtain ⟨g1,g2,g3⟩:=h;have h1:=zwu S.1 S.2 kM;rw [<- g2] at g3;have h3:=zuu (A:=S.1) (D:=S.2) kM (by rw [g2];kernel_rfl) g3;rw [<- h2] at h1 h3;exact ⟨h1.1.trans g1,h1.2.1.trans g2,by rw [g2] at h3;exact h3⟩
end
instance {b:Nat}:AddrIs ((Addr.add ⟨b,0,none⟩ 1).add 1) b 2:=⟨rfl⟩
instance {b:Nat}:AddrIs ((Addr.add ⟨b,0,none⟩ 1).add 2) b 3:=⟨rfl⟩
section
variable {P:Program} {w:World} {l r:List HP} {Q:Post} {S:World->Prop} {T:TypeId} {sz:Nat} {x y:Sl} {cs ds:List Value}
theorem Sat.slc_pre {n:Nat} (hs:Sat w (slc T sz x cs::l)) (hn:n<=x.len):Sat w (slc T sz ⟨x.a,n,x.cap⟩ (cs.take (n*sz))::l):=by
 refine hs.imp λp hp=>?_
 rcases hp with ⟨h1,h2,h3,rfl⟩|⟨b,off,arr,fr,ha,hb,hlen,hle,hsz,hc,hf⟩
 ·exact .inl ⟨h1,by dsimp only;omega,h3,by simp⟩
 ·have hnl:n*sz<=x.len*sz:=Nat.mul_le_mul_right _ hn;refine .inr ⟨b,off,arr,fr,ha,hb,?_,by dsimp only;omega,hsz,λi hi=>?_,hf⟩
  ·rw [List.length_take,hlen];dsimp only;omega
  ·rw [List.length_take] at hi;rw [hc i (by omega),List.getElem?_take,if_pos (by omega)]
theorem zmk {b off o:Nat} {vs:List Value} (hs:Sat w (slc T sz x cs::l)) (ha:x.a=some ⟨b,off,none⟩) (ho:o+vs.length<=x.cap*sz) (h1:∀ v ∈ vs,v.oneCell'=true) :
  ∃ w',(storeCells ⟨b,off+o,none⟩ vs).run P w=.ok () w'/\(cs.length<=o->Sat w' (slc T sz x cs::l))/\(o+vs.length<=cs.length->Sat w' (slc T sz x (cs.take o++vs++cs.drop (o+vs.length))::l)):=by
 obtain ⟨p1,p2,q1,q2,hd,hA,hl⟩:=hs
 rcases hA with ⟨ha',_,_,_⟩|⟨b',off',arr,fr,ha',hb,hlen,hle,hsz,hcs,hf⟩
 ·rw [ha] at ha';cases ha'
 rw [ha] at ha'
 obtain ⟨rfl,rfl⟩:b=b'/\off=off':=by cases ha';exact ⟨rfl,rfl⟩
 have hbw:w.heap[b]? = some (.cells arr T fr):=q1 b _ hb
 have hset:Sat w (pt b (.cells arr T fr)::l):=⟨p1,p2,q1,q2,hd,hb,hl⟩
 refine ⟨_,z9g (P:=P) vs (off:=off+o) (i:=0) hbw (by omega) (λi h1 h2=>hf i (by omega) (by omega)) h1,λh=>?_,λh=>?_⟩
 ·refine hset.set.imp λp hp=>.inr ⟨b,off,_,fr,ha,hp,hlen,hle,by rw [z4w];exact hsz,λi hi=>?_,hf⟩;rw [getElem?_putCells vs (by omega),if_neg (by omega),hcs i hi]
 ·refine hset.set.imp λp hp=>.inr ⟨b,off,_,fr,ha,hp,?_,hle,by rw [z4w];exact hsz,λi hi=>?_,hf⟩
  ·rw [List.length_append,List.length_append,List.length_take,List.length_drop];omega
  ·rw [List.length_append,List.length_append,List.length_take,List.length_drop] at hi;rw [getElem?_putCells vs (by omega)]
   by_cases h2:i<o
   ·rw [if_neg (by omega),hcs i (by omega),List.getElem?_append_left (by simp;omega),List.getElem?_append_left (by simp;omega),List.getElem?_take,if_pos h2]
   by_cases h3:i<o+vs.length
   ·rw [if_pos (by omega),List.getElem?_append_left (by simp;omega),List.getElem?_append_right (by simp;omega),List.length_take]
    congr 1;omega
   ·rw [if_neg (by omega),hcs i (by omega),List.getElem?_append_right (by simp;omega),List.getElem?_drop,List.length_append,List.length_take]
    congr 1;omega
theorem z02y {t tx ty:TypeId} {i:TypeInfo} (ht:P.underlying t=some (.slice T)) (hi:P.info? T=some i)
  (hs:Sat w (slc T i.size x cs::l)) {v:Value} {n:Nat} (hsrc:Src P i.size tx v n ds w) (hroom:x.len+n<=x.cap) :
  ∃ w',(app t tx ty x.v v).run P w=.ok (Sl.mk x.a (x.len+n) x.cap).v w'/\Sat w' (slc T i.size ⟨x.a,x.len+n,x.cap⟩ (cs++ds)::l):=by
 have hs':=hs;obtain ⟨p1,p2,h1,h2,hd,hA,hl⟩:=hs
 rcases hA with ⟨ha,hl0,hc0,rfl⟩|⟨b,off,arr,fr,ha,hb,hlen,hle,hsz,hcs,hf⟩
 ·have hn0:n=0:=by omega
  subst hn0;have hds:ds=[]:=List.length_eq_zero_iff.1 (by rw [hsrc.newsLen,Nat.zero_mul]);subst hds;obtain ⟨a,ln,cp⟩:=x;simp only at ha hl0 hc0;subst ha hl0 hc0;refine ⟨w,?_,hs'⟩
  rcases hsrc.kind with ⟨e',hk⟩|hk <;>
   simp [app,Builtin.append_,run_underlying ht,run_underlying hk,sizeOf,typeInfo,hi,hsrc.len,hsrc.cells]
 ·have hbw:w.heap[b]? = some (.cells arr T fr):=h1 b _ hb;obtain ⟨a,ln,cp⟩:=x;simp only at ha hlen hle hsz hf hroom;subst ha
  have hfit:off+ln*i.size+ds.length<=arr.size:=by
   rw [hsrc.newsLen,Nat.add_assoc,<- Nat.add_mul];exact Nat.le_trans (Nat.add_le_add_left (Nat.mul_le_mul_right _ hroom) _) hsz
  have hrun:=run_append_room_src (P:=P) w t tx ty T i ht hi b off ln cp v n ds hsrc hroom
   (λj hj=>by rw [z3h hbw];simp;omega)
   (λj hj=>by
    have h3:ln*i.size+ds.length<=cp*i.size:=by rw [hsrc.newsLen,<- Nat.add_mul];exact Nat.mul_le_mul_right _ hroom
    have:=hf (off+ln*i.size+j) (by omega) (by omega);simp only [World.frozen?,hbw]
    simpa using this)
  rw [zch ds hbw] at hrun;refine ⟨_,hrun,?_⟩
  have hset:Sat w (pt b (.cells arr T fr)::l):=⟨p1,p2,h1,h2,hd,hb,hl⟩
  refine hset.set.imp λp hp=>.inr ⟨b,off,_,fr,rfl,hp,?_,hroom,?_,λj hj=>?_,hf⟩
  ·rw [List.length_append,hlen,hsrc.newsLen,Nat.add_mul]
  ·rw [z4w];exact hsz
  ·rw [List.length_append,hlen] at hj;rw [getElem?_putCells ds hfit]
   by_cases hjl:j<ln*i.size
   ·rw [if_neg (by omega),hcs j (by omega),List.getElem?_append_left (by omega)]
   ·rw [if_pos (by omega),List.getElem?_append_right (by omega),hlen]
    congr 1;omega
theorem zvc {α:Type} {enc:α->List Value} {xs ys:List α} {tx ty el el':TypeId} {t:TypeId} {bytes sz' bytes':Nat} {k:Sl->Prog} (hs:Sat w (slc el sz x (xs.flatMap enc)::r)) [ht:SlT P t el sz bytes] [htx:SlT P tx el' sz' bytes'] (hy:Rd w sz y (ys.flatMap enc)) [hE:EncN enc sz]
  (hroom:x.len+y.len<=x.cap) (h:∀ w',Sat w' (slc el sz ⟨x.a,x.len+y.len,x.cap⟩ ((xs++ys).flatMap enc)::r)->(k ⟨x.a,x.len+y.len,x.cap⟩).wp P S w' Q) (hS:∀ w',S w':=by exact λ_=>trivial) :
  (Prog.act (app t tx ty (.slice x.a x.len x.cap) (.slice y.a y.len y.cap)) sL (u1 k)).wp P S w Q:=by
 obtain ⟨i,z,hi,rfl,rfl,hz,hzs⟩:=ht.parts
 obtain ⟨w',hrun,hs'⟩:=z02y (ty:=ty) ht.ok.1 hi hs (z021 ⟨_,htx.ok.1⟩ hy λu hu=>by
  obtain ⟨a,-,hu⟩:=List.mem_flatMap.1 hu
  exact hE.one a u hu) hroom
 rw [<- List.flatMap_append] at hs';exact ⟨(⟨x.a,x.len+y.len,x.cap⟩,()),w',hrun,hS _,h w' hs'⟩
theorem zp0 {z:Array Value} (h:∀ v ∈ z.toList,v.oneCell'=true) {n:Nat}:∀ v ∈ (Builtin.zeroCells z n).toList,v.oneCell'=true:=λv hv=>by
 unfold Builtin.zeroCells at hv;simp only [Array.toList_map,List.mem_map,Array.mem_toList_iff,Array.mem_range] at hv;obtain ⟨i,hi,rfl⟩:=hv
 have hp:0<z.size:=by
  rcases Nat.eq_zero_or_pos z.size with h0|h0
  ·rw [h0,Nat.mul_zero] at hi;omega
  ·exact h0
 have hm:=Nat.mod_lt i hp;rw [getElem!_pos z _ hm];exact h _ (by simp)
theorem z0b2 {t ty:TypeId} {i:TypeInfo} {z:Value} (ht:P.underlying t=some (.slice T)) (hi:P.info? T=some i) (hz:i.zero=some z) (hzs:z.cells.size=sz) (h1:∀ v ∈ z.cells.toList,v.oneCell'=true)
  (hs:Sat w (slc T sz x cs::l)) {n m c:Nat} (hn:x.len<=n) (hm:n+m<=x.cap) :
  ∃ w',(Builtin.clear_ #[t] ty #[.slice (x.a.map λa=>a.add (n*sz)) m c]).run P w=.ok (.tuple #[]) w'/\Sat w' (slc T sz x cs::l):=by
 have hlen:=hs.rd.1
 cases ha:x.a with
 | none=>exact ⟨w,by simp [Builtin.clear_,run_underlying ht],hs⟩
 | some a =>
  obtain ⟨b,off,s⟩:=a;have hs2:=hs;obtain ⟨p1,p2,q1,q2,hd,hA,hl⟩:=hs2
  have hsn:s=none:=by
   rcases hA with ⟨ha',_,_,_⟩|⟨b',off',arr,fr,ha',hb,hlen,hle,hsz,hcs,hf⟩
   ·rw [ha] at ha';cases ha'
   ·rw [ha] at ha';cases ha';rfl
  subst hsn
  cases m with
  | zero=>exact ⟨w,by simp [Builtin.clear_,run_underlying ht],hs⟩
  | succ m =>
   have hle:(n+(m+1))*sz<=x.cap*sz:=Nat.mul_le_mul_right _ hm;rw [Nat.add_mul] at hle;have hnl:x.len*sz<=n*sz:=Nat.mul_le_mul_right _ hn;obtain ⟨w',hrun,hsat,-⟩:=zmk (P:=P) (o:=n*sz) (vs:=(Builtin.zeroCells z.cells (m+1)).toList) hs ha (by rw [Array.length_toList,size_zeroCells,hzs];exact hle) (zp0 h1);refine ⟨w',?_,hsat (by omega)⟩;have e:((⟨b,off,none⟩:Addr).add (n*sz))=⟨b,off+n*sz,none⟩:=z2d _ _ _;simp [Builtin.clear_,run_underlying ht,zeroValue,typeInfo,hi,hz,e,hrun]
theorem zq2 {t ty el:TypeId} {bytes:Nat} {k:Prog} [ht:SlT P t el sz bytes] (hs:Sat w (slc el sz x cs::l)) {n m c:Nat} (hn:x.len<=n) (hm:n+m<=x.cap)
  (h:∀ w',Sat w' (slc el sz x cs::l)->k.wp P S w' Q) (h1:((P.info? el).bind (·.zero)).all (λz=>z.cells.toList.all (·.oneCell'))=true:=by kernel_rfl) (hS:∀ w',S w':=by exact λ_=>trivial) :
  (Prog.act (Builtin.clear_ #[t] ty #[.slice (z0k x.a sz n x.cap) m c]) (.tup []) (u0 k)).wp P S w Q:=by
 obtain ⟨i,z,hi,rfl,rfl,hz,hzs⟩:=ht.parts;rw [hi] at h1
 have h1:z.cells.toList.all (·.oneCell')=true:=by
  have h2:(i.zero).all (λz=>z.cells.toList.all (·.oneCell'))=true:=h1;rw [hz] at h2;exact h2
 rw [List.all_eq_true] at h1
 by_cases hc:x.cap=n
 ·have hm0:m=0:=by omega
  subst hm0;refine ⟨(),w,?_,hS _,h _ hs⟩
  cases ha:z0k x.a i.size n x.cap with
  | none=>simp [Builtin.clear_,run_underlying ht.ok.1,Sh.mk]
  | some a=>simp [Builtin.clear_,run_underlying ht.ok.1,Sh.mk]
 ·obtain ⟨w',hrun,hs'⟩:=z0b2 (ty:=ty) ht.ok.1 hi hz hzs h1 hs hn hm (c:=c);refine ⟨(),w',?_,hS _,h _ hs'⟩;unfold z0k;rw [if_neg hc];exact hrun
end
section
variable {P:Program} {w:World} {l r:List HP} {Q:Post} {S:World->Prop} {T:TypeId} {sz:Nat} {x y:Sl} {cs ds:List Value}
theorem zcz {b off:Nat} (hs:Sat w (slc T sz x cs::l)) (ha:x.a=some ⟨b,off,none⟩):∃ arr fr,w.heap[b]? = some (.cells arr T fr)/\cs.length=x.len*sz/\x.len<=x.cap/\off+x.cap*sz<=arr.size/\∀ i,i<cs.length->arr[off+i]? = cs[i]? := by
 obtain ⟨p1,p2,q1,q2,hd,hA,hl⟩:=hs
 rcases hA with ⟨ha',_,_,_⟩|⟨b',off',arr,fr,ha',hb,hlen,hle,hsz,hcs,hf⟩
 ·rw [ha] at ha';cases ha'
 ·rw [ha] at ha'
  obtain ⟨rfl,rfl⟩:b=b'/\off=off':=by cases ha';exact ⟨rfl,rfl⟩
  exact ⟨arr,fr,q1 b _ hb,hlen,hle,hsz,hcs⟩
theorem z05h (hs:Sat w (slc T sz x cs::l)) (h:x.len≠0):∃ b off,x.a=some ⟨b,off,none⟩:=by
 obtain ⟨p1,p2,q1,q2,hd,hA,hl⟩:=hs
 rcases hA with ⟨_,h0,_,_⟩|⟨b,off,arr,fr,ha,_⟩
 ·exact absurd h0 h
 ·exact ⟨b,off,ha⟩
theorem z0de {b off c:Nat} {o:Obj} (hs:Sat w (slc T sz x cs::pt c o::l)) (ha:x.a=some ⟨b,off,none⟩):b≠c:=by
 obtain ⟨p1,p2,q1,q2,hd,hA,hl⟩:=hs
 rcases hA with ⟨ha',_,_,_⟩|⟨b',off',arr,fr,ha',hb,hlen,hle,hsz,hcs,hf⟩
 ·rw [ha] at ha';cases ha'
 ·rw [ha] at ha'
  obtain ⟨rfl,rfl⟩:b=b'/\off=off':=by cases ha';exact ⟨rfl,rfl⟩
  obtain ⟨p3,p4,q3,q4,hd2,hB,hl2⟩:=hl;intro e;subst e;have h2:p2 b=some o:=q3 b _ hB
  rcases hd b with h|h
  ·rw [hb] at h;cases h
  ·rw [h2] at h;cases h
theorem Sat.slc_ext {b off n:Nat} (hs:Sat w (slc T sz x cs::l)) (ha:x.a=some ⟨b,off,none⟩) (h1:x.len<=n) (h2:n<=x.cap):∃ t:List Value,t.length=(n-x.len)*sz/\Sat w (slc T sz ⟨x.a,n,x.cap⟩ (cs++t)::l):=by
 obtain ⟨p1,p2,q1,q2,hd,hA,hl⟩:=hs
 rcases hA with ⟨ha',_,_,_⟩|⟨b',off',arr,fr,ha',hb,hlen,hle,hsz,hcs,hf⟩
 ·rw [ha] at ha';cases ha'
 rw [ha] at ha'
 obtain ⟨rfl,rfl⟩:b=b'/\off=off':=by cases ha';exact ⟨rfl,rfl⟩
 have hset:Sat w (pt b (.cells arr T fr)::l):=⟨p1,p2,q1,q2,hd,hb,hl⟩
 have hns:n*sz<=x.cap*sz:=Nat.mul_le_mul_right _ h2;have hxs:x.len*sz<=n*sz:=Nat.mul_le_mul_right _ h1;have hsub:(n-x.len)*sz=n*sz-x.len*sz:=Nat.sub_mul ..
 have hasz:arr.toList.length=arr.size:=by simp
 have htl:((arr.toList.drop (off+cs.length)).take ((n-x.len)*sz)).length=(n-x.len)*sz:=by
  rw [List.length_take,List.length_drop,hasz];omega
 refine ⟨(arr.toList.drop (off+cs.length)).take ((n-x.len)*sz),htl,?_⟩;refine hset.imp λp hp=>.inr ⟨b,off,arr,fr,ha,hp,?_,h2,hsz,λi hi=>?_,hf⟩
 ·rw [List.length_append,htl,hlen];show _=n*sz;omega
 ·rw [List.length_append,htl] at hi
  by_cases hic:i<cs.length
  ·rw [hcs i hic,List.getElem?_append_left hic]
  ·rw [List.getElem?_append_right (by omega),List.getElem?_take,if_pos (by omega),List.getElem?_drop,Array.getElem?_toList]
   congr 1;omega
theorem zg5 {t t' ty:TypeId} {i:TypeInfo} (ht:P.underlying t=some (.slice T)) (hi:P.info? T=some i) (hsz:i.size=sz) (hs:Sat w (slc T sz x cs::l)) {b off o n dl dc sl sc:Nat} {sa:Option Addr} (ha:x.a=some ⟨b,off,none⟩)
  (hn:n=min sl dl) (hsrc:(Builtin.firstCells sz n (.slice sa sl sc)).run P w=.ok ds.toArray w) (h1:∀ v ∈ ds,v.oneCell'=true) (ho:o+ds.length<=cs.length) :
  ∃ w',(Builtin.copy_ #[t,t'] ty #[.slice (some ⟨b,off+o,none⟩) dl dc,.slice sa sl sc]).run P w=.ok (.int .i64 n) w'/\Sat w' (slc T sz x (cs.take o++ds++cs.drop (o+ds.length))::l):=by
 obtain ⟨arr,fr,hb,hlen,hle,hcap,hcs⟩:=zcz hs ha;have hle':x.len*sz<=x.cap*sz:=Nat.mul_le_mul_right _ hle;obtain ⟨w',hrun,-,h2⟩:=zmk (P:=P) (o:=o) (vs:=ds) hs ha (by omega) h1;refine ⟨w',?_,h2 ho⟩;subst hn hsz;have hm:Nat.min sl dl=min sl dl:=rfl;simp [Builtin.copy_,run_underlying ht,Builtin.lenOf,sizeOf,typeInfo,hi,hm,hsrc,hrun,goInt]
theorem z02z {t tn ty:TypeId} {i:TypeInfo} {z:Value} (ht:P.underlying t=some (.slice T)) (htn:P.underlying tn=some (.int .i64)) (hi:P.info? T=some i) (hz:i.zero=some z) (hzs:z.cells.size=i.size) (hpos:0<i.size)
  (hs:Sat w (slc T i.size x cs::l)) {n k:Nat} (hn:n<=x.len) (h0:0<k) (hg:x.cap<n+k) (hb:(n+k)*i.bytes<=140737488355328) (h63:n+k<=9223372036854775807) :
  ∃ (c a:Nat) (zs:List Value) (w':World),(app t tn ty (.slice x.a n x.cap) (.int .i64 k)).run P w=.ok (.slice (some ⟨a,0,none⟩) (n+k) c) w'/\n+k<=c/\zs.length=k*i.size /\
   Sat w' (slc T i.size ⟨some ⟨a,0,none⟩,n+k,c⟩ (cs.take (n*i.size)++zs)::slc T i.size x cs::l):=by
 have hlen:=hs.rd.1;have hnl:n*i.size<=x.len*i.size:=Nat.mul_le_mul_right _ hn
 have hold:(Builtin.firstCells i.size n (.slice x.a n x.cap)).run P w.drew=.ok (cs.take (n*i.size)).toArray w.drew:=by
  cases ha:x.a with
  | none =>
   obtain ⟨p1,p2,q1,q2,hd,hA,hl⟩:=hs
   rcases hA with ⟨_,hl0,_,rfl⟩|⟨b,off,arr,fr,ha',_⟩
   ·simp [Builtin.firstCells]
   ·rw [ha] at ha';cases ha'
  | some a =>
   have hn1:∃ b off,x.a=some ⟨b,off,none⟩:=by
    obtain ⟨p1,p2,q1,q2,hd,hA,hl⟩:=hs
    rcases hA with ⟨ha',_⟩|⟨b,off,arr,fr,ha',_⟩
    ·rw [ha] at ha';cases ha'
    ·exact ⟨b,off,ha'⟩
   obtain ⟨b,off,hab⟩:=hn1;rw [ha] at hab;obtain rfl:=Option.some.inj hab;obtain ⟨arr,fr,hbk,hlen,hle,hcap,hcs⟩:=zcz hs ha;refine run_firstCells_some (P:=P) w.drew i.size n ⟨b,off,none⟩ n x.cap _ (by rw [List.length_take];omega) (λj u hj=>?_);have hj2:j<(cs.take (n*i.size)).length:=(List.getElem?_eq_some_iff.1 hj).1;rw [List.length_take] at hj2;rw [List.getElem?_take,if_pos (by omega)] at hj;have hbk':w.drew.heap[b]? = some (.cells arr T fr):=hbk;rw [z2d,z3h hbk',hcs j (by omega),hj]
 have hrun:=Lib.run_append_grow_zeros (P:=P) w t tn ty T i z .i64 .i64 ht htn hi hz x.a n x.cap _ hold k h0 hpos hg (by omega) (Nat.le_trans (Nat.mul_le_mul_right _ (Nat.le_add_left k n)) (by omega)) (growslice_fits (by omega) hb);have hge:=grownCap_ge w (n+k) x.cap T
 have hzl:(Builtin.zeroCells z.cells k).toList.length=k*i.size:=by rw [Array.length_toList,size_zeroCells,hzs]
 refine ⟨_,w.heap.size,(Builtin.zeroCells z.cells k).toList,_,hrun,hge,hzl,?_⟩;have hp:=hs.push (w':=w.drew.alloc (.cells ((cs.take (n*i.size)).toArray++Builtin.zeroCells z.cells k++Builtin.zeroCells z.cells (grownCap w (n+k) x.cap T-(n+k))) T)) (o:=.cells ((cs.take (n*i.size)).toArray++Builtin.zeroCells z.cells k++Builtin.zeroCells z.cells (grownCap w (n+k) x.cap T-(n+k))) T) rfl
 have htl:(cs.take (n*i.size)).length=n*i.size:=by rw [List.length_take];omega
 refine hp.imp λp hp=>.inr ⟨w.heap.size,0,_,(0,0),rfl,hp,?_,hge,?_,λj hj=>?_,z2g _ _⟩
 ·rw [List.length_append,hzl,htl,<- Nat.add_mul]
 ·simp only [Array.size_append,List.size_toArray,size_zeroCells,hzs,htl,Nat.zero_add];rw [<- Nat.add_mul,<- Nat.add_mul];exact Nat.mul_le_mul_right _ (by omega)
 ·rw [Nat.zero_add];rw [List.length_append,hzl,htl] at hj;rw [Array.getElem?_append_left (by simp only [Array.size_append,List.size_toArray,size_zeroCells,hzs,htl];omega)]
  by_cases hj1:j<n*i.size
  ·rw [Array.getElem?_append_left (by simp only [List.size_toArray,htl];exact hj1),List.getElem?_append_left (by rw [htl];exact hj1)];simp
  ·rw [Array.getElem?_append_right (by simp only [List.size_toArray,htl];omega),List.getElem?_append_right (by rw [htl];omega),Array.getElem?_toList];simp only [List.size_toArray]
theorem z0ds {t:TypeId} {n:Nat} {ps:Array (Nat × Value)} {el:TypeId} {cells:Array Value} {k:Sl->Prog} (hs:Sat w l)
  (h:∀ b w',Sat w' (pt b (.cells cells el)::l)->S w'/\(k ⟨some ⟨b,0,none⟩,n,n⟩).wp P S w' Q) (hc:z4e P t n ps=some (el,cells):=by kernel_rfl):(Prog.act (Instr.buildSlice t n ps) sL (u1 k)).wp P S w Q:=by
 have h':=h _ _ (hs.push (o:=.cells cells el) (w':=w.alloc (.cells cells el)) rfl);exact ⟨(⟨some ⟨w.heap.size,0,none⟩,n,n⟩,()),_,zjb hc,h'.1,h'.2⟩
end
instance:EncF zp 0 (.int .i64) (λa=>a.off):=⟨λ_=>rfl⟩
instance:EncF zp 1 .str (λa=>a.r.key):=⟨λ_=>rfl⟩
def tbC (t:Nat) (C:TbC):HP:=HP.ex λz:Sl=>HP.and (z5i C.l/\C.l.length<=1000000000) (HP.star (pt t (.cells #[.int .i64 C.next,.slice z.a z.len z.cap] T.a4)) (slc T.a40 5 z (C.l.flatMap zp)))
def orC (o:Option AtM):AtM:=o.getD ⟨0,⟨ByteArray.mk #[],ByteArray.mk #[],false,0⟩⟩
theorem add_zero (a:Addr):Addr.add a 0=a:=rfl
section
variable {w:World} {l r r1 r2:List HP} {t:Nat} {C:TbC} {z:Sl}
theorem zbl (hs:Sat w (tbC t C::l)):∃ z:Sl,(z5i C.l/\C.l.length<=1000000000)/\Sat w (pt t (.cells #[.int .i64 C.next,.slice z.a z.len z.cap] T.a4)::slc T.a40 5 z (C.l.flatMap zp)::l):=by
 obtain ⟨z,hs⟩:=hs.ex;obtain ⟨h,hs⟩:=hs.and;exact ⟨z,h,hs.star⟩
theorem z76 (C:TbC) {z:Sl} (h:z5i C.l/\C.l.length<=1000000000) (hs:Sat w (pt t (.cells #[.int .i64 C.next,.slice z.a z.len z.cap] T.a4)::slc T.a40 5 z (C.l.flatMap zp)::l)):Sat w (tbC t C::l) :=
 .ex_mk z (.and_mk h (.star_mk hs))
theorem z0c1 (hs:Sat w l):Ret P F.a6 #[] w λvs w'=>∃ t:Nat,vs=[.pointer (some ⟨t,0,none⟩)]/\Sat w' (tbC t ⟨0,[]⟩::l) :=
 zgf <| by
  unfold zgl;refine zr hs λa w' hs=>⟨rfl,a,rfl,?_⟩;have h0:Sat w' (slc T.a40 5 ⟨none,0,0⟩ (([]:List AtM).flatMap zp)::_):=hs.slc_nil;exact z76 ⟨0,[]⟩ (z:=⟨none,0,0⟩) ⟨.nil,by decide⟩ (h0.pick [1])
theorem z035 (i:Nat) (a0 a1:Nat) (k:ByteArray) (hi:i<C.l.length) [h0:FocB l a0 (.cells [.pointer (some ⟨t,0,none⟩)].toArray T.a27) r1] [h1:FocB l a1 (.cells [.string k].toArray T.a57) r2]
  [h2:FocB l t (.cells [.int .i64 C.next,.slice z.a z.len z.cap].toArray T.a4) r] [h3:FocR l z 5 (C.l.flatMap zp)] (hs:Sat w l) :
  Ret P F.a11 #[.int .i64 (i:Int),.pointer (some ⟨a0,0,none⟩),.pointer (some ⟨a1,0,none⟩)] w λvs w'=>vs=[.bool (!ltS C.l[i].r.key k)]/\Sat w' l :=
 zxm _ _ _ <| by
  delta z0dy AC AE AN Ab Ad Aj Ak Ao B3 B6 Bd;refine zt hs λw' hs=>z8 hs (zf ?_);refine z8 hs ?_;simp only [add_zero];refine z02l hs (xs:=C.l) (enc:=zp) i hi (z8 hs ?_);refine wp_lt (ze ?_);exact ⟨rfl,rfl,hs⟩
theorem znv (k:ByteArray) (hok:z5i C.l/\C.l.length<=1000000000) [h2:FocB l t (.cells [.int .i64 C.next,.slice z.a z.len z.cap].toArray T.a4) r] [h3:FocR l z 5 (C.l.flatMap zp)] (hs:Sat w l):Ret P F.a10 #[.pointer (some ⟨t,0,none⟩),.string k] w λvs w'=>vs=[.int .i64 (z0j C.l k:Nat)]/\Sat w' l :=
 z02u _ k <| by
  delta zf9 AN Ab Ac Ad Af Ag Ak Al Am Ao Bt;have hl:=hs.slen z (xs:=C.l) (enc:=zp);refine zr hs λa0 w' hs=>zr hs λa1 w' hs=>z8 hs (zf ?_);refine z8 hs ?_;rw [hl];have hlen:=hok.2;refine zb (zi1 C.l.length (by omega) F.a11 #[.pointer (some ⟨a0,0,none⟩),.pointer (some ⟨a1,0,none⟩)] (λi=>!ltS (orC C.l[i]?).r.key k) (by kernel_rfl) (λi w hi hs=>?_) hs) λ_ w' hs=>?_
  ·have e:orC C.l[i]? = C.l[i]:=by rw [List.getElem?_eq_getElem hi];rfl
   simp only [e];exact z035 (C:=C) (t:=t) (z:=z) i a0 a1 k hi hs
  obtain ⟨i,hi,h1,h2,rfl,hs⟩:=hs;refine zd (wp_lt ?_)
  have e:z0j C.l k=i:=by
   refine z03f hok.1 hi (λh h0=>?_) λh=>?_
   ·have:=h1 h0;rw [List.getElem?_eq_getElem h] at this;have:(!ltS C.l[i-1].r.key k)=false:=this;simpa using this
   ·have:=h2 h;rw [List.getElem?_eq_getElem h] at this;have:(!ltS C.l[i].r.key k)=true:=this;simpa using this
  refine ⟨rfl,by rw [e],?_⟩;exact hs.tail.tail
theorem z09h (k:ByteArray) [hf:Fo l tbC t C r] (hs:Sat w l):Ret P F.a10 #[.pointer (some ⟨t,0,none⟩),.string k] w λvs w'=>vs=[.int .i64 (z0j C.l k:Nat)]/\Sat w' (tbC t C::r):=by
 obtain ⟨z,hok,hs⟩:=zbl (hs.perm hf.perm)
 exact Ret.mono (znv (t:=t) (C:=C) (z:=z) k hok hs) λvs w' h=>⟨h.1,z76 C (z:=z) hok h.2⟩
theorem z0g6 (k:ByteArray) [hf:Fo l tbC t C r] (hs:Sat w l):Ret P F.a9 #[.pointer (some ⟨t,0,none⟩),.string k] w λvs w'=>vs=[.int .i64 (z0j C.l k:Nat),.bool (z4j C.l k)]/\Sat w' (tbC t C::r) :=
 z02t _ k <| by
  delta zf8 AC AE AN AZ Ab Ac Ad Ah Aj Ak Al Am Ao BF;refine zb (z09h (t:=t) (C:=C) k hs) λ_ w' hs=>?_;obtain ⟨rfl,hs⟩:=hs;refine zd ?_;obtain ⟨z,hok,hs⟩:=zbl hs;have hl:=hs.slen z (xs:=C.l) (enc:=zp);refine wp_lt (zt hs λw' hs=>?_);refine zf (z8 hs ?_);refine z04 (z8 hs ?_);simp only [add_zero];refine ze7 (xs:=C.l) (enc:=zp) hs (orC C.l[z0j C.l k]?).r.key (λhg=>?_) ?_
  ·have hg:z0j C.l k<C.l.length:=by rw [<- hl];simpa using hg
   exact ⟨_,hg,rfl,by rw [List.getElem?_eq_getElem hg];rfl⟩
  refine wp_lt (wp_lt ?_);refine ze ⟨rfl,?_,z76 C (z:=z) hok hs.sub⟩
  have e:(decide (((z0j C.l k:Nat):Int)<((z.len:Nat):Int)) && (ByteArray.toList (orC C.l[z0j C.l k]?).r.key == ByteArray.toList k))=z4j C.l k:=by
   rw [hl];unfold z4j
   by_cases h:z0j C.l k<C.l.length
   ·rw [List.getElem?_eq_getElem h];show (_ && (ByteArray.toList C.l[z0j C.l k].r.key == ByteArray.toList k))=decide (C.l[z0j C.l k].r.key=k);rw [decide_eq_true (by omega:((z0j C.l k:Nat):Int)<(C.l.length:Int)),Bool.true_and,Bool.eq_iff_iff,beq_iff_eq,decide_eq_true_iff];exact ⟨λh=>by rw [ByteArray.toList_eq,ByteArray.toList_eq] at h;exact ByteArray.ext (Array.ext' h),λh=>by rw [h]⟩
   ·rw [List.getElem?_eq_none (by omega),decide_eq_false (by omega)];rfl
  rw [e]
theorem zmf:∀ (xs:List AtM) (f:Int) (a:AtM),z1p f (xs++[a])=(z1p f xs && decide ((match xs.getLast? with|none=>f|some b=>b.off+1)<=a.off))
 | [],f,a=>by
  show (if a.off<f then false else true)=(true && decide (f<=a.off))
  by_cases h:a.off<f
  ·rw [if_pos h,decide_eq_false (by omega)];rfl
  ·rw [if_neg h,decide_eq_true (by omega)];rfl
 | x::xs,f,a=>by
  have ih:=zmf xs (x.off+1) a;show (if x.off<f then false else z1p (x.off+1) (xs++[a]))=((if x.off<f then false else z1p (x.off+1) xs) && _)
  by_cases h:x.off<f
  ·rw [if_pos h,if_pos h];rfl
  ·rw [if_neg h,if_neg h,ih]
   cases xs with
   | nil=>rfl
   | cons y ys =>
    rw [List.getLast?_cons_cons]
    have:∃ u,(y::ys).getLast? = some u:=⟨_,List.getLast?_eq_some_getLast (by simp)⟩
    obtain ⟨u,hu⟩:=this;rw [hu]
theorem zpf:∀ (xs ys:List AtM) (f:Int),z1p f xs=false->z1p f (xs++ys)=false
 | [],ys,f,h=>by cases h
 | x::xs,ys,f,h=>by
  have h:(if x.off<f then false else z1p (x.off+1) xs)=false:=h;show (if x.off<f then false else z1p (x.off+1) (xs++ys))=false
  by_cases hx:x.off<f
  ·rw [if_pos hx]
  ·rw [if_neg hx] at h ⊢;exact zpf xs ys _ h
theorem z09m (f:Int) (x:Sl) (xs:List AtM) (hn:xs.length<=1000000000) [hx:FocR l x 5 (xs.flatMap zp)] (hs:Sat w l):Ret P F.a13 #[.int .i64 f,x.v] w λvs w'=>vs=[.bool (z1p f xs)]/\Sat w' l :=
 zxo _ x <| by
  delta z0e0 AC AD AE AH AK AW Aa Ab Ac Ak Al Av Az BJ BK;have hl:=hs.slen x (xs:=xs) (enc:=zp);refine z3j (z0a (λm q w=>∃ i:Nat,q=((i:Int),())/\i<=xs.length/\xs.length-i=m/\z1p f (xs.take i)=true/\Sat w l) xs.length ⟨0,rfl,by omega,rfl,rfl,hs⟩ ?_);clear hs;rintro m _ w ⟨i,rfl,hi,hm,hr,hs⟩;refine zh (zi (λhc=>?_) λhc=>?_);rotate_left
  ·rw [List.take_of_length_le (by omega)] at hr;refine zm (z1z ⟨(),rfl,?_⟩);exact ⟨rfl,by rw [hr],hs⟩
  have hil:i<xs.length:=by omega
  have htk:xs.take (i+1)=xs.take i++[xs[i]]:=by rw [List.take_add_one,List.getElem?_eq_getElem hil,Option.toList_some]
  have hst:z1p f (xs.take (i+1))=decide ((match (xs.take i).getLast? with|none=>f|some b=>b.off+1)<=xs[i].off):=by rw [htk,zmf,hr,Bool.true_and]
  have hlast:0<i->(xs.take i).getLast? = some (xs[i-1]'(by omega)):=λh0=>by
   rw [List.getLast?_eq_getElem?,List.length_take,Nat.min_eq_left (by omega),List.getElem?_take,if_pos (by omega),List.getElem?_eq_getElem (by omega)]
  refine z5b hs i hil (zu hs λa8 w' hs=>?_);refine wp_lt (zv hs λw' hs=>?_);refine zt hs λw' hs=>z8 hs (z8 hs ?_);refine ze7 (xs:=xs) (enc:=zp) hs (orC xs[i-1]?).off (λhg=>?_) ?_
  ·have h0:0<i:=by have:=hg.2;simp at this;omega
   exact ⟨i-1,by omega,by rw [w64 (by omega) (by omega)];omega,by rw [List.getElem?_eq_getElem (by omega)];rfl⟩
  refine ze ?_
  have hcond:((i:Int)=0/\xs[i].off<f\/(i:Int)>0/\xs[i].off<=(orC xs[i-1]?).off)↔z1p f (xs.take (i+1))=false:=by
   rw [hst]
   by_cases h0:i=0
   ·subst h0;show _↔decide (f<=xs[0].off)=false;rw [decide_eq_false_iff_not];omega
   ·have e:orC xs[i-1]? = xs[i-1]'(by omega):=by rw [List.getElem?_eq_getElem (by omega)];rfl
    rw [e,hlast (by omega)];show _↔decide ((xs[i-1]'(by omega)).off+1<=xs[i].off)=false;rw [decide_eq_false_iff_not];omega
  refine zi (λh=>?_) λh=>?_
  ·have h:z1p f (xs.take (i+1))=false:=hcond.1 h;refine zm (zm ?_);have:=zpf _ (xs.drop (i+1)) f h;rw [List.take_append_drop] at this;exact ⟨rfl,by rw [this],hs.tail⟩
  ·have h:z1p f (xs.take (i+1))=true:=by
    cases hh:z1p f (xs.take (i+1)) with
    | true=>rfl
    | false=>exact absurd (hcond.2 hh) h
   exact z22 (us':=[.int .i64 ((i+1:Nat):Int)]) (by (try simp (disch:=omega) only [w64]);first|rfl|(congr;omega)) (z0x (xs.length-(i+1)) ⟨i+1,rfl,by omega,rfl,h,hs.tail⟩)
theorem z005 (x:Sl) (xs:List AtM) (i:Nat) (hi:i<xs.length) (hn:xs.length<=1000000000) (hs:Sat w (slc T.a40 5 x (xs.flatMap zp)::l)) :
  Ret P F.a140 #[x.v,.int .i64 (i:Int),.int .i64 ((i+1:Nat):Int)] w λvs w'=>∃ z:Sl,vs=[z.v]/\Sat w' (slc T.a40 5 z ((xs.take i++xs.drop (i+1)).flatMap zp)::l) :=
 zrt x _ _ <| by
  delta z07s AC AE AT Aa Ab Ak Al Bc;have hl:=hs.slen x (xs:=xs) (enc:=zp);have hcap:=hs.slc_cap;refine wp_must (by omega) (z06 ?_ (by simp;omega));refine wp_lt (zt hs λw' hs=>?_);refine wp_must (by omega) (wp_must (by omega) ?_);rw [Int.toNat_natCast,Int.toNat_natCast]
  have hrd:Rd w' 5 ⟨z0k x.a 5 (i+1) x.cap,x.len-(i+1),x.cap-(i+1)⟩ ((xs.drop (i+1)).flatMap zp) :=
   (FocR.post (l:=slc T.a40 5 x (xs.flatMap zp)::l) (x:=x) (sz:=5) (xs:=xs) (enc:=zp) (n:=i+1) (m:=x.cap) (c:=x.cap-(i+1)) hcap).rd w' hs
  have hs:=hs.slc_pre (n:=i) (by omega);rw [z5u] at hs
  have hroom:i+(x.len-(i+1))<=x.cap:=by omega
  refine zvc (x:=⟨x.a,i,x.cap⟩) (y:=⟨z0k x.a 5 (i+1) x.cap,x.len-(i+1),x.cap-(i+1)⟩) (el:=T.a40) (sz:=5) (xs:=xs.take i) (ys:=xs.drop (i+1)) (enc:=zp) hs hrd hroom (λw' hs=>?_);refine ze (wp_must (by show (0:Int)<=((i+(x.len-(i+1)):Nat):Int)/\((i+(x.len-(i+1)):Nat):Int)<=((x.len:Nat):Int)/\((x.len:Nat):Int)<=((x.cap:Nat):Int);omega) ?_);rw [Int.toNat_natCast,Int.toNat_natCast]
  have hroom2:i+(x.len-(i+1))+(x.len-(i+(x.len-(i+1))))<=x.cap:=by omega
  refine zq2 (t:=T.a48) (el:=T.a40) (x:=⟨x.a,i+(x.len-(i+1)),x.cap⟩) (n:=i+(x.len-(i+1))) (m:=x.len-(i+(x.len-(i+1)))) hs (Nat.le_refl _) hroom2 (λw' hs=>?_);exact ⟨rfl,_,rfl,hs⟩
theorem z0cz (w:World) {b o lb cb vb vc:Nat} {arr va:Array Value} {fr:Nat × Nat} (hne:vb≠b) (hv:w.heap[vb]? = some (.cells va T.a40)) (hb:w.heap[b]? = some (.cells arr T.a40 fr)) (hsz:arr.size≠0) :
  (zk3 264 (#[]++#[.slice (some ⟨vb,0,none⟩) 1 vc,.slice (some ⟨b,o,none⟩) lb cb]++#[])).run P w=.ok (.bool false) w:=by
 have ht:SlT P T.a48 T.a40 5 _:=inferInstance;obtain ⟨i,z,hi,h5,-,-,-⟩:=ht.parts
 have h:=Lib.run_overlaps_apart (P:=P) w T.a48 T.a3 T.a40 ht.ok.1 5 (λw=>by simp [sizeOf,typeInfo,hi,h5]) ⟨vb,0,none⟩ ⟨b,o,none⟩ 1 vc lb cb hne T.a40 T.a40 va.size arr.size
  (by simp [World.shape?,hv]) (by simp [World.shape?,hb]) hsz (by simp [World.frozen?,hv]) (by simp [World.frozen?,hv])
 unfold zk3;rw [Sem.run_bind,run_callFunc_extern Go.Proofs.Tryz.func264 (by kernel_rfl) (by kernel_rfl) (by kernel_rfl) (e:=Extern.SlicesOverlaps.overlaps #[T.a48,T.a48] #[T.a3]) (by kernel_rfl)]
 have e:(#[]++#[Value.slice (some ⟨vb,0,none⟩) 1 vc,Value.slice (some ⟨b,o,none⟩) lb cb]++#[]:Array Value)=#[Value.slice (some ⟨vb,0,none⟩) 1 vc,Value.slice (some ⟨b,o,none⟩) lb cb]:=by simp
 rw [e,h];simp
set_option maxHeartbeats 1000000 in
theorem z09j (x:Sl) (xs:List AtM) (a:AtM) (i:Nat) (hi:i<=xs.length) (hn:xs.length<=1000000000) {vb:Nat} (hs:Sat w (slc T.a40 5 x (xs.flatMap zp)::pt vb (.cells (zp a).toArray T.a40)::l)) :
  Ret P F.a143 #[x.v,.int .i64 (i:Int),.slice (some ⟨vb,0,none⟩) 1 1] w λvs w'=>∃ z:Sl,vs=[z.v]/\Sat w' (slc T.a40 5 z ((xs.take i++a::xs.drop i).flatMap zp)::l) :=
 zrw x _ ⟨some ⟨vb,0,none⟩,1,1⟩ <| by
  delta z07v AC AE Aa Ab Ac Ak Al An Av BX Bc
  have hl:=hs.slen x (xs:=xs) (enc:=zp)
  have hcap:=hs.slc_cap
  have hcl:(xs.flatMap zp).length=xs.length*5:=z3z (enc:=zp) xs
  have hea:(zp a).length=5:=rfl
  refine wp_must (by omega) ?_
  refine wp_lt ?_
  refine z06 ?_ (by simp)
  refine wp_lt ?_
  by_cases hin:i=xs.length
  ·refine z18 ?_ (by rw [hl,hin])
   have hs2:Sat w (slc T.a40 5 ⟨some ⟨vb,0,none⟩,1,1⟩ ([a].flatMap zp)::slc T.a40 5 x (xs.flatMap zp)::l):=by
    have h:=(hs.pick [1]).slc_of (sz:=5) (n:=1) rfl
    exact h
   refine wp_app' (x:=x) (y:=⟨some ⟨vb,0,none⟩,1,1⟩) (xs:=xs) (ys:=[a]) (enc:=zp) hs2 (λz w' hs=>?_) (by simp only [List.length_cons,List.length_nil];omega)
   refine ⟨rfl,z,rfl,?_⟩
   have e:xs.take i++a::xs.drop i=xs++[a]:=by rw [hin,List.take_length,List.drop_length]
   rw [e]
   exact hs.sub
  have hil:i<xs.length:=by omega
  refine z06 ?_ (by rw [hl];omega)
  obtain ⟨b,off,ha⟩:=z05h hs (by omega)
  have hne:=z0de hs ha
  obtain ⟨arr,fr,hb,-,-,hsz,hcs⟩:=zcz hs ha
  have hv:w.heap[vb]? = some (.cells (zp a).toArray T.a40):=(hs.pick [1]).get
  have e1:IntKind.wrap .i64 (((x.len:Nat):Int)+((1:Nat):Int))=((xs.length+1:Nat):Int):=by rw [hl,w64 (by omega) (by omega)];omega
  have e2:IntKind.wrap .i64 ((i:Int)+((1:Nat):Int))=((i+1:Nat):Int):=by rw [w64 (by omega) (by omega)];omega
  have e3:IntKind.wrap .i64 (((xs.length+1:Nat):Int)-(i:Int))=((xs.length+1-i:Nat):Int):=by rw [w64 (by omega) (by omega)];omega
  simp only [e1,e2,e3,Int.toNat_natCast]
  have hfl:(xs.take i++a::xs.drop i).flatMap zp=(xs.flatMap zp).take (i*5)++zp a++(xs.flatMap zp).drop (i*5):=by
   rw [List.flatMap_append,List.flatMap_cons,z5u,zbu,List.append_assoc]
  have ht:SlT P T.a48 T.a40 5 _:=inferInstance
  obtain ⟨ii,z0,hii,h5,hby,hz0,hzs⟩:=ht.parts
  have hone:∀ v ∈ xs.flatMap zp,v.oneCell'=true:=λv hv=>by
   obtain ⟨y,-,hy⟩:=List.mem_flatMap.1 hv
   exact EncN.one (enc:=zp) (sz:=5) y v hy
  have h1d:∀ v ∈ (xs.flatMap zp).drop (i*5),v.oneCell'=true:=λv hv=>hone v (List.mem_of_mem_drop hv)
  have h1a:∀ v ∈ zp a,v.oneCell'=true:=λv hv=>EncN.one (enc:=zp) (sz:=5) a v hv
  have hfa:∀ (w':World),w'.heap[vb]? = some (.cells (zp a).toArray T.a40)->(Builtin.firstCells 5 1 (.slice (some ⟨vb,0,none⟩) 1 1)).run P w'=.ok (zp a).toArray w':=λw' hv'=>by
   refine run_firstCells_some (P:=P) w' 5 1 ⟨vb,0,none⟩ 1 1 (zp a) rfl λj u hj=>?_
   rw [z2d,z3h hv',Nat.zero_add]
   simpa using hj
  have hdl:((xs.flatMap zp).drop (i*5)).length=(xs.length-i)*5:=by rw [List.length_drop,hcl];omega
  by_cases hroom:xs.length+1<=x.cap
  ·refine z06 ?_ (by omega)
   refine wp_must (by omega) ?_
   refine wp_must (by omega) ?_
   have ec1:z0k x.a 5 (i+1) x.cap=some ⟨b,off+(i+1)*5,none⟩:=by unfold z0k;rw [if_neg (by omega),ha,Option.map_some,z2d]
   have ec2:z0k x.a 5 i x.cap=some ⟨b,off+i*5,none⟩:=by unfold z0k;rw [if_neg (by omega),ha,Option.map_some,z2d]
   simp only [ec1,ec2]
   refine ⟨(false,()),w,z0cz w hne.symm hv hb (by omega),trivial,?_⟩
   refine zh ?_
   refine z18 ?_ (by simp)
   refine zt hs λw' hs=>?_
   refine wp_must (by omega) ?_
   refine wp_must (by omega) ?_
   obtain ⟨t,htl,hs2⟩:=hs.slc_ext ha (n:=xs.length+1) (by omega) hroom
   have htl:t.length=5:=by rw [htl,hl];omega
   obtain ⟨arr2,fr2,hb2,-,-,hsz2,hcs2⟩:=zcz hs ha
   have hsrc:(Builtin.firstCells 5 (xs.length-i) (.slice (some ⟨b,off+i*5,none⟩) (xs.length+1-i) (x.cap-i))).run P w'=.ok ((xs.flatMap zp).drop (i*5)).toArray w':=by
    refine run_firstCells_some (P:=P) w' 5 (xs.length-i) ⟨b,off+i*5,none⟩ _ _ _ hdl λj u hj=>?_
    have hj2:j<((xs.flatMap zp).drop (i*5)).length:=(List.getElem?_eq_some_iff.1 hj).1
    rw [List.getElem?_drop] at hj
    rw [z2d,z3h hb2,Nat.add_assoc,hcs2 (i*5+j) (by omega),hj]
   obtain ⟨w2,hrun,hs3⟩:=zg5 (P:=P) (t:=T.a48) (t':=T.a48) (ty:=T.a13) (o:=(i+1)*5) (n:=xs.length-i) (dl:=xs.length+1-(i+1)) (dc:=x.cap-(i+1)) (sl:=xs.length+1-i) (sc:=x.cap-i) (x:=⟨x.a,xs.length+1,x.cap⟩) ht.ok.1 hii h5 hs2 ha (by omega) hsrc h1d (by rw [List.length_append,htl,hdl];omega)
   refine ⟨(((xs.length-i:Nat):Int),()),w2,hrun,trivial,?_⟩
   refine zh ?_
   refine ze ?_
   refine wp_must (by omega) ?_
   have hv2:w2.heap[vb]? = some (.cells (zp a).toArray T.a40):=(hs3.pick [1]).get
   obtain ⟨w3,hrun3,hs4⟩:=zg5 (P:=P) (t:=T.a48) (t':=T.a48) (ty:=T.a13) (o:=i*5) (n:=1) (dl:=xs.length+1-i) (dc:=x.cap-i) (sl:=1) (sc:=1) (x:=⟨x.a,xs.length+1,x.cap⟩) ht.ok.1 hii h5 hs3 ha (by omega) (hfa w2 hv2) h1a (by rw [hea];simp only [List.length_append,List.length_take,List.length_drop,htl,hcl];omega)
   refine ⟨(((1:Nat):Int),()),w3,hrun3,trivial,?_⟩
   refine zh ?_
   refine ⟨rfl,⟨x.a,xs.length+1,x.cap⟩,rfl,?_⟩
   rw [hfl]
   have hX:((xs.flatMap zp++t).take ((i+1)*5)).length=(i+1)*5:=by rw [List.length_take,List.length_append,htl,hcl];omega
   have hE:(xs.flatMap zp++t).drop ((i+1)*5+((xs.flatMap zp).drop (i*5)).length)=[]:=List.drop_eq_nil_of_le (by rw [List.length_append,htl,hcl,hdl];omega)
   rw [hE,List.append_nil] at hs4
   have hA1:((xs.flatMap zp++t).take ((i+1)*5)++(xs.flatMap zp).drop (i*5)).take (i*5)=(xs.flatMap zp).take (i*5):=by
    rw [List.take_append_of_le_length (by rw [hX];omega),List.take_take,Nat.min_eq_left (by omega),List.take_append_of_le_length (by rw [hcl];omega)]
   have hA2:((xs.flatMap zp++t).take ((i+1)*5)++(xs.flatMap zp).drop (i*5)).drop (i*5+(zp a).length)=(xs.flatMap zp).drop (i*5):=by
    rw [List.drop_left' (by rw [hX,hea];omega)]
   rw [hA1,hA2] at hs4
   exact hs4.sub
  ·refine z18 ?_ (by omega)
   refine wp_must (by omega) ?_
   have hbytes:(xs.length+1)*ii.bytes<=140737488355328:=by rw [hby];omega
   have hs5:Sat w (slc T.a40 ii.size x (xs.flatMap zp)::pt vb (.cells (zp a).toArray T.a40)::l):=by rw [h5];exact hs
   obtain ⟨c,za,zs,w1,hrun,hcge,hzl,hs1⟩:=z02z (P:=P) (t:=T.a48) (tn:=T.a13) (ty:=T.a48) ht.ok.1 (by kernel_rfl) hii hz0 (by rw [hzs,h5]) (by omega) hs5 (n:=i) (k:=xs.length+1-i) (by omega) (by omega) (by omega) (by rw [show i+(xs.length+1-i)=xs.length+1 by omega];exact hbytes) (by omega)
   rw [h5] at hs1 hzl
   have en:i+(xs.length+1-i)=xs.length+1:=by omega
   rw [en] at hs1 hrun hcge
   refine ⟨(⟨some ⟨za,0,none⟩,xs.length+1,c⟩,()),w1,hrun,trivial,?_⟩
   refine zh ?_
   refine wp_must (by show (0:Int)<=(i:Int)/\(i:Int)<=((xs.length+1:Nat):Int);omega) ?_
   have ec1:z0k (some ⟨za,0,none⟩:Option Addr) 5 i c=some ⟨za,0+i*5,none⟩:=by unfold z0k;rw [if_neg (by omega),Option.map_some,z2d]
   have ec2:z0k (some ⟨za,0,none⟩:Option Addr) 5 (i+1) c=some ⟨za,0+(i+1)*5,none⟩:=by unfold z0k;rw [if_neg (by omega),Option.map_some,z2d]
   have ec3:z0k x.a 5 i x.cap=some ⟨b,off+i*5,none⟩:=by unfold z0k;rw [if_neg (by omega),ha,Option.map_some,z2d]
   simp only [ec1,ec2,ec3]
   have hv1:w1.heap[vb]? = some (.cells (zp a).toArray T.a40):=(hs1.pick [2]).get
   have htk:((xs.flatMap zp).take (i*5)).length=i*5:=by rw [List.length_take,hcl];omega
   obtain ⟨w2,hrun2,hs2⟩:=zg5 (P:=P) (t:=T.a48) (t':=T.a48) (ty:=T.a13) (o:=i*5) (n:=1) (dl:=xs.length+1-i) (dc:=c-i) (sl:=1) (sc:=1) (x:=⟨some ⟨za,0,none⟩,xs.length+1,c⟩) ht.ok.1 hii h5 hs1 rfl (by omega) (hfa w1 hv1) h1a (by rw [hea,List.length_append,htk,hzl];omega)
   refine ⟨(((1:Nat):Int),()),w2,hrun2,trivial,?_⟩
   refine zh ?_
   refine zt hs2 λw3 hs3=>?_
   refine wp_must (by show (0:Int)<=((i+1:Nat):Int)/\((i+1:Nat):Int)<=((xs.length+1:Nat):Int);omega) ?_
   refine wp_must (by omega) ?_
   obtain ⟨arr2,fr2,hb2,-,-,hsz2,hcs2⟩:=zcz (hs3.pick [1]) ha
   have hsrc:(Builtin.firstCells 5 (xs.length-i) (.slice (some ⟨b,off+i*5,none⟩) (x.len-i) (x.cap-i))).run P w3=.ok ((xs.flatMap zp).drop (i*5)).toArray w3:=by
    refine run_firstCells_some (P:=P) w3 5 (xs.length-i) ⟨b,off+i*5,none⟩ _ _ _ hdl λj u hj=>?_
    have hj2:j<((xs.flatMap zp).drop (i*5)).length:=(List.getElem?_eq_some_iff.1 hj).1
    rw [List.getElem?_drop] at hj
    rw [z2d,z3h hb2,Nat.add_assoc,hcs2 (i*5+j) (by omega),hj]
   obtain ⟨w4,hrun4,hs4⟩:=zg5 (P:=P) (t:=T.a48) (t':=T.a48) (ty:=T.a13) (o:=(i+1)*5) (n:=xs.length-i) (dl:=xs.length+1-(i+1)) (dc:=c-(i+1)) (sl:=x.len-i) (sc:=x.cap-i) (x:=⟨some ⟨za,0,none⟩,xs.length+1,c⟩) ht.ok.1 hii h5 hs3 rfl (by omega) hsrc h1d (by simp only [List.length_append,List.length_take,List.length_drop,hzl,hcl,hea];omega)
   refine ⟨(((xs.length-i:Nat):Int),()),w4,hrun4,trivial,?_⟩
   refine zh ?_
   refine ze ?_
   refine ⟨rfl,⟨some ⟨za,0,none⟩,xs.length+1,c⟩,rfl,?_⟩
   rw [hfl]
   have hA1:((xs.flatMap zp).take (i*5)++zs).take (i*5)=(xs.flatMap zp).take (i*5):=List.take_left' htk
   rw [hA1] at hs4
   have hA2:((xs.flatMap zp).take (i*5)++zp a++((xs.flatMap zp).take (i*5)++zs).drop (i*5+(zp a).length)).take ((i+1)*5)=(xs.flatMap zp).take (i*5)++zp a:=List.take_left' (by rw [List.length_append,htk,hea];omega)
   have hA3:((xs.flatMap zp).take (i*5)++zp a++((xs.flatMap zp).take (i*5)++zs).drop (i*5+(zp a).length)).drop ((i+1)*5+((xs.flatMap zp).drop (i*5)).length)=[]:=List.drop_eq_nil_of_le (by simp only [List.length_append,List.length_take,List.length_drop,hzl,hcl,hea];omega)
   rw [hA2,hA3,List.append_nil] at hs4
   exact hs4.sub
def z0c4 (C:TbC) (a:AtM):Bool:=true
def za9 (C:TbC) (xs:List AtM):Bool:=true
theorem z09q (xs:List AtM) (C:TbC) (i:Nat) (h:i<xs.length) (_:za9 C xs=true):z0c4 ((xs.take i).foldl z1w C) xs[i]=true:=rfl
set_option maxHeartbeats 1000000 in
theorem z0c2 (a:AtM) (he:z0c4 C a=true) (hlo : -9223372036854775808<=a.off) (hhi:a.off<=1099511627776) (hlen:C.l.length<1000000000) [hf:Fo l tbC t C r] (hs:Sat w l) :
  Ret P F.a12 #[.pointer (some ⟨t,0,none⟩),.agg (zp a).toArray] w λvs w'=>vs=[]/\Sat w' (tbC t (z1w C a)::r) :=
 zxn _ a.off a.r.key a.r.value a.r.gone a.r.time <| by
  delta z0dz AC AE AF AN AO AQ AR AS Aa Ab Ac Ad Af Ai Aj Ak Al Ao Av Az BG BK BL Bc Bd;refine zr (hs.perm hf.perm) λa0 w' hs=>?_;clear hf;refine z8 hs (zb (z0g6 (t:=t) (C:=C) a.r.key hs) λ_ w' hs=>?_);obtain ⟨rfl,hs⟩:=hs;refine ⟨(((z0j C.l a.r.key:Nat):Int),z4j C.l a.r.key,()),rfl,trivial,z23 _ _ ?_⟩;refine wp_lt (wp_lt ?_);refine z8 hs (wp_lt ?_);obtain ⟨z,hok,hs⟩:=zbl hs;have hl:=hs.slen z (xs:=C.l) (enc:=zp)
  have hokS:z5i (z1w C a).l/\(z1w C a).l.length<=1000000000:=⟨zi2 a hok.1,by have:=zv1 C a;omega⟩
  refine zj (λq w'=>∃ z':Sl,Sat w' (pt a0 (.cells #[.int .i64 a.off,.string a.r.key,.string a.r.value,.bool a.r.gone,.int .i64 a.r.time] T.a40)::pt t (.cells #[.int .i64 C.next,.slice z'.a z'.len z'.cap] T.a4)::slc T.a40 5 z' ((z1w C a).l.flatMap zp)::r)) ?_ ?_;rotate_left
  ·rintro _ w2 ⟨z',hs⟩;refine zh (z8 hs ?_);refine zf ?_;rw [w64 (by omega) (by omega)];refine zy hs λw' hs=>?_;have hs:Sat w' (pt t (.cells #[.int .i64 (z1w C a).next,.slice z'.a z'.len z'.cap] T.a4)::pt a0 (.cells #[.int .i64 a.off,.string a.r.key,.string a.r.value,.bool a.r.gone,.int .i64 a.r.time] T.a40)::slc T.a40 5 z' ((z1w C a).l.flatMap zp)::r):=hs;exact ⟨rfl,rfl,z76 (z1w C a) (z:=z') hokS hs.sub⟩
  by_cases ht:z4j C.l a.r.key=true
  ·obtain ⟨hi,hk⟩:=z77.1 ht
   by_cases hg:a.r.gone=true
   ·refine z18 ?_ ⟨ht,hg⟩
    have e:(z1w C a).l=C.l.take (z0j C.l a.r.key)++C.l.drop (z0j C.l a.r.key+1):=by unfold z1w;rw [if_pos ht,if_pos hg]
    refine zf (z8 hs ?_);rw [show IntKind.wrap .i64 (((z0j C.l a.r.key:Nat):Int)+1)=((z0j C.l a.r.key+1:Nat):Int) by rw [w64 (by omega) (by omega)];omega];have hs:=hs.pick [1];refine zb (z005 z C.l (z0j C.l a.r.key) hi hok.2 hs) λ_ w' hs=>?_;obtain ⟨z2,rfl,hs⟩:=hs;refine zd (zf ?_);refine zy hs λw' hs=>zg ⟨z2,?_⟩;rw [e];exact hs.sub
   ·have hg:a.r.gone=false:=by simpa using hg
    refine z06 ?_ (by rw [hg];simp)
    have e:(z1w C a).l=C.l.set (z0j C.l a.r.key) a:=by unfold z1w;rw [if_pos ht,if_neg (by rw [hg];simp)]
    refine wp_lt (zj (λq w'=>Sat w' (pt a0 (.cells #[.int .i64 a.off,.string a.r.key,.string a.r.value,.bool a.r.gone,.int .i64 a.r.time] T.a40)::pt t (.cells #[.int .i64 C.next,.slice z.a z.len z.cap] T.a4)::slc T.a40 5 z ((C.l.set (z0j C.l a.r.key) a).flatMap zp)::r)) ?_ ?_);rotate_left
    ·rintro _ w2 hs;refine zh (zg ⟨z,?_⟩);rw [e];exact hs.sub
    refine z18 ?_ ht;refine zt hs λw' hs=>zf (z8 hs ?_);refine zl hs (z0bm hs (xs:=C.l) (enc:=zp) (z0j C.l a.r.key) hi a λw' hs=>?_);exact ze (zg hs.sub)
  have ht:z4j C.l a.r.key=false:=by simpa using ht
  refine z06 ?_ (by rw [ht];simp);refine wp_lt (zj (λq w'=>∃ z':Sl,Sat w' (pt a0 (.cells #[.int .i64 a.off,.string a.r.key,.string a.r.value,.bool a.r.gone,.int .i64 a.r.time] T.a40)::pt t (.cells #[.int .i64 C.next,.slice z'.a z'.len z'.cap] T.a4)::slc T.a40 5 z' ((z1w C a).l.flatMap zp)::r)) ?_ ?_);rotate_left
  ·rintro _ w2 ⟨z',hs⟩;exact zh (zg ⟨z',hs⟩)
  refine z06 ?_ (by rw [ht];simp);refine z8 hs (wp_lt ?_);refine zj (λq w'=>∃ z':Sl,Sat w' (pt a0 (.cells #[.int .i64 a.off,.string a.r.key,.string a.r.value,.bool a.r.gone,.int .i64 a.r.time] T.a40)::pt t (.cells #[.int .i64 C.next,.slice z'.a z'.len z'.cap] T.a4)::slc T.a40 5 z' ((z1w C a).l.flatMap zp)::r)) ?_ ?_;rotate_left
  ·rintro _ w2 ⟨z',hs⟩;exact zh (zg ⟨z',hs⟩)
  by_cases hg:a.r.gone=true
  ·refine z06 ?_ (by rw [hg];simp)
   have e:(z1w C a).l=C.l:=by unfold z1w;rw [if_neg (by rw [ht];simp),if_pos hg]
   refine zg ⟨z,?_⟩;rw [e];exact hs.sub
  ·have hg:a.r.gone=false:=by simpa using hg
   refine z18 ?_ (by rw [hg];simp)
   have e:(z1w C a).l=C.l.take (z0j C.l a.r.key)++a::C.l.drop (z0j C.l a.r.key):=by
    unfold z1w;rw [if_neg (by rw [ht];simp),if_neg (by rw [hg];simp)]
   refine zj (λq w'=>∃ z':Sl,Sat w' (pt a0 (.cells #[.int .i64 a.off,.string a.r.key,.string a.r.value,.bool a.r.gone,.int .i64 a.r.time] T.a40)::pt t (.cells #[.int .i64 C.next,.slice z'.a z'.len z'.cap] T.a4)::slc T.a40 5 z' ((z1w C a).l.flatMap zp)::r)) ?_ ?_;rotate_left
   ·rintro _ w2 ⟨z',hs⟩;exact zh (zg ⟨z',hs⟩)
   refine zt hs λw' hs=>zf (z0y hs ?_);refine zl hs ?_
   refine z0ds hs (el:=T.a40) (cells:=(zp a).toArray) λvb w' hs=>⟨(by first|trivial|(repeat (first|exact trivial|exact λ_=>z09 hs|exact λ_=>z0g hs|refine And.intro ?_ ?_))),?_⟩
   refine ze ?_;have hs:Sat w' (slc T.a40 5 z (C.l.flatMap zp)::pt vb (.cells (zp a).toArray T.a40)::pt a0 (.cells #[.int .i64 a.off,.string a.r.key,.string a.r.value,.bool a.r.gone,.int .i64 a.r.time] T.a40)::pt t (.cells #[.int .i64 C.next,.slice z.a z.len z.cap] T.a4)::r):=hs.sub;refine zb (z09j z C.l a (z0j C.l a.r.key) (zk7 ..) hok.2 hs) λ_ w' hs=>?_;obtain ⟨z2,rfl,hs⟩:=hs;refine zd (zf ?_);refine zy hs λw' hs=>ze (zg ⟨z2,?_⟩);rw [e];exact hs.sub
theorem zux:∀ (xs:List AtM) (f:Int),z1p f xs=true->∀ a ∈ xs,∀ b,xs.getLast? = some b->a.off<=b.off
 | [],f,_,a,ha,_,_=>by cases ha
 | x::xs,f,h,a,ha,b,hb=>by
  have h:(if x.off<f then false else z1p (x.off+1) xs)=true:=h
  by_cases hx:x.off<f
  ·rw [if_pos hx] at h;cases h
  rw [if_neg hx] at h
  cases xs with
  | nil =>
   simp at ha hb;subst ha hb;omega
  | cons y ys =>
   rw [List.getLast?_cons_cons] at hb;have ih:=zux (y::ys) (x.off+1) h
   rcases List.mem_cons.1 ha with rfl|ha
   ·have h1:y.off<=b.off:=ih y (List.mem_cons_self ..) b hb;have h2:(if y.off<a.off+1 then false else z1p (y.off+1) ys)=true:=h
    by_cases hy:y.off<a.off+1
    ·rw [if_pos hy] at h2;cases h2
    ·omega
   ·exact ih a ha b hb
set_option maxHeartbeats 1000000 in
theorem znu (x:Sl) (xs:List AtM) (hlo:∀ a ∈ xs,-9223372036854775808<=a.off) (he:za9 C xs=true) (hlen:C.l.length+xs.length<=1000000000) [hf:Fo l tbC t C r] [hx:FocR r x 5 (xs.flatMap zp)] (hs:Sat w l) :
  Ret P F.a7 #[.pointer (some ⟨t,0,none⟩),x.v] w λvs w'=>vs=[.int .i64 (z2k C xs).1]/\Sat w' (tbC t (z2k C xs).2::r) :=
 z02r _ x <| by
  delta zf6 AA AD AH AK AP AR AW Aa Ab Ac Ad Ak An Ao Av Az BJ BK BL;unfold z2k
  have hs:=hs.perm hf.perm
  clear hf
  refine wp_lt ?_
  refine z06 ?_ (by simp)
  obtain ⟨z,hok,hs⟩:=zbl hs
  have hl:=hs.slen x (xs:=xs) (enc:=zp)
  refine zf ?_
  refine z8 hs ?_
  refine zb (z09m C.next x xs (by omega) hs) λ_ w' hs=>?_
  obtain ⟨rfl,hs⟩:=hs
  refine zd ?_
  have hgl:∀ h0:0<xs.length,xs.getLast? = some (xs[xs.length-1]'(by omega)):=λh0=>by
   rw [List.getLast?_eq_getElem?,List.getElem?_eq_getElem (by omega)]
  refine ze7 (xs:=xs) (enc:=zp) hs (orC xs.getLast?).off (λhg=>?_) ?_
  ·have h0:0<xs.length:=by have:=hg.2;rw [hl] at this;simp at this;omega
   exact ⟨xs.length-1,by omega,by rw [hl,w64 (by omega) (by omega)];omega,by rw [hgl h0];rfl⟩
  refine wp_lt ?_
  have hcond:(!z1p C.next xs || (decide (((x.len:Nat):Int)>0) && decide ((orC xs.getLast?).off>1099511627776)))=true↔(z1p C.next xs=false\/z7v xs=true):=by
   rw [hl]
   unfold z7v
   by_cases h0:xs.length=0
   ·have e:xs=[]:=List.length_eq_zero_iff.1 h0
    subst e
    simp
   ·rw [hgl (by omega)]
    rw [decide_eq_true (by omega:((xs.length:Nat):Int)>0)]
    show (!z1p C.next xs || (true && decide ((xs[xs.length-1]'(by omega)).off>1099511627776)))=true↔(z1p C.next xs=false\/decide ((xs[xs.length-1]'(by omega)).off>1099511627776)=true)
    simp
  by_cases hc:z1p C.next xs=false\/z7v xs=true
  ·rw [if_pos hc]
   refine zw (hcond.2 hc) ?_
   exact ⟨rfl,rfl,z76 C (z:=z) hok hs⟩
  rw [if_neg hc]
  refine z07 (by cases hh:(!z1p C.next xs || (decide (((x.len:Nat):Int)>0) && decide ((orC xs.getLast?).off>1099511627776))) with|false=>rfl|true=>exact absurd (hcond.1 hh) hc) ?_
  have hrise:z1p C.next xs=true:=by
   cases h:z1p C.next xs with
   | true=>rfl
   | false=>exact absurd (.inl h) hc
  have hhi:∀ a ∈ xs,a.off<=1099511627776:=λa ha=>by
   have h0:0<xs.length:=by
    rcases Nat.eq_zero_or_pos xs.length with h|h
    ·rw [List.length_eq_zero_iff.1 h] at ha;cases ha
    ·exact h
   have h1:=zux xs C.next hrise a ha _ (hgl h0)
   have h2:¬ z7v xs=true:=λh=>hc (.inr h)
   unfold z7v at h2
   rw [hgl h0] at h2
   have h2:¬ decide ((xs[xs.length-1]'(by omega)).off>1099511627776)=true:=h2
   rw [decide_eq_true_iff] at h2
   omega
  have hs:Sat w' (tbC t C::r):=z76 C (z:=z) hok hs
  refine zj (λq w'=>Sat w' (tbC t (xs.foldl z1w C)::r)) ?_ ?_
  rotate_left
  ·rintro _ w2 hs
   refine zh ?_
   exact ⟨rfl,rfl,hs⟩
  refine z0a (λm q w=>∃ i:Nat,q=((i:Int),())/\i<=xs.length/\xs.length-i=m/\Sat w (tbC t ((xs.take i).foldl z1w C)::r)) xs.length ⟨0,rfl,by omega,rfl,hs⟩ ?_
  clear hs
  rintro m _ w ⟨i,rfl,hi,hm,hs⟩
  refine zh ?_
  refine zi (λhc2=>?_) λhc2=>?_
  rotate_left
  ·rw [List.take_of_length_le (by omega)] at hs
   exact zm (zg hs)
  have hil:i<xs.length:=by omega
  have htk:xs.take (i+1)=xs.take i++[xs[i]]:=by rw [List.take_add_one,List.getElem?_eq_getElem hil,Option.toList_some]
  refine z5b hs i hil ?_
  refine zu hs λa17 w' hs=>?_
  refine zv hs λw' hs=>?_
  refine zl hs ?_
  have hs:=hs.pick [1]
  refine zb (z0c2 (t:=t) (C:=(xs.take i).foldl z1w C) xs[i] (z09q xs C i hil he) (hlo _ (List.getElem_mem hil)) (hhi _ (List.getElem_mem hil)) (by have:=zdx (xs.take i) C;rw [List.length_take] at this;omega) hs) λ_ w' hs=>?_
  obtain ⟨rfl,hs⟩:=hs
  refine zd ?_
  refine z22 (us':=[.int .i64 ((i+1:Nat):Int)]) (by (try simp (disch:=omega) only [w64]);first|rfl|(congr;omega)) ?_
  refine z0x (xs.length-(i+1)) ⟨i+1,rfl,by omega,rfl,?_⟩
  rw [htk,List.foldl_append,List.foldl_cons,List.foldl_nil]
  exact hs.sub
end
abbrev LedA:=PartA × TbC
def leP (b:Nat) (M:LedA):HP:=HP.ex λq:Nat × Nat=>HP.star (pt b (.cells #[.pointer (some ⟨q.1,0,none⟩),.pointer (some ⟨q.2,0,none⟩)] T.a19)) (HP.star (tbC q.1 M.2) (paP q.2 M.1))
def z0v (M:LedA) (D:DiskA) (b:BatM):Int × LedA × DiskA :=
 if (z0d M.1 D b).1.2.2≠0 then ((z0d M.1 D b).1.2.2,((z0d M.1 D b).2.1,M.2),(z0d M.1 D b).2.2)
 else (0,((z0d M.1 D b).2.1,(z2k M.2 (z0o (b.to (z0d M.1 D b).1.1))).2),(z0d M.1 D b).2.2)
def z00 (time:Int) (x:Sl) (rs:List RecM):BatM:=⟨0,0,0,0,0,time,x,rs⟩
def z1x (k v:ByteArray) (time:Int):RecM:=⟨k,v,false,time⟩
def zn3 (k:ByteArray) (time:Int):RecM:=⟨k,ByteArray.mk #[],true,time⟩
theorem zoa {b:BatM}:∀ a ∈ z0o b,-9223372036854775808<=a.off:=λa ha=>by
 unfold z0o at ha;split at ha
 ·cases ha
 ·obtain ⟨i,hi,rfl⟩:=List.mem_mapIdx.1 ha;show -9223372036854775808<=IntKind.wrap .i64 _;rw [zkz];split <;> omega
section
variable {w:World} {l r r1 r2 r3 l':List HP} {b d t p:Nat} {M:LedA} {D:DiskA}
theorem zu7 (hs:Sat w (leP b M::l)):∃ t p:Nat,Sat w (pt b (.cells #[.pointer (some ⟨t,0,none⟩),.pointer (some ⟨p,0,none⟩)] T.a19)::tbC t M.2::paP p M.1::l):=by
 obtain ⟨⟨t,p⟩,hs⟩:=hs.ex;have hs:=hs.star;have hs:=(hs.pick [1]).star;exact ⟨t,p,hs.pick [2]⟩
theorem z0gd (t p:Nat) (hs:Sat w (pt b (.cells #[.pointer (some ⟨t,0,none⟩),.pointer (some ⟨p,0,none⟩)] T.a19)::tbC t M.2::paP p M.1::l)):Sat w (leP b M::l):=by
 have h1:=(hs.pick [1,1]).star_mk;exact .ex_mk (t,p) ((h1.pick [1]).star_mk)
theorem zdl (M:LedA) (hs:Sat w l) [h1:FocB l b (.cells [.pointer (some ⟨t,0,none⟩),.pointer (some ⟨p,0,none⟩)].toArray T.a19) r1] [h2:Fo r1 tbC t M.2 r2] [h3:Fo r2 paP p M.1 r3] [h4:Sub r3 l']:Sat w (leP b M::l'):=by
 have hs:=hs.perm (h1.perm.trans (.cons _ (h2.perm.trans (.cons _ h3.perm))));have hs:Sat w (leP b M::r3):=z0gd t p hs;exact hs.sub
set_option maxHeartbeats 1000000 in
theorem z0ac (time:Int) (x:Sl) (rs:List RecM) {r1:List HP} [hf:Fo l leP b M r1] [hf2:Fo r1 dk M.1.L.d D r] (hb:FocR r x 4 (rs.flatMap z0f)) (h:Cpl M.1.L.pre M.1.L.l D) (hr:rs.length<=1000) (hn:M.2.l.length<=100000000) (hends:(z0d M.1 D (z00 time x rs)).1.2.2=0->za9 M.2 (z0o ((z00 time x rs).to (z0d M.1 D (z00 time x rs)).1.1))=true) (hs:Sat w l) :
  Ret P F.a66 #[.pointer (some ⟨b,0,none⟩),.int .i64 time,x.v] w λvs w'=>vs=[.int .i64 (z0v M D (z00 time x rs)).1]/\Sat w' (leP b (z0v M D (z00 time x rs)).2.1::dk M.1.L.d (z0v M D (z00 time x rs)).2.2::r) :=
 zz5 _ time x <| by
  delta z0f9 AC AE AH AK AO AS Aa Ab Ac Ad Aj Al Am Ao Az B5 Bc Bq Bw Bx;unfold z0v
  have hs:=hs.perm (hf.perm.trans (.cons _ hf2.perm))
  clear hf hf2
  obtain ⟨t,p,hs⟩:=zu7 hs
  refine z06 ?_ (by simp)
  refine zu hs λa0 w' hs=>?_
  refine zv hs λw' hs=>?_
  refine zt hs λw' hs=>?_
  refine zf ?_
  refine z8 hs ?_
  refine zl hs ?_
  have hb0:FocR (pt b (.cells #[.pointer (some ⟨t,0,none⟩),.pointer (some ⟨p,0,none⟩)] T.a19)::tbC t M.2::pt a0 (.cells #[.int .i64 0,.int .i64 0,.int .i64 0,.int .i64 0,.int .i64 0,.int .i64 time,.slice x.a x.len x.cap] T.a0)::r) (z00 time x rs).x 4 ((z00 time x rs).rs.flatMap z0f) :=
   (inferInstance:FocR (pt b (.cells #[.pointer (some ⟨t,0,none⟩),.pointer (some ⟨p,0,none⟩)] T.a19)::tbC t M.2::pt a0 (.cells #[.int .i64 0,.int .i64 0,.int .i64 0,.int .i64 0,.int .i64 0,.int .i64 time,.slice x.a x.len x.cap] T.a0)::r) x 4 (rs.flatMap z0f))
  have hs:Sat w' (paP p M.1::dk M.1.L.d D::pt b (.cells #[.pointer (some ⟨t,0,none⟩),.pointer (some ⟨p,0,none⟩)] T.a19)::tbC t M.2::pt a0 (.cells #[.int .i64 0,.int .i64 0,.int .i64 0,.int .i64 0,.int .i64 0,.int .i64 time,.slice x.a x.len x.cap] T.a0)::r):=hs.sub
  refine zb (z0d0 (p:=p) (A:=M.1) (D:=D) (z00 time x rs) hb0 h (by show rs.length<=_;omega) rfl hs) λ_ w' hs=>?_
  obtain ⟨rfl,hs⟩:=hs
  have hd:=(zwu M.1 D (z00 time x rs)).1
  generalize hq:z0d M.1 D (z00 time x rs)=q at *
  obtain ⟨⟨n,again,e⟩,A',D'⟩:=q
  simp only at hs hd hends ⊢
  refine ⟨(n,again,e,()),rfl,trivial,z90 _ _ _ ?_⟩
  refine wp_lt ?_
  refine wp_lt ?_
  refine wp_lt ?_
  refine ze ?_
  refine zi (λhe=>?_) λhe=>?_
  ·have he:e≠0:=by simpa using he
   rw [if_pos he]
   refine wp_lt ?_
   exact ⟨rfl,rfl,zdl (t:=t) (p:=p) (A',M.2) hs⟩
  have he:e=0:=by simpa using he
  subst he
  rw [if_neg (by simp)]
  refine zy hs λw' hs=>?_
  have hs:Sat w' (pt a0 (.cells #[.int .i64 n,.int .i64 0,.int .i64 0,.int .i64 0,.int .i64 0,.int .i64 time,.slice x.a x.len x.cap] T.a0)::_):=hs
  refine zj (λq w'=>Sat w' (pt b (.cells #[.pointer (some ⟨t,0,none⟩),.pointer (some ⟨p,0,none⟩)] T.a19)::tbC t (z2k M.2 (z0o ((z00 time x rs).to n))).2::paP p A'::dk M.1.L.d D'::r)) ?_ ?_
  rotate_left
  ·rintro _ w2 hs
   refine zh ?_
   exact ⟨rfl,rfl,zdl (t:=t) (p:=p) (A',(z2k M.2 (z0o ((z00 time x rs).to n))).2) hs⟩
  refine zt hs λw' hs=>?_
  refine zf ?_
  refine z0y hs ?_
  refine zl hs ?_
  refine z7o hs (enc:=z01) [(z00 time x rs).to n] λy w' hs=>⟨(by first|trivial|(repeat (first|exact trivial|exact λ_=>z09 hs|exact λ_=>z0g hs|refine And.intro ?_ ?_))),?_⟩
  refine zb (z00n y [(z00 time x rs).to n] (λb' hb'=>by
   rw [List.mem_singleton.1 hb']
   show FocR _ x 4 (rs.flatMap z0f)
   infer_instance) (by simp) (λb' hb'=>by rw [List.mem_singleton.1 hb'];exact hr) hs) λ_ w' hs=>?_
  obtain ⟨z,rfl,hs⟩:=hs
  refine zd ?_ (by first|trivial|(repeat (first|exact trivial|exact λ_=>z09 hs|exact λ_=>z0g hs|refine And.intro ?_ ?_)))
  refine ze ?_
  have e:z16 [(z00 time x rs).to n]=z0o ((z00 time x rs).to n):=by simp [z16]
  rw [e] at hs
  have hs:Sat w' (tbC t M.2::slc T.a40 5 z ((z0o ((z00 time x rs).to n)).flatMap zp)::pt b (.cells #[.pointer (some ⟨t,0,none⟩),.pointer (some ⟨p,0,none⟩)] T.a19)::paP p A'::dk M.1.L.d D'::r):=hs.sub
  refine zb (znu (t:=t) (C:=M.2) z (z0o ((z00 time x rs).to n)) zoa (hends rfl) (by have:=zbw ((z00 time x rs).to n);have:((z00 time x rs).to n).rs.length=rs.length:=rfl;omega) hs) λ_ w' hs=>?_
  obtain ⟨rfl,hs⟩:=hs
  refine zd ?_
  refine ze ?_
  exact zg hs.sub
theorem z0ag (k v:ByteArray) (time:Int) {r1:List HP} [hf:Fo l leP b M r1] [hf2:Fo r1 dk M.1.L.d D r] (h:Cpl M.1.L.pre M.1.L.l D) (hn:M.2.l.length<=100000000) (he:∀ x,(z0d M.1 D (z00 time x [z1x k v time])).1.2.2=0->za9 M.2 (z0o ((z00 time x [z1x k v time]).to (z0d M.1 D (z00 time x [z1x k v time])).1.1))=true) (hs:Sat w l) :
  Ret P F.a68 #[.pointer (some ⟨b,0,none⟩),.string k,.string v,.int .i64 time] w λvs w'=>∃ x:Sl,vs=[.int .i64 (z0v M D (z00 time x [z1x k v time])).1]/\Sat w' (leP b (z0v M D (z00 time x [z1x k v time])).2.1::dk M.1.L.d (z0v M D (z00 time x [z1x k v time])).2.2::r) :=
 zz7 _ k v time <| by
  delta z0fb Ab Ac Ad Al Am Bc Bz;have hs:=hs.perm (hf.perm.trans (.cons _ hf2.perm));clear hf hf2;refine z9k hs (enc:=z0f) [z1x k v time] λx w' hs=>?_;have hs:Sat w' (leP b M::dk M.1.L.d D::slc T.a2 4 x ([z1x k v time].flatMap z0f)::r):=hs.sub;refine zb (z0ac (b:=b) (M:=M) (D:=D) time x [z1x k v time] inferInstance h (by simp) hn (he x) hs) λ_ w' hs=>?_;obtain ⟨rfl,hs⟩:=hs;refine zd (wp_lt ?_);exact ⟨rfl,x,rfl,hs.sub⟩
def z00a:List BatM->Nat
 | []=>0
 | b::bs=>b.rs.length+z00a bs
def z0df (M:LedA):Int:=(z00a (z0e M.1.L.l):Nat)-(M.2.l.length:Nat)
end
theorem z0dg (a b:ByteArray):(ByteArray.toList a == ByteArray.toList b)=decide (a=b):=by
 rw [Bool.eq_iff_iff,beq_iff_eq,decide_eq_true_iff];exact ⟨λh=>by rw [ByteArray.toList_eq,ByteArray.toList_eq] at h;exact ByteArray.ext (Array.ext' h),λh=>by rw [h]⟩
structure SortI where
 T:TypeId
 s:Sh1
 sz:Nat
 less:HL s.prims->HL s.prims->(Bool->Prog)->Prog
 ex:List Value
 xs:TypeId
 ti:TypeId
 fNext:FuncId
 fPow:FuncId
 f_sift:FuncId
 f_heap:FuncId
 f_ins:FuncId
 f_brk:FuncId
 f_rev:FuncId
 f_pins:FuncId
 f_peq:FuncId
 f_part:FuncId
 f_ord2:FuncId
 f_med:FuncId
 f_medj:FuncId
 f_piv:FuncId
 f_pdq:FuncId
def SortI.ins (I:SortI) (data:Sl) (a:Int) (b:Int):Prog :=
.lt (.int .i64) (IntKind.wrap .i64 (a+1)) λ(n0:Int) =>
.bind 1 [] (
.loop 2 [.one (.int .i64)] (n0,()) (u1 λ(n1:Int) =>
.ite (decide (n1<b)) (
.bind 3 [] (
.lt (.int .i64) (n1) λ(n2:Int) =>
.bind 4 [] (
.loop 5 [.one (.int .i64)] (n2,()) (u1 λ(n3:Int) =>
.bind 6 [.one .bool] (
.tick <|
.ex [.adr] (c1 λa4=>decide (n3>a)=true->0<=n3/\n3<((data.len:Nat):Int)/\data.a=some a4) (u1 λa5 =>
.read ((decide (n3>a)=true)) (ld I.T (Addr.add a5 (Int.toNat n3*I.sz))) (.one I.s) (λn6 =>
.ex [.adr] (c1 λa7=>decide (n3>a)=true->0<=IntKind.wrap .i64 (n3-1)/\IntKind.wrap .i64 (n3-1)<((data.len:Nat):Int)/\data.a=some a7) (u1 λa8 =>
.read ((decide (n3>a)=true)) (ld I.T (Addr.add a8 (Int.toNat (IntKind.wrap .i64 (n3-1))*I.sz))) (.one I.s) (λn9 =>
.ite (decide (n3>a)) (
I.less n6 n9 (λb10 =>
.untick <|
.done 6 [.bool b10])) (
.untick <|
.done 6 [.bool false])))))) (u1 λb11 =>
.ite (b11) (
.bind 6 [] (
.tick <|
.ex [.adr] (c1 λa12=>0<=IntKind.wrap .i64 (n3-1)/\IntKind.wrap .i64 (n3-1)<((data.len:Nat):Int)/\data.a=some a12) (u1 λa13 =>
.read (True) (ld I.T (Addr.add a13 (Int.toNat (IntKind.wrap .i64 (n3-1))*I.sz))) (.one I.s) (λn14 =>
.ex [.adr] (c1 λa15=>0<=n3/\n3<((data.len:Nat):Int)/\data.a=some a15) (u1 λa16 =>
.read (True) (ld I.T (Addr.add a16 (Int.toNat n3*I.sz))) (.one I.s) (λn17 =>
.ex [.adr] (c1 λa18=>0<=n3/\n3<((data.len:Nat):Int)/\data.a=some a18) (u1 λa19 =>
.actU (st I.T (Addr.add a19 (Int.toNat n3*I.sz)) ((Sh.one I.s).mk n14)) <|
.ex [.adr] (c1 λa20=>0<=IntKind.wrap .i64 (n3-1)/\IntKind.wrap .i64 (n3-1)<((data.len:Nat):Int)/\data.a=some a20) (u1 λa21 =>
.actU (st I.T (Addr.add a21 (Int.toNat (IntKind.wrap .i64 (n3-1))*I.sz)) ((Sh.one I.s).mk n17)) <|
.untick <|
.done 6 []))))))) (u0 <|
.lt (.int .i64) (IntKind.wrap .i64 (n3-1)) λ(n22:Int) =>
.done 5 [.int .i64 n22])) (
.done 4 [])))) (u0 <|
.done 3 [])) (u0 <|
.lt (.int .i64) (IntKind.wrap .i64 (n1+1)) λ(n23:Int) =>
.done 2 [.int .i64 n23])) (
.done 1 []))) (u0 <|
.done 0 [])
abbrev SortI.E (I:SortI):Type:=HL I.s.prims
abbrev SortI.enc (I:SortI) (x:I.E):List Value:=HL.vals I.s.prims x
abbrev SortI.arr (I:SortI) (d:Sl) (xs:List I.E):HP:=slc I.T I.sz d (xs.flatMap I.enc)
structure SortI.Ok (P:Program) (I:SortI) (lt:I.E->I.E->Bool):Prop where
 pos:0<I.sz
 enc:∀ x,(I.enc x).length=I.sz
 ld:∀ w A (x:I.E),At w A (I.enc x)->(ld I.T A).run P w=.ok ((Sh.one I.s).mk x) w
 size:sizeOf? P I.T=some I.sz
 cells:∀ x:I.E,((Sh.one I.s).mk x).cells.toList=I.enc x
 one:∀ (x:I.E),∀ u ∈ I.enc x,u.oneCell'=true
 less:∀ {x y:I.E} {k:Bool->Prog} {w:World} {l:List HP} {Q:Post},Sat w l->(∀ w',Sat w' l->(k (lt x y)).wp P tt w' Q)->(I.less x y k).wp P tt w Q
def z8y {α:Type} (xs:List α) (i j:Nat):List α:=match xs[i]?,xs[j]? with
 | some x,some y=>(xs.set i y).set j x
 | _,_=>xs
def z5z {α:Type} (lt:α->α->Bool) (xs:List α) (i j:Nat):Bool:=match xs[i]?,xs[j]? with
 | some x,some y=>lt x y
 | _,_=>false
section
variable {P:Program} {I:SortI} {lt:I.E->I.E->Bool} {w:World} {l:List HP} {Q:Post} {d:Sl} {xs:List I.E}
theorem SortI.Ok.len (ok:I.Ok P lt) (hs:Sat w (I.arr d xs::l)):d.len=xs.length:=hs.rd.len ok.enc ok.pos
theorem z0bk (ok:I.Ok P lt) {e:Nat} {g:Bool} {i j:Int} {f:Bool->Bool} {k:Bool × Unit->Prog} (ni nj:Nat) (hi:g=true->i=ni/\ni<xs.length) (hj:g=true->j=nj/\nj<xs.length) (x0:I.E) (hs:Sat w (I.arr d xs::l))
  (h:∀ w',Sat w' (I.arr d xs::l)->(k (g && f (z5z lt xs ni nj),())).wp P tt w' Q) :
  (Prog.bind e [.one .bool] (.tick <| .ex [.adr] (c1 λa=>g=true->0<=i/\i<((d.len:Nat):Int)/\d.a=some a) (u1 λa=>.read (g=true) (ld I.T (Addr.add a (Int.toNat i*I.sz))) (.one I.s) (λx =>
   .ex [.adr] (c1 λa=>g=true->0<=j/\j<((d.len:Nat):Int)/\d.a=some a) (u1 λa=>.read (g=true) (ld I.T (Addr.add a (Int.toNat j*I.sz))) (.one I.s) (λy =>
   .ite g (I.less x y (λb=>.untick (.done e [.bool (f b)]))) (.untick (.done e [.bool false]))))))) k).wp P tt w Q:=by
 refine zj (λv w'=>v=(g && f (z5z lt xs ni nj),())/\Sat w' (I.arr d xs::l)) ?_ (by rintro _ w' ⟨rfl,hs⟩;exact h w' hs);refine zgb λw2 hw=>?_;have hs:=hs.heap hw;have hl:=ok.len hs
 cases hg:g with
 | false =>
  refine z6o (⟨0,0,none⟩,()) (λh=>by cases h) (z3k x0 (λh=>by cases h) ?_);refine z6o (⟨0,0,none⟩,()) (λh=>by cases h) (z3k x0 (λh=>by cases h) ?_);exact z07 rfl (ze (z1z ⟨(false,()),rfl,rfl,hs⟩))
 | true =>
  obtain ⟨rfl,hil⟩:=hi hg;obtain ⟨rfl,hjl⟩:=hj hg;obtain ⟨a,ha,ea⟩:=hs.rd.el ok.enc (by omega);refine z6o (a,()) (λ_=>⟨by omega,by omega,ha⟩) (z3k xs[ni] (λ_=>ok.ld _ _ _ (ea ni hil)) ?_);refine z6o (a,()) (λ_=>⟨by omega,by omega,ha⟩) (z3k xs[nj] (λ_=>ok.ld _ _ _ (ea nj hjl)) ?_);refine zw rfl (ok.less hs λw' hs=>?_);refine ze (z1z ⟨(f (lt xs[ni] xs[nj]),()),rfl,?_,hs⟩);simp only [z5z,List.getElem?_eq_getElem hil,List.getElem?_eq_getElem hjl,Bool.true_and]
theorem z0bo (ok:I.Ok P lt) {e:Nat} {i j:Int} {k:Unit->Prog} (ni nj:Nat) (hi:i=ni) (hj:j=nj) (hil:ni<xs.length) (hjl:nj<xs.length) (hs:Sat w (I.arr d xs::l))
  (h:∀ w',Sat w' (I.arr d (z8y xs ni nj)::l)->(k ()).wp P tt w' Q) :
  (Prog.bind e [] (.tick <| .ex [.adr] (c1 λa=>0<=j/\j<((d.len:Nat):Int)/\d.a=some a) (u1 λa=>.read True (ld I.T (Addr.add a (Int.toNat j*I.sz))) (.one I.s) (λx =>
   .ex [.adr] (c1 λa=>0<=i/\i<((d.len:Nat):Int)/\d.a=some a) (u1 λa=>.read True (ld I.T (Addr.add a (Int.toNat i*I.sz))) (.one I.s) (λy =>
   .ex [.adr] (c1 λa=>0<=i/\i<((d.len:Nat):Int)/\d.a=some a) (u1 λa=>.actU (st I.T (Addr.add a (Int.toNat i*I.sz)) ((Sh.one I.s).mk x)) <|
   .ex [.adr] (c1 λa=>0<=j/\j<((d.len:Nat):Int)/\d.a=some a) (u1 λa=>.actU (st I.T (Addr.add a (Int.toNat j*I.sz)) ((Sh.one I.s).mk y)) <|
   .untick (.done e [])))))))) k).wp P tt w Q:=by
 subst hi hj;refine zj (λv w'=>Sat w' (I.arr d (z8y xs ni nj)::l)) ?_ (by rintro _ w' hs;exact h w' hs);refine zgb λw2 hw=>?_;have hs:=hs.heap hw;have hl:=ok.len hs;obtain ⟨a,ha,ea⟩:=hs.rd.el ok.enc (by omega);refine z6o (a,()) ⟨by omega,by omega,ha⟩ (z3k xs[nj] (λ_=>ok.ld _ _ _ (ea nj hjl)) ?_);refine z6o (a,()) ⟨by omega,by omega,ha⟩ (z3k xs[ni] (λ_=>ok.ld _ _ _ (ea ni hil)) ?_);refine z6o (a,()) ⟨by omega,by omega,ha⟩ ?_
 refine zjr (enc:=I.enc) (i:=ni) (y:=xs[nj]) ok.enc hs ha hil (λb o h=>by subst h;exact z2d ..) ok.size (ok.cells _) (ok.one _) λw' hs=>⟨trivial,?_⟩
 refine z6o (a,()) ⟨by omega,by omega,ha⟩ ?_
 refine zjr (enc:=I.enc) (i:=nj) (y:=xs[ni]) ok.enc hs ha (by simp;omega) (λb o h=>by subst h;exact z2d ..) ok.size (ok.cells _) (ok.one _) λw' hs=>⟨trivial,?_⟩
 refine ze (z1z ⟨(),rfl,?_⟩);simpa only [z8y,List.getElem?_eq_getElem hil,List.getElem?_eq_getElem hjl] using hs
end
inductive Sw {α:Type} (a b:Nat):List α->List α->Prop
 | refl (xs:List α):Sw a b xs xs
 | step {xs ys:List α} {i j:Nat} (h:Sw a b xs ys) (hi:a<=i) (hi':i<b) (hj:a<=j) (hj':j<b):Sw a b xs (z8y ys i j)
def tr (i j p:Nat):Nat:=if p=i then j else if p=j then i else p
structure LtOk {α:Type} (lt:α->α->Bool):Prop where
 asymm:∀ {x y},lt x y=true->lt y x=false
 trans:∀ {x y z},lt x y=false->lt y z=false->lt x z=false
section
variable {α:Type} {lt:α->α->Bool} {xs ys zs:List α} {a b:Nat}
theorem zpu (xs:List α) (i j:Nat):(z8y xs i j).length=xs.length:=by
 unfold z8y;split <;> simp
theorem z025 {i j:Nat} (hi:i<xs.length) (hj:j<xs.length) (p:Nat):(z8y xs i j)[p]? = xs[tr i j p]? := by
 simp only [z8y,List.getElem?_eq_getElem hi,List.getElem?_eq_getElem hj,tr];rw [List.getElem?_set]
 by_cases h1:p=i
 ·subst h1;rw [if_pos rfl]
  by_cases h2:j=p
  ·subst h2;rw [if_pos rfl,if_pos (by simpa using hi),List.getElem?_eq_getElem hi]
  ·rw [if_neg h2,List.getElem?_set,if_pos rfl,if_pos hi,List.getElem?_eq_getElem hj]
 ·rw [if_neg h1]
  by_cases h2:j=p
  ·subst h2;rw [if_pos rfl,if_pos rfl,if_pos (by simpa using hj),List.getElem?_eq_getElem hi]
  ·rw [if_neg h2,if_neg (Ne.symm h2),List.getElem?_set,if_neg (Ne.symm h1)]
theorem z013 {i j:Nat} (hi:i<xs.length) (hj:j<xs.length) (p q:Nat):z5z lt (z8y xs i j) p q=z5z lt xs (tr i j p) (tr i j q):=by
 simp only [z5z,z025 hi hj]
theorem LtOk.asymmAt (h:LtOk lt) {p q:Nat} (hl:z5z lt xs p q=true):z5z lt xs q p=false:=by
 unfold z5z at *;split at hl
 ·rename_i x y hx hy;rw [hx,hy];exact h.asymm hl
 ·cases hl
theorem LtOk.transAt (h:LtOk lt) {p q r:Nat} (hq:q<xs.length) (h1:z5z lt xs p q=false) (h2:z5z lt xs q r=false):z5z lt xs p r=false:=by
 unfold z5z at *;rw [List.getElem?_eq_getElem hq] at h1 h2
 cases hp:xs[p]? with
 | none=>rfl
 | some x =>
  cases hr:xs[r]? with
  | none=>rfl
  | some z=>rw [hp] at h1;rw [hr] at h2;exact h.trans h1 h2
theorem Sw.length (h:Sw a b xs ys):ys.length=xs.length:=by
 induction h with
 | refl=>rfl
 | step _ _ _ _ _ ih=>rw [zpu,ih]
theorem zx5 (xs:List α) (i j:Nat):(z8y xs i j).Perm xs:=by
 unfold z8y;split
 ·rename_i x y hx hy
  obtain ⟨hi,rfl⟩:=List.getElem?_eq_some_iff.1 hx;obtain ⟨hj,rfl⟩:=List.getElem?_eq_some_iff.1 hy;exact List.set_set_perm hi hj
 ·exact .refl _
theorem Sw.perm (h:Sw a b xs ys):ys.Perm xs:=by
 induction h with
 | refl=>exact .refl _
 | step _ _ _ _ _ ih=>exact (zx5 _ _ _).trans ih
def z92 (lt:α->α->Bool) (xs:List α) (a b:Nat):Prop:=∀ p q,a<=p->p<q->q<b->z5z lt xs q p=false
end
section
variable {P:Program} {I:SortI} {lt:I.E->I.E->Bool} {w:World} {l:List HP} {Q:Post} {d:Sl} {xs:List I.E}
theorem z06h (ok:I.Ok P lt) (lo:LtOk lt) (x0:I.E) (a b:Nat) (hab:a<=b) (hb:b<=xs.length) (h63:xs.length<4611686018427387904) (hs:Sat w (I.arr d xs::l)) :
  (I.ins d a b).wp P tt w λe vs w'=>e=0/\vs=[]/\∃ ys,Sw a b xs ys/\z92 lt ys a b/\Sat w' (I.arr d ys::l):=by
 unfold SortI.ins;refine z7p (y:=((a+1:Nat):Int)) (by rw [w64 (by omega) (by omega)];rfl) (zj (λv w'=>∃ ys,Sw a b xs ys/\z92 lt ys a b/\Sat w' (I.arr d ys::l)) ?_ (λ_ w' h=>⟨rfl,rfl,h⟩));refine z0a (λn v w=>∃ (i:Nat) (ys:List I.E),v=((i:Int),())/\a+1<=i/\b+1-i=n/\(i<=b\/b<a+1)/\Sw a b xs ys/\z92 lt ys a i/\Sat w (I.arr d ys::l)) (b+1-(a+1)) ?_ ?_
 ·exact ⟨a+1,xs,rfl,by omega,rfl,by omega,.refl _,λp q h1 h2 h3=>by omega,hs⟩
 rintro n _ w ⟨i,ys,rfl,hi,hn,hib,hsw,hso,hs⟩;have hyl:=hsw.length;refine zbo (λhc=>?_) λhc=>?_
 ·have hc:(i:Int)<b:=of_decide_eq_true hc;refine zj (λv w'=>∃ ys,Sw a b xs ys/\z92 lt ys a (i+1)/\Sat w' (I.arr d ys::l)) ?_ ?_
  ·refine wp_lt (zj (λv w'=>∃ ys,Sw a b xs ys/\z92 lt ys a (i+1)/\Sat w' (I.arr d ys::l)) ?_ (λ_ w' h=>z1z ⟨(),rfl,h⟩));refine z0a (λn v w=>∃ (j:Nat) (ys:List I.E),v=((j:Int),())/\a<=j/\j<=i/\j=n/\Sw a b xs ys/\(∀ p q,a<=p->p<q->q<=i->q≠j->z5z lt ys q p=false)/\Sat w (I.arr d ys::l)) i ?_ ?_
   ·exact ⟨i,ys,rfl,by omega,by omega,rfl,hsw,λp q h1 h2 h3 h4=>hso p q h1 h2 (by omega),hs⟩
   rintro n _ w ⟨j,ys,rfl,hj,hji,rfl,hsw,hso,hs⟩;have hyl:=hsw.length;refine z0bk ok (f:=id) j (j-1) (λ_=>⟨rfl,by omega⟩) (λh=>?_) x0 hs λw' hs=>?_
   ·have h:(j:Int)>a:=of_decide_eq_true h;exact ⟨by rw [w64 (by omega) (by omega)];omega,by omega⟩
   refine zbo (λhc2=>?_) λhc2=>?_
   ·have hc2:(decide ((j:Int)>a) && z5z lt ys j (j-1))=true:=hc2;simp only [Bool.and_eq_true,decide_eq_true_eq] at hc2;obtain ⟨h1,h2⟩:=hc2;refine z0bo ok j (j-1) rfl (by rw [w64 (by omega) (by omega)];omega) (by omega) (by omega) hs λw' hs=>z7p (y:=((j-1:Nat):Int)) (by rw [w64 (by omega) (by omega)];omega) (z1z ⟨(((j-1:Nat):Int),()),j-1,by omega,rfl,j-1,_,rfl,by omega,by omega,rfl,.step hsw (by omega) (by omega) (by omega) (by omega),λp q p1 p2 p3 p4=>?_,hs⟩);rw [z013 (by omega) (by omega)];unfold tr
    by_cases q1:q=j
    ·subst q1;rw [if_pos rfl]
     by_cases q2:p=q-1
     ·subst q2;rw [if_neg (by omega),if_pos rfl];exact lo.asymmAt h2
     ·rw [if_neg (by omega),if_neg q2];exact hso p (q-1) p1 (by omega) (by omega) (by omega)
    ·rw [if_neg q1,if_neg p4]
     by_cases q2:p=j
     ·subst q2;rw [if_pos rfl];exact hso (p-1) q (by omega) (by omega) p3 q1
     ·rw [if_neg q2]
      by_cases q3:p=j-1
      ·subst q3;rw [if_pos rfl];exact hso j q (by omega) (by omega) p3 q1
      ·rw [if_neg q3];exact hso p q p1 p2 p3 q1
   ·have hc2:(decide ((j:Int)>a) && z5z lt ys j (j-1))=false:=hc2;refine zm (z1z ⟨(),rfl,ys,hsw,λp q p1 p2 p3=>?_,hs⟩)
    by_cases hq:q=j
    ·subst hq;rw [decide_eq_true (show (q:Int)>a by omega),Bool.true_and] at hc2
     by_cases hp:p=q-1
     ·subst hp;exact hc2
     ·exact lo.transAt (q:=q-1) (by omega) hc2 (hso p (q-1) p1 (by omega) (by omega) (by omega))
    ·exact hso p q p1 p2 (by omega) hq
  ·rintro _ w' ⟨zs,hsw,hso,hs⟩;exact z7p (y:=((i+1:Nat):Int)) (by rw [w64 (by omega) (by omega)];rfl) (z1z ⟨(((i+1:Nat):Int),()),b+1-(i+1),by omega,rfl,i+1,zs,rfl,by omega,rfl,by omega,hsw,hso,hs⟩)
 ·have hc:¬ (i:Int)<b:=of_decide_eq_false hc;refine zm (z1z ⟨(),rfl,ys,hsw,λp q p1 p2 p3=>hso p q p1 p2 (by omega),hs⟩)
end
set_option maxRecDepth 4000
def zb6:ByteArray:=ByteArray.mk #[0,1,2,2,3,3,3,3,4,4,4,4,4,4,4,4,5,5,5,5,5,5,5,5,5,5,5,5,5,5,5,5,6,6,6,6,6,6,6,6,6,6,6,6,6,6,6,6,6,6,6,6,6,6,6,6,6,6,6,6,6,6,6,6,7,7,7,7,7,7,7,7,7,7,7,7,7,7,7,7,7,7,7,7,7,7,7,7,7,7,7,7,7,7,7,7,7,7,7,7,7,7,7,7,7,7,7,7,7,7,7,7,7,7,7,7,7,7,7,7,7,7,7,7,7,7,7,7,8,8,8,8,8,8,8,8,8,8,8,8,8,8,8,8,8,8,8,8,8,8,8,8,8,8,8,8,8,8,8,8,8,8,8,8,8,8,8,8,8,8,8,8,8,8,8,8,8,8,8,8,8,8,8,8,8,8,8,8,8,8,8,8,8,8,8,8,8,8,8,8,8,8,8,8,8,8,8,8,8,8,8,8,8,8,8,8,8,8,8,8,8,8,8,8,8,8,8,8,8,8,8,8,8,8,8,8,8,8,8,8,8,8,8,8,8,8,8,8,8,8,8,8,8,8,8,8]
theorem zw9:∀ i:Fin 256,∃ k:Nat,bt zb6 (i.val:Int)=k/\k<=8/\(1<=i.val->2 ^ k<=2*i.val):=by
 have h:∀ i:Fin 256,0<=bt zb6 (i.val:Int)/\(bt zb6 (i.val:Int)).toNat<=8/\(1<=i.val->2 ^ (bt zb6 (i.val:Int)).toNat<=2*i.val):=by decide
 intro i;obtain ⟨h1,h2,h3⟩:=h i;exact ⟨(bt zb6 (i.val:Int)).toNat,by omega,h2,h3⟩
theorem zxj (x:Int):IntKind.wrap .u64 x=x % 18446744073709551616:=by simp [IntKind.wrap,IntKind.bits,IntKind.signed]
theorem z0dx (x:Int):IntKind.wrap .u8 x=x % 256:=by simp [IntKind.wrap,IntKind.bits,IntKind.signed]
section
variable {w:World} {l:List HP}
structure LenS (n x s B:Nat):Prop where
 h1:x*2 ^ s<=n
 h2:1<=x
 h3:x<B
 h4:s<=64
theorem LenS.shift {n x s:Nat} (a b:Nat) (h:LenS n x s (2 ^ (a+b))) (hx:2 ^ a<=x) (hs:s+a<=64):LenS n (x / 2 ^ a) (s+a) (2 ^ b):=by
 obtain ⟨h1,h2,h3,h4⟩:=h;have hp:0<2 ^ a:=Nat.two_pow_pos a;refine ⟨?_,Nat.div_pos hx hp,?_,hs⟩
 ·rw [Nat.pow_add,<- Nat.mul_assoc,Nat.mul_right_comm];exact Nat.le_trans (Nat.mul_le_mul_right _ (Nat.div_mul_le_self x (2 ^ a))) h1
 ·rw [Nat.div_lt_iff_lt_mul hp,Nat.mul_comm,<- Nat.pow_add];exact h3
theorem z0ae (n:Nat) (h0:1<=n) (h1:n<18446744073709551616) (hs:Sat w l):Ret P F.a74 #[.int .u64 n] w λvs w'=>(∃ k:Nat,vs=[.int .i64 k]/\k<=64/\2 ^ k<=2*n)/\Sat w' l :=
 zjv n <| by
  delta z06b AX AY Aa Ab Ac Al Av;refine zj (λv w'=>(∃ x s:Nat,v=((x:Int),(s:Int),())/\LenS n x s (2 ^ 32)/\s<=32)/\Sat w' l) ?_ ?_
  ·refine zbo (λhc=>?_) λhc=>?_
   ·have hc:(n:Int)>=4294967296:=of_decide_eq_true hc;exact z7p (y:=((n / 2 ^ 32:Nat):Int)) (by rw [Int.fdiv_eq_ediv_of_nonneg _ (by omega)];omega) (z1z ⟨(((n / 2 ^ 32:Nat):Int),((32:Nat):Int),()),rfl,⟨_,32,rfl,by have:=LenS.shift (n:=n) (x:=n) (s:=0) 32 32 ⟨by omega,h0,by omega,by omega⟩ (by omega) (by omega);simpa using this,by omega⟩,hs⟩)
   ·have hc:¬ (n:Int)>=4294967296:=of_decide_eq_false hc;exact z1z ⟨((n:Int),((0:Nat):Int),()),rfl,⟨n,0,rfl,⟨by omega,h0,by omega,by omega⟩,by omega⟩,hs⟩
  rintro _ w ⟨⟨x,s,rfl,hx,hs1⟩,hs⟩;refine zj (λv w'=>(∃ x s:Nat,v=((x:Int),(s:Int),())/\LenS n x s (2 ^ 16)/\s<=48)/\Sat w' l) ?_ ?_
  ·refine zbo (λhc=>?_) λhc=>?_
   ·have hc:(x:Int)>=65536:=of_decide_eq_true hc;refine z7p (y:=((x / 2 ^ 16:Nat):Int)) (by dsimp only;rw [Int.fdiv_eq_ediv_of_nonneg _ (by omega)];omega) (z7p (y:=((s+16:Nat):Int)) (by dsimp only;rw [w64 (by omega) (by omega)];omega) ?_);exact z1z ⟨(((x / 2 ^ 16:Nat):Int),((s+16:Nat):Int),()),rfl,⟨_,_,rfl,LenS.shift 16 16 hx (by omega) (by omega),by omega⟩,hs⟩
   ·have hc:¬ (x:Int)>=65536:=of_decide_eq_false hc;exact z1z ⟨((x:Int),(s:Int),()),rfl,⟨x,s,rfl,⟨hx.h1,hx.h2,by omega,hx.h4⟩,by omega⟩,hs⟩
  clear hs hx hs1;rintro _ w ⟨⟨x,s,rfl,hx,hs1⟩,hs⟩;refine zj (λv w'=>(∃ x s:Nat,v=((x:Int),(s:Int),())/\LenS n x s (2 ^ 8)/\s<=56)/\Sat w' l) ?_ ?_
  ·refine zbo (λhc=>?_) λhc=>?_
   ·have hc:(x:Int)>=256:=of_decide_eq_true hc;refine z7p (y:=((x / 2 ^ 8:Nat):Int)) (by dsimp only;rw [Int.fdiv_eq_ediv_of_nonneg _ (by omega)];omega) (z7p (y:=((s+8:Nat):Int)) (by dsimp only;rw [w64 (by omega) (by omega)];omega) ?_);exact z1z ⟨(((x / 2 ^ 8:Nat):Int),((s+8:Nat):Int),()),rfl,⟨_,_,rfl,LenS.shift 8 8 hx (by omega) (by omega),by omega⟩,hs⟩
   ·have hc:¬ (x:Int)>=256:=of_decide_eq_false hc;exact z1z ⟨((x:Int),(s:Int),()),rfl,⟨x,s,rfl,⟨hx.h1,hx.h2,by omega,hx.h4⟩,by omega⟩,hs⟩
  clear hs hx hs1;rintro _ w ⟨⟨x,s,rfl,hx,hs1⟩,hs⟩;have hx3:=hx.h3
  have e:IntKind.wrap .u8 (x:Int)=x:=by rw [z0dx];omega
  have e':IntKind.wrap .u8 ((x:Int),(s:Int),()).1=x:=e;obtain ⟨k,hk1,hk2,hk3⟩:=zw9 ⟨x,by omega⟩;refine wp_must (by rw [e'];omega) (z7p (y:=((s+k:Nat):Int)) ?_ ?_)
  ·show IntKind.wrap .i64 ((s:Int)+IntKind.wrap .i64 (bt zb6 (IntKind.wrap .u8 (x:Int))))=_;rw [e,hk1,w64 (x:=(k:Int)) (by omega) (by omega),w64 (by omega) (by omega)];omega
  ·refine ⟨rfl,⟨s+k,rfl,by omega,?_⟩,hs⟩;have h5:=hk3 hx.h2;have h6:=hx.h1;rw [Nat.pow_add]
   calc 2 ^ s*2 ^ k<=2 ^ s*(2*x):=Nat.mul_le_mul_left _ h5
    _=2*(x*2 ^ s):=by rw [Nat.mul_comm (2 ^ s),Nat.mul_assoc]
    _<=2*n:=by omega
theorem z06j (n:Nat) (h0:1<=n) (h1:n<18446744073709551616) (hs:Sat w l):Ret P F.a73 #[.int .u64 n] w λvs w'=>(∃ k:Nat,vs=[.int .i64 k]/\k<=64/\2 ^ k<=2*n)/\Sat w' l :=
 zju n <| by
  delta z06a Ab Ac Al Am;refine zb (z0ae n h0 h1 hs) λvs w' ⟨⟨k,hv,h2,h3⟩,hs⟩=>?_;subst hv;exact ⟨((k:Int),()),rfl,trivial,rfl,⟨k,rfl,h2,h3⟩,hs⟩
theorem z011 (hs:Sat w l):Ret P F.a73 #[.int .u64 0] w λvs w'=>vs=[.int .i64 0]/\Sat w' l :=
 zju 0 <| by
  delta z06a Ab Ac Al Am
  refine wp_callS (0,()) (vs₀:=[.int .i64 0]) (R:=λw'=>Sat w' l) ?_ rfl λw' hs=>⟨trivial,rfl,rfl,hs⟩
  refine zjv 0 ?_;delta z06b AX AY Aa Ab Ac Al Av;refine zj (λv w'=>v=(0,0,())/\Sat w' l) (z07 rfl (z1z ⟨(0,0,()),rfl,rfl,hs⟩)) ?_;rintro _ w ⟨rfl,hs⟩;refine zj (λv w'=>v=(0,0,())/\Sat w' l) (z07 rfl (z1z ⟨(0,0,()),rfl,rfl,hs⟩)) ?_;clear hs;rintro _ w ⟨rfl,hs⟩;refine zj (λv w'=>v=(0,0,())/\Sat w' l) (z07 rfl (z1z ⟨(0,0,()),rfl,rfl,hs⟩)) ?_;clear hs;rintro _ w ⟨rfl,hs⟩;refine wp_must (by decide) (z7p (y:=0) ?_ ⟨rfl,rfl,hs⟩);show IntKind.wrap .i64 (0+IntKind.wrap .i64 (bt zb6 (IntKind.wrap .u8 0)))=0;decide
end
section
variable {w:World} {l r:List HP} {v:Nat} {A:ViewA}
theorem z0b9 (f:Value) (z:Sl) (ys:List TxnA) (h1:ys.length<=1) (hs:Sat w (slc T.a15 4 z (ys.flatMap z4q)::l)) :
  Ret P F.a144 #[z.v,f] w λvs w'=>vs=[]/\Sat w' (slc T.a15 4 z (ys.flatMap z4q)::l) :=
 zrx z f <| by
  delta z07w Ab Ac Ak Al Am An
  have hl:=hs.slen z (xs:=ys) (enc:=z4q)
  refine wp_lt ?_
  have hlen:Ret P F.a73 #[.int .u64 (IntKind.wrap .u64 ((z.len:Nat):Int))] w λvs w'=>(∃ k:Int,vs=[.int .i64 k])/\Sat w' (slc T.a15 4 z (ys.flatMap z4q)::l):=by
   rw [zl0 (by omega) (by omega)]
   by_cases h0:z.len=0
   ·rw [h0]
    exact Ret.mono (z011 hs) λvs w' h=>⟨⟨0,h.1⟩,h.2⟩
   ·exact Ret.mono (z06j z.len (by omega) (by omega) hs) λvs w' h=>⟨by obtain ⟨⟨k,h1,-⟩,-⟩:=h;exact ⟨k,h1⟩,h.2⟩
  refine zb hlen λ_ w' hs=>?_
  obtain ⟨⟨k,rfl⟩,hs⟩:=hs
  refine zd ?_
  refine zb (R:=λvs w'=>vs=[]/\Sat w' (slc T.a15 4 z (ys.flatMap z4q)::l)) ?_ λ_ w' hs=>?_
  ·refine zs4 z _ _ _ _ ?_
   delta z081 AA AB AC AE AF AG Aa Ab Ac Aj Ak Al Am An As Au Av Aw Ax Ay Az Bi Bj
   refine z0a (λm q w=>q=(0,((z.len:Nat):Int),k,true,true,())/\Sat w (slc T.a15 4 z (ys.flatMap z4q)::l)) 0 ⟨rfl,hs⟩ ?_
   clear hs
   rintro m _ w ⟨rfl,hs⟩
   refine z81 _ _ _ _ _ ?_
   refine z3j ?_
   rw [w64 (by omega) (by omega)]
   refine wp_lt ?_
   refine z18 ?_ (by omega)
   refine zb (R:=λvs w'=>vs=[]/\Sat w' (slc T.a15 4 z (ys.flatMap z4q)::l)) ?_ λ_ w' hs=>?_
   ·refine zs1 z _ _ _ ?_
    delta z080 AB AC AE AS AW Aa Ab Ac Ak Al Av Az Bi Bj
    rw [w64 (by omega) (by omega)]
    refine wp_lt ?_
    refine zj (λq w'=>Sat w' (slc T.a15 4 z (ys.flatMap z4q)::l)) ?_ ?_
    ·refine z0a (λm q w=>q=(0+1,())/\Sat w (slc T.a15 4 z (ys.flatMap z4q)::l)) 0 ⟨rfl,hs⟩ ?_
     clear hs
     rintro m _ w ⟨rfl,hs⟩
     refine zh ?_
     refine z06 ?_ (by omega)
     exact zm (zg hs)
    clear hs
    rintro _ w hs
    refine zh ?_
    exact ⟨rfl,rfl,hs⟩
   obtain ⟨rfl,hs⟩:=hs
   refine zd ?_
   refine zm (zm ?_)
   exact ⟨rfl,rfl,hs⟩
  obtain ⟨rfl,hs⟩:=hs
  refine zd ?_
  exact ⟨rfl,rfl,hs⟩
theorem z03w [hf:Fo l vw v A r] (h1:A.op.length<=1) (hs:Sat w l):Ret P F.a59 #[.pointer (some ⟨v,0,none⟩)] w λvs w'=>∃ z:Sl,vs=[z.v]/\Sat w' (slc T.a15 4 z (A.op.flatMap z4q)::vw v A::r) :=
 zyy _ <| by
  delta z067 AH AK Aa Ab Ag An Ao Ap BU BW Bc Bf Bj
  obtain ⟨m1,m2,hok,hs⟩:=zas (hs.perm hf.perm)
  have hmany:=hok.many
  refine z06 ?_ (by simp)
  refine zf ?_
  refine z8 hs ?_
  refine zft hs λit w' hs=>?_
  refine zj (λx w'=>∃ (z:Sl) (ys:List TxnA),x=(z,())/\ys.Perm A.op/\Sat w' (slc T.a15 4 z (ys.flatMap z4q)::vw v A::r)) ?_ ?_
  ·refine z0a (λk x w=>∃ (z:Sl) (ys:List TxnA) (todo:List (Int × TxnA)) (last:Option (Int × TxnA)),x=(z,())/\todo.length=k/\(ys++todo.map Prod.snd).Perm A.op /\
    Sat w (slc T.a15 4 z (ys.flatMap z4q)::itP ekI evX it m1 (opK A) todo last::pt v (.cells #[.int .i64 A.next,.map (some m1),.map (some m2)] T.a16)::z03 ekK evX m2 (faK A)::r)) (opK A).length
    ⟨⟨none,0,0⟩,[],opK A,none,rfl,rfl,by rw [List.nil_append,opK,List.map_map];exact .of_eq (List.map_id _),hs.slc_nil⟩ ?_
   clear hs
   rintro k _ w ⟨z,ys,todo,last,rfl,hk,hperm,hs⟩
   have hlen:=hperm.length_eq
   rw [List.length_append,List.length_map] at hlen
   refine zh ?_
   refine zi6 hs (λk t=>(k,t.pid,t.epoch,t.first,t.last,())) (λkk t todo' w' hp hs=>?_) λh0=>?_
   ·refine z81 kk t.pid t.epoch t.first t.last ?_
    refine zky hs (kk,t.pid,t.epoch,t.first,t.last,()) ?_
    refine z81 kk t.pid t.epoch t.first t.last ?_
    refine zu hs λc w' hs=>?_
    refine zv hs λw' hs=>?_
    refine zl hs ?_
    refine zb (z0bi t hs) λ_ _ hs=>?_
    obtain ⟨rfl,hs⟩:=hs
    refine zd ?_
    refine z66 hs (xs:=ys) (enc:=z4q) t (λz w' hs=>?_)
    refine z0x todo'.length ?_ (by rw [<- hk,hp.length_eq,List.length_cons];omega)
    refine ⟨z,ys++[t],todo',some (kk,t),rfl,rfl,?_,hs.sub⟩
    rw [List.append_assoc,List.singleton_append]
    exact ((List.Perm.append_left ys (hp.map Prod.snd)).symm).trans hperm
   ·refine zm (zg ⟨z,ys,rfl,?_,?_⟩)
    ·subst h0
     rw [List.map_nil,List.append_nil] at hperm
     exact hperm
    ·have hs:=(hs.pick [1]).itDone
     have hs:Sat w (vw v A::slc T.a15 4 z (ys.flatMap z4q)::r):=z5g m1 m2 hok hs
     exact hs.pick [1]
  clear hs
  rintro _ w ⟨z,ys,rfl,hperm,hs⟩
  refine zh ?_
  have hy:ys=A.op:=by
   have hlen:=hperm.length_eq
   cases hop:A.op with
   | nil=>rw [hop] at hperm;exact hperm.eq_nil
   | cons t ts =>
    rw [hop] at hperm h1
    have:ts=[]:=by simpa using h1
    subst this
    exact List.perm_singleton.1 hperm
  rw [hy] at hs
  refine zb (z0b9 _ z A.op h1 hs) λ_ w' h=>?_
  obtain ⟨rfl,hs⟩:=h
  refine zd ?_
  exact ⟨rfl,z,rfl,hs⟩
end
section
variable {w:World} {l r:List HP} {p:Nat} {A:PartA}
theorem zws [hf:Fo l paP p A r] (h1:A.V.op.length<=1) (hlen:A.L.l.length<=1000000000) (hs:Sat w l):Ret P F.a80 #[.pointer (some ⟨p,0,none⟩)] w λvs w'=>vs=[.int .i64 (z5n A)]/\Sat w' (paP p A::r) :=
 zzf _ <| by
  delta z0fj AO Aa Ab Ac Ad Ak Al Am Ao Bq;unfold z5n;obtain ⟨lg,t,v,hs⟩:=z69 (hs.perm hf.perm);refine z06 ?_ (by simp);refine zf (z8 hs ?_);refine zb (z03w (v:=v) (A:=A.V) h1 hs) λ_ w' hs=>?_;obtain ⟨z,rfl,hs⟩:=hs;refine zd ?_;have hz:=hs.slen z (xs:=A.V.op) (enc:=z4q);refine zi (λh=>?_) λh=>?_
  ·have h0:A.V.op.length=0:=by simpa [hz] using h
   rw [if_pos h0];have hs:Sat w' (paP p A::r):=z39 A hs;refine zb (zuq (p:=p) (A:=A) hlen hs) λ_ w' hs=>?_;obtain ⟨rfl,hs⟩:=hs;refine zd (wp_lt ?_);exact ⟨rfl,rfl,hs⟩
  ·have h0:¬ A.V.op.length=0:=by simpa [hz] using h
   rw [if_neg h0];refine zf (z8 hs ?_);refine zb (zlv (v:=v) (A:=A.V) hs) λ_ w' hs=>?_;obtain ⟨rfl,hs⟩:=hs;refine zd ?_;have hs:Sat w' (paP p A::r):=z39 A hs;refine zb (zp5 (p:=p) (A:=A) hs) λ_ w' hs=>?_;obtain ⟨rfl,hs⟩:=hs;refine zd (wp_lt ?_);refine ⟨rfl,?_,hs⟩
   have e:(if z19 A.L.l>z5m A.V then z19 A.L.l else z5m A.V)=max (z5m A.V) (z19 A.L.l):=by split <;> omega
   rw [e]
theorem z05j {A:PartA} (h1:A.V.op.length<=1):zi8 A:=λ{w l r p} hf hlen hs=>@zws w l r p A hf h1 hlen hs
end
theorem zv6:∀ (bs:List BatM) (A:PartA),(bs.foldl z4c A).L=A.L
 | [],A=>rfl
 | b::bs,A=>by rw [List.foldl_cons,zv6 bs];rfl
theorem z9d (L:LogA) (most:Int):(z2f L most).L=L:=by unfold z2f;rw [zv6];rfl
section
variable {w:World} {l r r1 r2 r3 l':List HP} {b d t p:Nat} {M:LedA} {D:DiskA}
theorem z046 (pre:ByteArray) (seg gap most:Int) (hp:z2n pre=true) (hc:zg1 seg gap) (hm:1<=most/\most<=1024) (hg:D.gone=false) {S:List SegA} (h:Cpl pre S D) (hno:∀ f ∈ D.fs,f.name≠zc7 pre/\f.name≠zc8 pre)
  (hf0 : -9223372036854775808<=z19 S/\z19 S<9223372036854775808)
  (hlow:∀ a ∈ (z2t (z2f ⟨d,pre,seg,gap,S⟩ most) (z19 S) 1099511627776 true).1.1,-9223372036854775808<=a.off) (hlen:(z2t (z2f ⟨d,pre,seg,gap,S⟩ most) (z19 S) 1099511627776 true).1.1.length<=1000000000)
  (he:za9 ⟨0,[]⟩ (z2t (z2f ⟨d,pre,seg,gap,S⟩ most) (z19 S) 1099511627776 true).1.1=true) (hst:zi8 (z2f ⟨d,pre,seg,gap,S⟩ most)) [hf:Fo l dk d D r] (hs:Sat w l) :
  Ret P F.a69 #[.pointer (some ⟨d,0,none⟩),.string pre,.agg #[.int .i64 seg,.int .i64 gap,.int .i64 most]] w λvs w'=>∃ b:Nat,vs=[.pointer (some ⟨b,0,none⟩),.int .i64 0] /\
   Sat w' (leP b (z2f ⟨d,pre,seg,gap,S⟩ most,(z2k ⟨0,[]⟩ (z2t (z2f ⟨d,pre,seg,gap,S⟩ most) (z19 S) 1099511627776 true).1.1).2)::dk d D::r) :=
 zz8 _ pre seg gap most <| by
  delta z0fc Aa Ab Ac Ad Af Ag Al Am B2 B9 BD BE Bq
  refine zr (hs.perm hf.perm) λa0 w' hs=>?_
  clear hf
  refine zl hs ?_
  have hs:=hs.pick [1]
  refine zb (z0aq (d:=d) (D:=D) pre seg gap most hp hc hm hg h hno hs) λ_ w' hs=>?_
  obtain ⟨p,rfl,hs⟩:=hs
  refine ⟨(some ⟨p,0,none⟩,0,()),rfl,trivial,z23 _ _ ?_⟩
  refine wp_lt ?_
  refine z06 ?_ (by simp)
  refine zb (z0c1 hs) λ_ w' hs=>?_
  obtain ⟨t,rfl,hs⟩:=hs
  refine zd ?_
  obtain ⟨A,hA⟩:∃ A,A=z2f ⟨d,pre,seg,gap,S⟩ most:=⟨_,rfl⟩
  have hAL:A.L=⟨d,pre,seg,gap,S⟩:=by rw [hA];exact z9d _ _
  rw [<- hA] at hs hlow hlen he hst ⊢
  refine zr hs λb w' hs=>?_
  have hs:Sat w' (pt b (.cells #[.pointer (some ⟨t,0,none⟩),.pointer (some ⟨p,0,none⟩)] T.a19)::tbC t ⟨0,[]⟩::paP p A::dk d D::pt a0 (.cells #[.int .i64 seg,.int .i64 gap,.int .i64 most] T.a38)::r):=hs
  refine zb (zp5 (p:=p) (A:=A) hs) λ_ w' hs=>?_
  obtain ⟨rfl,hs⟩:=hs
  refine zd ?_
  have e1:z19 A.L.l=z19 S:=by rw [hAL]
  have hd:A.L.d=d:=by rw [hAL]
  have hcp:Cpl A.L.pre A.L.l D:=by rw [hAL];exact h
  rw [e1]
  have hs:Sat w' (paP p A::dk A.L.d D::pt b (.cells #[.pointer (some ⟨t,0,none⟩),.pointer (some ⟨p,0,none⟩)] T.a19)::tbC t ⟨0,[]⟩::pt a0 (.cells #[.int .i64 seg,.int .i64 gap,.int .i64 most] T.a38)::r):=by rw [hd];exact hs.sub
  refine zb (z04x (p:=p) (A:=A) (D:=D) hst (z19 S) 1099511627776 true hf0 (by omega) hcp hs) λ_ w' hs=>?_
  obtain ⟨z,rfl,hs⟩:=hs
  generalize hq:z2t A (z19 S) 1099511627776 true=q at *
  obtain ⟨⟨xs,n⟩,e⟩:=q
  simp only at hs hlow hlen he ⊢
  refine ⟨(z,n,e,()),rfl,trivial,z90 _ _ _ ?_⟩
  refine wp_lt ?_
  refine wp_lt ?_
  refine z8 hs ?_
  have hs:Sat w' (tbC t ⟨0,[]⟩::slc T.a40 5 z (xs.flatMap zp)::pt b (.cells #[.pointer (some ⟨t,0,none⟩),.pointer (some ⟨p,0,none⟩)] T.a19)::paP p A::dk A.L.d D::r):=hs.sub
  refine zb (znu (t:=t) (C:=⟨0,[]⟩) z xs hlow he (by show 0+xs.length<=_;omega) hs) λ_ w' hs=>?_
  obtain ⟨rfl,hs⟩:=hs
  refine zd ?_
  refine ⟨rfl,b,rfl,?_⟩
  have hs:Sat w' (leP b (A,(z2k ⟨0,[]⟩ xs).2)::dk A.L.d D::r):=zdl (t:=t) (p:=p) (A,(z2k ⟨0,[]⟩ xs).2) hs
  rw [hd] at hs
  exact hs
def s13 (seg:Int):Int:=64+(if Int.tmod seg 200<0 then 0-Int.tmod seg 200 else Int.tmod seg 200)
end
def gP:ByteArray:=ByteArray.mk #[120]
def gM (d:Nat):LedA:=(z2f ⟨d,gP,64,30,[]⟩ 2,⟨0,[]⟩)
def gD:DiskA:=⟨65536,-1,false,[]⟩
abbrev gA:ByteArray:=ByteArray.mk #[97]
abbrev gB:ByteArray:=ByteArray.mk #[98]
theorem g1 (d:Nat) (x:Sl):(z0v (gM d) gD (z00 0 x [z1x gA (ByteArray.mk #[49]) 0])).1=0/\za9 (gM d).2 (z0o ((z00 0 x [z1x gA (ByteArray.mk #[49]) 0]).to (z0d (gM d).1 gD (z00 0 x [z1x gA (ByteArray.mk #[49]) 0])).1.1))=true:=⟨by kernel_rfl,by kernel_rfl⟩
section
variable {d:Nat} {x1 x2 x3 x4:Sl} {S U V W:LedA × DiskA}
theorem g2 (x:Sl) (h:S=(z0v (gM d) gD (z00 0 x1 [z1x gA (ByteArray.mk #[49]) 0])).2):(z0v S.1 S.2 (z00 0 x [z1x gA (ByteArray.mk #[50]) 0])).1=0/\za9 S.1.2 (z0o ((z00 0 x [z1x gA (ByteArray.mk #[50]) 0]).to (z0d S.1.1 S.2 (z00 0 x [z1x gA (ByteArray.mk #[50]) 0])).1.1))=true/\S.1.2.l.length=1:=by subst h;exact ⟨by kernel_rfl,by kernel_rfl,by kernel_rfl⟩
theorem g3 (x:Sl) (h:S=(z0v (gM d) gD (z00 0 x1 [z1x gA (ByteArray.mk #[49]) 0])).2) (h2:U=(z0v S.1 S.2 (z00 0 x2 [z1x gA (ByteArray.mk #[50]) 0])).2):(z0v U.1 U.2 (z00 0 x [z1x gB (ByteArray.mk #[120]) 0])).1=0/\za9 U.1.2 (z0o ((z00 0 x [z1x gB (ByteArray.mk #[120]) 0]).to (z0d U.1.1 U.2 (z00 0 x [z1x gB (ByteArray.mk #[120]) 0])).1.1))=true/\U.1.2.l.length=1:=by subst h h2;exact ⟨by kernel_rfl,by kernel_rfl,by kernel_rfl⟩
theorem g4 (x:Sl) (h:S=(z0v (gM d) gD (z00 0 x1 [z1x gA (ByteArray.mk #[49]) 0])).2) (h2:U=(z0v S.1 S.2 (z00 0 x2 [z1x gA (ByteArray.mk #[50]) 0])).2) (h3:V=(z0v U.1 U.2 (z00 0 x3 [z1x gB (ByteArray.mk #[120]) 0])).2) :
  (zb2 V.1.2.l gB).isSome=true/\(z0v V.1 V.2 (z00 1 x [zn3 gB 1])).1=0/\za9 V.1.2 (z0o ((z00 1 x [zn3 gB 1]).to (z0d V.1.1 V.2 (z00 1 x [zn3 gB 1])).1.1))=true/\V.1.2.l.length=2:=by subst h h2 h3;exact ⟨by kernel_rfl,by kernel_rfl,by kernel_rfl,by kernel_rfl⟩
theorem g5 (h:S=(z0v (gM d) gD (z00 0 x1 [z1x gA (ByteArray.mk #[49]) 0])).2) (h2:U=(z0v S.1 S.2 (z00 0 x2 [z1x gA (ByteArray.mk #[50]) 0])).2) (h3:V=(z0v U.1 U.2 (z00 0 x3 [z1x gB (ByteArray.mk #[120]) 0])).2) (h4:W=(z0v V.1 V.2 (z00 1 x4 [zn3 gB 1])).2) :
  (orC (zb2 W.1.2.l gA)).r.value=ByteArray.mk #[50]/\(zb2 W.1.2.l gA).isSome=true/\zb2 W.1.2.l gB=none/\W.1.2.l.length=1/\z0df W.1=3:=by subst h h2 h3 h4;exact ⟨by kernel_rfl,by kernel_rfl,by kernel_rfl,by kernel_rfl,by kernel_rfl⟩
end
inductive Hist:List BatM->ViewA->Prop where
 | nil:Hist [] ⟨0,[],[]⟩
 | snoc {bs:List BatM} {A:ViewA} {b:BatM}:Hist bs A->z4l A b=0->Hist (bs++[b]) (z3x A b)
theorem zmp {A:ViewA} {b:BatM}:(z3x A b).next=b.base+zo b:=by
 unfold z3x;split
 ·rfl
 ·split
  ·split <;> rfl
  ·rfl
theorem zlu {bs:List BatM} {A:ViewA} (h:Hist bs A):bs.Pairwise (λa b=>a.base<b.base)/\∀ b ∈ bs,b.base<A.next:=by
 induction h with
 | nil=>exact ⟨.nil,by simp⟩
 | @snoc bs A b _ hc ih =>
  obtain ⟨hv,hb,-⟩:=z8c hc;have hs:=(z1d b hv).1;refine ⟨?_,λc hcm=>?_⟩
  ·rw [List.pairwise_append];refine ⟨ih.1,by simp,λc hcm d hd=>?_⟩;rw [List.mem_singleton.1 hd];have:=ih.2 c hcm;omega
  ·rw [zmp]
   rcases List.mem_append.1 hcm with hcm|hcm
   ·have:=ih.2 c hcm;omega
   ·rw [List.mem_singleton.1 hcm];omega
theorem z0d1 {s:Int}:∀ {bs:List BatM},bs.Pairwise (λa b=>a.base<b.base)->∃ b1 b2,bs=b1++b2/\(∀ c ∈ b1,c.base<s)/\∀ c ∈ b2,c.base>=s
 | [],_=>⟨[],[],rfl,by simp,by simp⟩
 | b::r,h=>by
  rw [List.pairwise_cons] at h
  by_cases hb:b.base<s
  ·obtain ⟨b1,b2,rfl,h1,h2⟩:=z0d1 (s:=s) h.2;refine ⟨b::b1,b2,rfl,λc hc=>?_,h2⟩
   rcases List.mem_cons.1 hc with rfl|hc
   ·exact hb
   ·exact h1 c hc
  ·refine ⟨[],b::r,rfl,by simp,λc hc=>?_⟩
   rcases List.mem_cons.1 hc with rfl|hc
   ·omega
   ·have:=h.1 c hc;omega
structure InvQ (q:ByteArray) (A:PartA) (D:DiskA) (d:Nat):Prop where
 cpl:Cpl q A.L.l D
 calm:Calm D
 pre:A.L.pre=q
 dd:A.L.d=d
 hist:Hist (z0e A.L.l) A.V
 nxt:A.V.next<=zn A.L.l
 fst:z19 A.L.l=0
theorem zqk {seg:Int} {l:List SegA} {bs:List BatM} (h:z19 l=0):z19 (z2p seg l bs).2=0:=by
 unfold z2p;split
 ·exact h
 split
 ·exact h
 show z19 (if _ then _ else _)=0
 cases l with
 | nil=>rfl
 | cons s r =>
  have hs:s.base=0:=h;split
  ·unfold z7a
   cases hq:(s::r).getLast? with
   | none=>exact h
   | some t =>
    cases r with
    | nil =>
     have:t=s:=by simpa using hq.symm
     subst this;exact hs
    | cons u r=>exact hs
  ·exact hs
theorem zok (q:ByteArray) (d n:Nat) (hn:n<=4194304) (seg gap most:Int):InvQ q (z2f ⟨d,q,seg,gap,[]⟩ most) ⟨n,-1,false,[]⟩ d :=
 ⟨zla q n hn,⟨rfl,rfl⟩,rfl,rfl,.nil,Int.le_refl _,rfl⟩
theorem zp6 {n:Int} {c:BatM} (hv:z02 (c.to n)=0):z05 n [c]=(0,[c.to n]):=by
 unfold z05;rw [if_neg (by rw [hv];simp)];rfl
theorem zho {q:ByteArray} {A:PartA} {D:DiskA} {d:Nat} (hq:z2n q=true) (b:BatM) (h:InvQ q A D d) :
  InvQ q (z0d A D b).2.1 (z0d A D b).2.2 d/\(((z0d A D b).2.1.L.l=A.L.l/\(z0d A D b).2.1.V=A.V/\((z0d A D b).1.2.2≠0\/(z0d A D b).1.2.1=true)) \/
   ∃ c,z4l A.V c=0/\z0e (z0d A D b).2.1.L.l=z0e A.L.l++[c]/\(z0d A D b).2.1.V=z3x A.V c/\c.rs=b.rs/\c=(b.to (zn A.L.l)).p/\(z0d A D b).1=(zn A.L.l,false,0)/\zn (z0d A D b).2.1.L.l=c.base+zo c):=by
 have hpre:z2n A.L.pre=true:=by rw [h.pre];exact hq
 have hcp:Cpl A.L.pre A.L.l D:=by rw [h.pre];exact h.cpl
 unfold z0d;split
 ·rename_i hn
  exact ⟨h,.inl ⟨rfl,rfl,hn⟩⟩
 rename_i hn
 have hask:(z83 A (b.to (zn A.L.l))).2=0:=Classical.byContradiction λg=>hn (.inl g)
 have hcode:z4l A.V (b.to (zn A.L.l))=0:=by
  unfold z83 at hn hask
  by_cases g:(z1k A.T (b.to (zn A.L.l))).2≠0\/(z1k A.T (b.to (zn A.L.l))).1.again=true
  ·rw [if_pos g] at hn;exact absurd g hn
  ·rw [if_neg g] at hask;exact hask
 obtain ⟨hv,hbase,-⟩:=z8c hcode
 obtain ⟨c,hc⟩:∃ c,c=b.to (zn A.L.l):=⟨_,rfl⟩
 have hcn:c.to (zn A.L.l)=c:=by rw [hc];rfl
 have hcb:c.base=zn A.L.l:=by rw [hc];rfl
 have hcr:c.rs=b.rs:=by rw [hc];rfl
 rw [<- hc] at hcode hv ⊢;have hst:=z96 A.L.seg [c] hpre hcp;have hcalm:=hst.2.2.2.2 h.calm
 have hpl:z05 (zn A.L.l) [c]=(0,[c]):=by rw [zp6 (by rw [hcn];exact hv),hcn]
 have hall:=z052 (seg:=A.L.seg) (bs:=[c]) hcp.segs (by simp) (by rw [hpl]);rw [hpl] at hall;have hfst:=zqk (seg:=A.L.seg) (bs:=[c]) h.fst;unfold zax
 rcases zit A.L.pre A.L.seg A.L.l D [c] with ⟨h1,h2⟩|⟨h1,h2,h3,h4⟩
 ·have e:(z2p A.L.seg A.L.l [c]).1=(zn A.L.l,0):=by
   unfold z2p;rw [if_neg (by simp),if_neg (by rw [hpl];simp)]
  rw [if_neg (by rw [h1,e];simp)];obtain ⟨y1,y2,y3,y4,y5⟩:=z5s hst.1;rw [if_neg (by rw [y5 hcalm];simp)]
  have e2:c.to (z0u A.L.pre A.L.seg A.L.l D [c]).1.1=c:=by rw [h1,e];exact hcn
  rw [e2]
  have hal:z0e (z0u A.L.pre A.L.seg A.L.l D [c]).2.1=z0e A.L.l++[c.p]:=by rw [h2];exact hall.1
  have hnx:zn (z0u A.L.pre A.L.seg A.L.l D [c]).2.1=c.base+zo c:=by rw [h2];exact hall.2
  have htk:(z6m A.V c).2=z3x A.V c.p:=by
   unfold z6m;rw [if_neg (by rw [hcode];simp)];rfl
  have hcp2:z4l A.V c.p=0:=hcode;refine ⟨⟨by rw [h.pre] at y1;rw [h.pre];exact y1,zdn hcalm _ _,h.pre,h.dd,?_,?_,?_⟩,.inr ⟨c.p,hcp2,hal,htk,hcr,rfl,by rw [h1,e],hnx⟩⟩
  ·show Hist (z0e (z0u A.L.pre A.L.seg A.L.l D [c]).2.1) (z6m A.V c).2;rw [hal,htk];exact .snoc h.hist hcp2
  ·show (z6m A.V c).2.next<=zn (z0u A.L.pre A.L.seg A.L.l D [c]).2.1;rw [htk,hnx,zmp];exact Int.le_refl _
  ·show z19 (z0u A.L.pre A.L.seg A.L.l D [c]).2.1=0;rw [h2];exact hfst
 ·rw [if_pos h2];refine ⟨⟨?_,hcalm,h.pre,h.dd,?_,?_,?_⟩,.inl ⟨h3,rfl,.inl h2⟩⟩
  ·have:=hst.1;rw [h.pre] at this ⊢;exact this
  ·show Hist (z0e (z0u A.L.pre A.L.seg A.L.l D [c]).2.1) A.V;rw [h3];exact h.hist
  ·show A.V.next<=zn (z0u A.L.pre A.L.seg A.L.l D [c]).2.1;rw [h3];exact h.nxt
  ·show z19 (z0u A.L.pre A.L.seg A.L.l D [c]).2.1=0;rw [h3];exact h.fst
structure InvG (q:ByteArray) (M:LedA) (D:DiskA) (d:Nat) (L:List RecM):Prop where
 q:InvQ q M.1 D d
 led:InvL M.2 L
 recs:(z16 (z0e M.1.L.l)).map (·.r)=L
 kind:∀ b ∈ z0e M.1.L.l,b.kind=0
 tn:M.2.next<=zn M.1.L.l
 nx:zn M.1.L.l=(L.length:Nat)
 len:M.2.l.length<=L.length
theorem z05y {b:BatM} {n:Int} (h0:b.base=0) (hn:0<=n/\n<=1000000) (hp:b.pid=0) (hr:b.rs.length<=1000000):z02 (b.to n)=z02 b:=by
 have e1:z4a (b.to n)↔z4a b:=by
  unfold z4a;show ((0<=b.kind/\b.kind<=3)/\(0<=n/\n<=1099511627776)/\_)↔((0<=b.kind/\b.kind<=3)/\(0<=b.base/\b.base<=1099511627776)/\_);rw [h0];constructor
  ·rintro ⟨x,-,y⟩;exact ⟨x,by omega,y⟩
  ·rintro ⟨x,-,y⟩;exact ⟨x,by omega,y⟩
 have e2:z3r (b.to n)↔z3r b:=Iff.rfl
 have hsp:zo b<=1000000:=by
  unfold zo;split <;> omega
 unfold z02;rw [show (b.to n).rs=b.rs from rfl,show zo (b.to n)=zo b from rfl,show (b.to n).base=n from rfl,show (b.to n).pid=b.pid from rfl,h0,hp]
 by_cases hc:¬ z4a b\/¬ z3r b
 ·rw [if_pos hc,if_pos (by rw [e1,e2];exact hc)]
 ·rw [if_neg hc,if_neg (by rw [e1,e2];exact hc)];split
  ·rfl
  split
  ·rfl
  rw [if_neg (by omega),if_neg (by omega)]
theorem zfl:∀ (rs:List RecM) (f base:Int) (g:Nat->RecM->AtM) (hg:∀ i r,i<1000000->(g i r).off=base+i) (k:Nat),k+rs.length<=1000000->f<=base+k->z1p f (rs.mapIdx λi r=>g (k+i) r)=true
 | [],f,base,g,hg,k,_,_=>by rw [List.mapIdx_nil];rfl
 | x::rs,f,base,g,hg,k,hk,hf=>by
  rw [List.mapIdx_cons];show (if (g (k+0) x).off<f then false else z1p ((g (k+0) x).off+1) (rs.mapIdx λi r=>g (k+(i+1)) r))=true;rw [List.length_cons] at hk;have h0:=hg (k+0) x (by omega);rw [if_neg (by rw [h0];omega)];have:=zfl rs ((g (k+0) x).off+1) base g hg (k+1) (by omega) (by rw [h0];omega)
  have e:(rs.mapIdx λi r=>g (k+(i+1)) r)=rs.mapIdx λi r=>g (k+1+i) r:=by
   congr 1;funext i r;congr 1;omega
  rw [e];exact this
theorem z7r {b:BatM} (hk:b.kind=0):z0o b=b.rs.mapIdx λi r=>atF b.base i r:=by
 unfold z0o z0i;rw [hk];rfl
theorem zw0 {b:BatM} (hk:b.kind=0):(z0o b).map (·.r)=b.rs:=by
 rw [z7r hk];apply List.ext_getElem (by simp);intro i h1 h2;simp [atF]
theorem zmi:∀ (xs:List AtM) (C:TbC),(xs.foldl z1w C).next=match xs.getLast? with|none=>C.next|some a=>a.off+1
 | [],C=>rfl
 | [x],C=>rfl
 | x::y::xs,C=>by
  rw [List.foldl_cons,zmi (y::xs),List.getLast?_cons_cons]
  have:∃ u,(y::xs).getLast? = some u:=⟨_,List.getLast?_eq_some_getLast (by simp)⟩
  obtain ⟨u,hu⟩:=this;rw [hu]
theorem zj1 {base:Int} (hb:0<=base/\base<=1099511627776) (i:Nat) (hi:i<1000000) (r:RecM):(atF base i r).off=base+i:=by
 show IntKind.wrap .i64 (base+i)=_;rw [w64 (by omega) (by omega)]
theorem zid {C:TbC} {b:BatM} (hk:b.kind=0) (hv:z02 b=0) (hn:C.next<=b.base):z2k C (z0o b)=(0,(z0o b).foldl z1w C)/\((z0o b).foldl z1w C).next<=b.base+zo b:=by
 obtain ⟨h64,-⟩:=z2x hv;have hsp:=z1d b hv;have hbase:=hsp.2.2.1.2.1
 have hspan:zo b=(b.rs.length:Nat):=by unfold zo z0i;rw [hk];rfl
 have hr:z1p C.next (z0o b)=true:=by
  rw [z7r hk];have:=zfl b.rs C.next b.base (λi r=>atF b.base i r) (λi r hi=>zj1 hbase i hi r) 0 (by omega) (by omega);simpa using this
 have hoff:∀ a ∈ z0o b,a.off<b.base+zo b:=λa ha=>by
  rw [z7r hk] at ha;obtain ⟨i,hi,rfl⟩:=List.mem_mapIdx.1 ha;rw [zj1 hbase i (by omega),hspan];omega
 have hlim:b.base+zo b<=1099511627776+1:=by
  have:=hv;unfold z02 at this;split at this
  ·cases this
  split at this
  ·cases this
  split at this
  ·rename_i h;exact absurd this h
  split at this
  ·cases this
  ·omega
 have hl:z7v (z0o b)=false:=by
  unfold z7v
  cases hq:(z0o b).getLast? with
  | none=>rfl
  | some a =>
   have:=hoff a (List.mem_of_getLast? hq);show decide (a.off>1099511627776)=false;rw [decide_eq_false (by omega)]
 refine ⟨?_,?_⟩
 ·unfold z2k;rw [if_neg (by rw [hr,hl];simp)]
 ·rw [zmi]
  cases hq:(z0o b).getLast? with
  | none=>show C.next<=_;rw [hspan];omega
  | some a =>
   have:=hoff a (List.mem_of_getLast? hq);show a.off+1<=_;omega
theorem z03o (q:ByteArray) (d n:Nat) (hn:n<=4194304) (seg gap most:Int):InvG q (z2f ⟨d,q,seg,gap,[]⟩ most,⟨0,[]⟩) ⟨n,-1,false,[]⟩ d [] :=
 ⟨zok q d n hn seg gap most,zoj 0,(by rw [z9d];rfl),(by rw [z9d];intro b hb;cases hb),(by rw [z9d];exact Int.le_refl _),(by rw [z9d];rfl),Nat.le_refl _⟩
theorem z03p {q:ByteArray} {M:LedA} {D:DiskA} {d:Nat} {L:List RecM} (hq:z2n q=true) (time:Int) (x:Sl) (rs:List RecM) (hr:rs.length<=1000) (hL:L.length<=100000) (h:InvG q M D d L) :
  (z02 (z00 time x rs)≠0/\(z0v M D (z00 time x rs)).1=z02 (z00 time x rs)/\InvG q (z0v M D (z00 time x rs)).2.1 (z0v M D (z00 time x rs)).2.2 d L/\(z0v M D (z00 time x rs)).2.1.2=M.2) \/
  (z02 (z00 time x rs)=0/\(z0v M D (z00 time x rs)).1=5/\InvG q (z0v M D (z00 time x rs)).2.1 (z0v M D (z00 time x rs)).2.2 d L/\(z0v M D (z00 time x rs)).2.1.2=M.2) \/
  (z02 (z00 time x rs)=0/\(z0v M D (z00 time x rs)).1=0/\InvG q (z0v M D (z00 time x rs)).2.1 (z0v M D (z00 time x rs)).2.2 d (L++rs)):=by
 obtain ⟨hv⟩:∃ _:Unit,True:=⟨(),trivial⟩
 have hnx:=h.nx;have hvt:=z05y (b:=z00 time x rs) (n:=zn M.1.L.l) rfl (by omega) rfl (by show rs.length<=_;omega);obtain ⟨i1,i2⟩:=zho hq (z00 time x rs) h.q
 have hask:z83 M.1 ((z00 time x rs).to (zn M.1.L.l))=(⟨false,0⟩,z02 (z00 time x rs)):=by
  have hj:z1k M.1.T ((z00 time x rs).to (zn M.1.L.l))=(⟨false,0⟩,z02 (z00 time x rs)):=by
   unfold z1k;rw [if_pos (.inr rfl),hvt]
  unfold z83;rw [hj]
  by_cases h0:z02 (z00 time x rs)≠0
  ·rw [if_pos (.inl h0)]
  ·rw [if_neg (by simp;omega)]
   have hc:z4l M.1.V ((z00 time x rs).to (zn M.1.L.l))=0:=by
    unfold z4l;rw [hvt,if_neg h0,if_neg (by have:=h.q.nxt;show ¬ zn M.1.L.l<_;omega)];rfl
   rw [hc]
   have:z02 (z00 time x rs)=0:=by omega
   rw [this]
 by_cases h0:z02 (z00 time x rs)≠0
 ·have hp:z0d M.1 D (z00 time x rs)=((0,false,z02 (z00 time x rs)),M.1,D):=by
   unfold z0d;rw [hask,if_pos (.inl h0)]
  have hl:z0v M D (z00 time x rs)=(z02 (z00 time x rs),M,D):=by
   unfold z0v;rw [hp,if_pos h0]
  rw [hl];exact .inl ⟨h0,rfl,h,rfl⟩
 have hv0:z02 (z00 time x rs)=0:=by omega
 rcases i2 with ⟨j1,j2,j3⟩|⟨c,j1,j2,j3,j4,j5,j6,j7⟩
 ·have hp:z0d M.1 D (z00 time x rs)=zax M.1 D ((z00 time x rs).to (zn M.1.L.l)):=by
   unfold z0d;rw [hask,if_neg (by simp;omega)]
  have he:(z0d M.1 D (z00 time x rs)).1.2.2=5:=by
   have hcp:Cpl M.1.L.pre M.1.L.l D:=by rw [h.q.pre];exact h.q.cpl
   have hpre:z2n M.1.L.pre=true:=by rw [h.q.pre];exact hq
   rw [hp] at j3 ⊢;unfold zax at j3 ⊢
   rcases zlw M.1.L.seg [(z00 time x rs).to (zn M.1.L.l)] hpre hcp h.q.calm with ⟨f1,f2⟩|⟨f1,-⟩
   ·exfalso;have hst:=z96 M.1.L.seg [(z00 time x rs).to (zn M.1.L.l)] hpre hcp;have hpl:z05 (zn M.1.L.l) [(z00 time x rs).to (zn M.1.L.l)]=(0,[(z00 time x rs).to (zn M.1.L.l)]):=zp6 (by rw [show ((z00 time x rs).to (zn M.1.L.l)).to (zn M.1.L.l)=(z00 time x rs).to (zn M.1.L.l) from rfl,hvt];exact hv0)
    have hra:(z2p M.1.L.seg M.1.L.l [(z00 time x rs).to (zn M.1.L.l)]).1=(zn M.1.L.l,0):=by
     unfold z2p;rw [if_neg (by simp),if_neg (by rw [hpl];simp)]
    rw [if_neg (by rw [f1,hra];simp)] at j3;obtain ⟨y1,y2,y3,y4,y5⟩:=z5s hst.1;rw [if_neg (by rw [y5 (hst.2.2.2.2 h.q.calm)];simp)] at j3
    rcases j3 with j3|j3
    ·exact j3 rfl
    ·cases j3
   ·rw [if_pos (by rw [f1];simp),f1]
  have hl:z0v M D (z00 time x rs)=(5,((z0d M.1 D (z00 time x rs)).2.1,M.2),(z0d M.1 D (z00 time x rs)).2.2):=by
   unfold z0v;rw [if_pos (by rw [he];omega),he]
  rw [hl];refine .inr (.inl ⟨hv0,rfl,⟨i1,h.led,?_,?_,?_,?_,h.len⟩,rfl⟩)
  ·show (z16 (z0e (z0d M.1 D (z00 time x rs)).2.1.L.l)).map (·.r)=L;rw [j1];exact h.recs
  ·show ∀ b ∈ z0e (z0d M.1 D (z00 time x rs)).2.1.L.l,b.kind=0;rw [j1];exact h.kind
  ·show M.2.next<=zn (z0d M.1 D (z00 time x rs)).2.1.L.l;rw [j1];exact h.tn
  ·show zn (z0d M.1 D (z00 time x rs)).2.1.L.l=_;rw [j1];exact h.nx
 ·have hcb:c.base=zn M.1.L.l:=by rw [j5];rfl
  have hck:c.kind=0:=by rw [j5];rfl
  have hcv:z02 c=0:=(z8c j1).1;have hcr:c.rs=rs:=j4
  have hspan:zo c=(rs.length:Nat):=by unfold zo z0i;rw [hck,hcr];rfl
  have hfl:z0o ((z00 time x rs).to (zn M.1.L.l))=z0o c:=by rw [j5];rfl
  obtain ⟨a1,a2⟩:=zid (C:=M.2) hck hcv (by rw [hcb];exact h.tn)
  have hl:z0v M D (z00 time x rs)=(0,((z0d M.1 D (z00 time x rs)).2.1,(z0o c).foldl z1w M.2),(z0d M.1 D (z00 time x rs)).2.2):=by
   unfold z0v;rw [if_neg (by rw [j6];simp),j6];show (0,((z0d M.1 D (z00 time x rs)).2.1,(z2k M.2 (z0o ((z00 time x rs).to (zn M.1.L.l)))).2),_)=_;rw [hfl,a1]
  rw [hl]
  have hfr:(z0o c).map (·.r)=rs:=by rw [zw0 hck,hcr]
  refine .inr (.inr ⟨hv0,rfl,⟨i1,?_,?_,?_,?_,?_,?_⟩⟩)
  ·have:=zez (z0o c) h.led;rw [hfr] at this;exact this
  ·show (z16 (z0e (z0d M.1 D (z00 time x rs)).2.1.L.l)).map (·.r)=L++rs;rw [j2];unfold z16;rw [List.flatMap_append,List.map_append];have h1:=h.recs;unfold z16 at h1;rw [h1,List.flatMap_cons,List.flatMap_nil,List.append_nil,hfr]
  ·show ∀ b ∈ z0e (z0d M.1 D (z00 time x rs)).2.1.L.l,b.kind=0;rw [j2];intro b hb
   rcases List.mem_append.1 hb with hb|hb
   ·exact h.kind b hb
   ·rw [List.mem_singleton.1 hb];exact hck
  ·show ((z0o c).foldl z1w M.2).next<=zn (z0d M.1 D (z00 time x rs)).2.1.L.l;rw [j7];exact a2
  ·show zn (z0d M.1 D (z00 time x rs)).2.1.L.l=_;rw [j7,hcb,hspan,h.nx,List.length_append];omega
  ·have h1:=zdx (z0o c) M.2;have h2:=zbw c;have h3:=h.len;rw [hcr] at h2;show ((z0o c).foldl z1w M.2).l.length<=_;rw [List.length_append];omega
def zhb (f:Int) (xs:List AtM):Int:=match xs.getLast? with
 | none=>f
 | some a=>a.off+1
theorem z02w (f:Int) (x:AtM) (xs:List AtM):zhb f (x::xs)=zhb (x.off+1) xs:=by
 unfold zhb
 cases xs with
 | nil=>rfl
 | cons y ys =>
  rw [List.getLast?_cons_cons]
  have:∃ u,(y::ys).getLast? = some u:=⟨_,List.getLast?_eq_some_getLast (by simp)⟩
  obtain ⟨u,hu⟩:=this;rw [hu]
theorem zme:∀ (xs ys:List AtM) (f:Int),z1p f xs=true->z1p (zhb f xs) ys=true->z1p f (xs++ys)=true
 | [],ys,f,_,h=>h
 | x::xs,ys,f,h1,h2=>by
  have h1:(if x.off<f then false else z1p (x.off+1) xs)=true:=h1;show (if x.off<f then false else z1p (x.off+1) (xs++ys))=true
  by_cases hx:x.off<f
  ·rw [if_pos hx] at h1;cases h1
  ·rw [if_neg hx] at h1 ⊢;rw [z02w] at h2;exact zme xs ys _ h1 h2
theorem z03e {b:BatM} (hk:b.kind=0) (hv:z02 b=0):(∀ f≤b.base,z1p f (z0o b)=true/\zhb f (z0o b)<=b.base+zo b)/\(∀ a ∈ z0o b,a.off<=1099511627776)/\b.base<=b.base+zo b:=by
 obtain ⟨h64,-⟩:=z2x hv;have hbase:=(z1d b hv).2.2.1.2.1
 have hspan:zo b=(b.rs.length:Nat):=by unfold zo z0i;rw [hk];rfl
 have hoff:∀ a ∈ z0o b,a.off<b.base+zo b:=λa ha=>by
  rw [z7r hk] at ha;obtain ⟨i,hi,rfl⟩:=List.mem_mapIdx.1 ha;rw [zj1 hbase i (by omega),hspan];omega
 have hlim:b.base+zo b<=1099511627776+1:=by
  have:=hv;unfold z02 at this;split at this
  ·cases this
  split at this
  ·cases this
  split at this
  ·rename_i h;exact absurd this h
  split at this
  ·cases this
  ·omega
 refine ⟨λf hf=>⟨?_,?_⟩,λa ha=>by have:=hoff a ha;omega,by omega⟩
 ·rw [z7r hk];have:=zfl b.rs f b.base (λi r=>atF b.base i r) (λi r hi=>zj1 hbase i hi r) 0 (by omega) (by omega);simpa using this
 ·unfold zhb
  cases hq:(z0o b).getLast? with
  | none=>show f<=_;omega
  | some a=>have:=hoff a (List.mem_of_getLast? hq);show a.off+1<=_;omega
theorem zkl:∀ (bs:List BatM) (n f:Int),z21 n bs->(∀ b ∈ bs,b.kind=0)->f<=n->z1p f (z16 bs)=true/\∀ a ∈ z16 bs,a.off<=1099511627776
 | [],n,f,_,_,_=>⟨rfl,λa ha=>by cases ha⟩
 | b::bs,n,f,h,hk,hf=>by
  obtain ⟨hv,-,hn,h2⟩:=h;obtain ⟨g1,g2,g3⟩:=z03e (hk b (List.mem_cons_self ..)) hv;obtain ⟨g4,g5⟩:=g1 f (by omega);obtain ⟨i1,i2⟩:=zkl bs (b.base+zo b) (zhb f (z0o b)) h2 (λc hc=>hk c (List.mem_cons_of_mem _ hc)) g5
  have e:z16 (b::bs)=z0o b++z16 bs:=by unfold z16;rw [List.flatMap_cons]
  rw [e];refine ⟨zme _ _ _ g4 i1,λa ha=>?_⟩
  rcases List.mem_append.1 ha with ha|ha
  ·exact g2 a ha
  ·exact i2 a ha
theorem z00q {bs:List BatM} {V:ViewA} (h:Hist bs V):bs.foldl (λV b=>(z6m V b).2) ⟨0,[],[]⟩=V:=by
 induction h with
 | nil=>rfl
 | @snoc bs A b _ hc ih =>
  rw [List.foldl_append,List.foldl_cons,List.foldl_nil,ih];unfold z6m;rw [if_neg (by rw [hc];simp)]
theorem zv7:∀ (bs:List BatM) (A:PartA),(bs.foldl z4c A).V=bs.foldl (λV b=>(z6m V b).2) A.V
 | [],A=>rfl
 | b::bs,A=>by rw [List.foldl_cons,zv7 bs];rfl
theorem zw4 {bs:List BatM} {V:ViewA} (h:Hist bs V) (hk:∀ b ∈ bs,b.kind=0):V.op=[]:=by
 induction h with
 | nil=>rfl
 | @snoc bs A b _ hc ih =>
  have h1:=ih λc hc=>hk c (List.mem_append_left _ hc);have h2:b.kind=0:=hk b (by simp);unfold z3x;rw [if_neg (by omega),if_neg (by unfold z0i;rw [h2];simp)];exact h1
theorem zj6 {A:PartA}:∀ (bs:List BatM) (n:Int),(∀ b ∈ bs,b.kind=0/\b.base<z5n A/\b.base<z5m A.V)->(z3b A true n bs).1=z16 bs
 | [],n,_=>rfl
 | b::bs,n,h=>by
  obtain ⟨h1,h2,h3⟩:=h b (List.mem_cons_self ..);rw [zup (λg=>by omega)]
  have hf:z5x A.V b=1:=by
   unfold z5x z0i;rw [h1,if_neg (by simp),if_neg (by omega),if_neg (by omega)]
  show (if (true:Bool)=false\/z5x A.V b=1 then z0o b else [])++(z3b A true (z1u b) bs).1=_;rw [if_pos (.inr hf),zj6 bs _ λc hc=>h c (List.mem_cons_of_mem _ hc)];unfold z16;rw [List.flatMap_cons]
theorem z00t {q:ByteArray} {M:LedA} {D:DiskA} {d:Nat} {L:List RecM} (h:InvG q M D d L) (hL:L.length<=100000) (seg gap most:Int) :
  z19 M.1.L.l=0/\(z2t (z2f ⟨d,q,seg,gap,M.1.L.l⟩ most) 0 1099511627776 true).1.1=z16 (z0e M.1.L.l)/\(z2f ⟨d,q,seg,gap,M.1.L.l⟩ most).V.op=[]/\InvL (z2k ⟨0,[]⟩ (z16 (z0e M.1.L.l))).2 L/\(z2k ⟨0,[]⟩ (z16 (z0e M.1.L.l))).2.l.length<=L.length/\(z16 (z0e M.1.L.l)).length=L.length:=by
 have hV:(z2f ⟨d,q,seg,gap,M.1.L.l⟩ most).V=M.1.V:=by
  unfold z2f;rw [zv7];exact z00q h.q.hist
 have hop:=zw4 h.q.hist h.kind;have hbs:=zcj (Int.le_refl 0) h.q.cpl.segs;obtain ⟨hr1,hr2⟩:=zkl (z0e M.1.L.l) 0 0 hbs h.kind (Int.le_refl _)
 have hlen:(z16 (z0e M.1.L.l)).length=L.length:=by rw [<- h.recs,List.length_map]
 have hap:z2k ⟨0,[]⟩ (z16 (z0e M.1.L.l))=(0,(z16 (z0e M.1.L.l)).foldl z1w ⟨0,[]⟩):=by
  unfold z2k
  have hl:z7v (z16 (z0e M.1.L.l))=false:=by
   unfold z7v
   cases hq:(z16 (z0e M.1.L.l)).getLast? with
   | none=>rfl
   | some a=>have:=hr2 a (List.mem_of_getLast? hq);show decide (a.off>1099511627776)=false;rw [decide_eq_false (by omega)]
  rw [if_neg (by rw [hr1,hl];simp)]
 obtain ⟨c1,c2,c3⟩:=h.q.cpl.len;refine ⟨h.q.fst,?_,by rw [hV];exact hop,?_,?_,hlen⟩
 ·have hr:z5h M.1.L.l 0 1099511627776=(0,z0e M.1.L.l):=by
   have:=zpc h.q.cpl.segs (n:=1099511627776) (by omega) (by omega)
   rwa [h.q.fst] at this
  unfold z2t;rw [z9d,hr,if_neg (by simp)]
  refine zj6 _ _ λb hb=>⟨h.kind b hb,?_,?_⟩
  ·unfold z5n;rw [hV,hop,z9d];have h1:=(zlu h.q.hist).2 b hb;have h2:=h.q.nxt;show b.base<zn M.1.L.l;omega
  ·rw [hV];unfold z5m;rw [hop];exact (zlu h.q.hist).2 b hb
 ·rw [hap];have:=zez (z16 (z0e M.1.L.l)) (zoj 0);rw [h.recs,List.nil_append] at this;exact this
 ·rw [hap];have:=zdx (z16 (z0e M.1.L.l)) ⟨0,[]⟩;rw [hlen] at this;exact Nat.le_trans this (by show 0+L.length<=_;omega)
theorem z0au {A:PartA} {D:DiskA} (b:BatM) (hp:z2n A.L.pre=true) (h:Cpl A.L.pre A.L.l D):Stp A.L.pre A.L.l D (z0d A D b).2.1.L.l (z0d A D b).2.2:=by
 unfold z0d;split
 ·exact .same h
 have h1:=z96 A.L.seg [b.to (zn A.L.l)] hp h;unfold zax;split
 ·exact h1
 split
 ·exact h1.trans (zfc h1.1)
 ·exact h1.trans (zfc h1.1)
def zd4 (q:ByteArray) (D:DiskA):Prop:=z0r D.fs (zc7 q)=none/\z0r D.fs (zc8 q)=none
theorem zd4.no {q:ByteArray} {D:DiskA} (h:zd4 q D):∀ f ∈ D.fs,f.name≠zc7 q/\f.name≠zc8 q:=λf hf=>⟨z8p.1 h.1 f hf,z8p.1 h.2 f hf⟩
theorem z030 (q:ByteArray) (n:Nat):zd4 q ⟨n,-1,false,[]⟩:=⟨rfl,rfl⟩
theorem zts {pre q t:ByteArray} (hq:z2n q=true) (ht:(bl t).all (λc=>c != 45)=true):(bl (z1n pre)).isPrefixOf (bl (q++t))=false:=by
 cases hx:(bl (z1n pre)).isPrefixOf (bl (q++t)) with
 | false=>rfl
 | true =>
  exfalso;have h1:=List.isPrefixOf_iff_prefix.1 hx
  have h2:(45:UInt8) ∈ bl (z1n pre):=by
   rw [zjx];exact List.mem_append_right _ (by decide)
  have h3:=h1.subset h2
  have e:bl (q++t)=bl q++bl t:=by unfold bl;simp
  rw [e] at h3
  rcases List.mem_append.1 h3 with h3|h3
  ·unfold z2n at hq;simp only [Bool.and_eq_true,List.all_eq_true] at hq;have:=hq.2 _ h3;revert this;decide
  ·rw [List.all_eq_true] at ht;have:=ht _ h3;revert this;decide
theorem zd4.fr {pre q:ByteArray} {D D':DiskA} (hq:z2n q=true) (h:zd4 q D) (hf:Fr pre D D'):zd4 q D' :=
 ⟨(hf.other _ (zts hq (by decide))).trans h.1,(hf.other _ (zts hq (by decide))).trans h.2⟩
def zvh (rs:List RecM):Prop:=rs.length<=6/\∀ r ∈ rs,r.key.size<=30/\r.value.size<=30
theorem z0c8 {b:BatM} (h:zvh b.rs):(z32 b).at b.x=b:=by
 have e:(b.rs.take 6).map zfn=b.rs:=by
  rw [List.take_of_length_le h.1]
  conv=>rhs;rw [<- List.map_id b.rs]
  refine List.map_congr_left λr hr=>?_;obtain ⟨h1,h2⟩:=h.2 r hr;unfold zfn zbj;rw [if_neg (by omega),if_neg (by omega)];rfl
 unfold z32 BatM.at;simp only [e]
theorem zfs (b:BatM):z02 b≠5:=by
 have hb:∀ rs:List RecM,z5d rs≠5:=by
  intro rs
  induction rs with
  | nil=>show (0:Int)≠5;omega
  | cons r rs ih =>
   show (if z20 r≠0 then z20 r else z5d rs)≠5;split
   ·unfold z20
    repeat' split
    all_goals omega
   ·exact ih
 have:=hb b.rs;unfold z02
 repeat' split
 all_goals omega
theorem z051 {A:PartA} {D:DiskA} (b:BatM) (hp:z2n A.L.pre=true) (h:Cpl A.L.pre A.L.l D) (hc:Calm D) (hb:zvh b.rs) (hf:705<=D.free) (hl:D.fs.length<128) :
  used (z0d A D b).2.2.fs<=used D.fs+705/\(z0d A D b).2.2.fs.length<=D.fs.length+1/\((z83 A (b.to (zn A.L.l))).2≠5->(z0d A D b).1.2.2≠5):=by
 unfold z0d;split
 ·exact ⟨by show used D.fs<=_;omega,by show D.fs.length<=_;omega,λh=>h⟩
 have hst:=z96 A.L.seg [b.to (zn A.L.l)] hp h;have hc2:=hst.2.2.2.2 hc;have hk:=zw7 A.L.seg (b.to (zn A.L.l)) b.x hp h hc hf hl;have e:(z32 (b.to (zn A.L.l))).at b.x=b.to (zn A.L.l):=z0c8 (b:=b.to (zn A.L.l)) hb;rw [e] at hk;obtain ⟨k1,k2,k3,k4⟩:=hk;obtain ⟨y1,y2,y3,y4,y5⟩:=z5s hst.1
 have he5:(z2p A.L.seg A.L.l [b.to (zn A.L.l)]).1.2≠5:=by
  unfold z2p;rw [if_neg (by simp)];split
  ·show (z05 (zn A.L.l) [b.to (zn A.L.l)]).1≠5;unfold z05;split
   ·exact zfs _
   ·show (if ((0:Int),([]:List BatM)).1≠0 then _ else _:Int × List BatM).1≠5;rw [if_neg (by simp)];show (0:Int)≠5;omega
  ·show (0:Int)≠5;omega
 unfold zax;split
 ·exact ⟨k3,k4,λ_=>by show (z0u A.L.pre A.L.seg A.L.l D [b.to (zn A.L.l)]).1.2≠5;rw [k1];exact he5⟩
 rw [if_neg (by rw [y5 hc2];simp)];exact ⟨by show used (z0p _ _ _).2.fs<=_;omega,by show (z0p _ _ _).2.fs.length<=_;omega,λ_=>by show (0:Int)≠5;omega⟩
section
variable {w:World} {l r r1:List HP} {a b d:Nat} {L:List RecM} {M:LedA} {D:DiskA} {q:ByteArray}
theorem z0ad (b:BatM) (hp:z2n M.1.L.pre=true) (h:Cpl M.1.L.pre M.1.L.l D):Stp M.1.L.pre M.1.L.l D (z0v M D b).2.1.1.L.l (z0v M D b).2.2:=by
 have:=z0au b hp h;unfold z0v;split
 ·exact this
 ·exact this
theorem z043 {b:BatM} (hpid:b.pid=0) (hp:z2n M.1.L.pre=true) (h:Cpl M.1.L.pre M.1.L.l D) (hc:Calm D) (hb:zvh b.rs) (hv:¬ zn M.1.L.l<M.1.V.next) (hk:b.kind=0) (hf:705<=D.free) (hl:D.fs.length<128) :
  (z0v M D b).1≠5/\used (z0v M D b).2.2.fs<=used D.fs+705/\(z0v M D b).2.2.fs.length<=D.fs.length+1:=by
 obtain ⟨h1,h2,h3⟩:=z051 b hp h hc hb hf hl
 have ha:(z83 M.1 (b.to (zn M.1.L.l))).2≠5:=by
  have hj:z1k M.1.T (b.to (zn M.1.L.l))=(⟨false,0⟩,z02 (b.to (zn M.1.L.l))):=by
   unfold z1k;rw [if_pos (.inr hpid)]
  unfold z83;rw [hj];split
  ·exact zfs _
  ·show z4l M.1.V (b.to (zn M.1.L.l))≠5;unfold z4l;split
   ·exact zfs _
   rw [if_neg (show ¬ (b.to (zn M.1.L.l)).base<M.1.V.next from hv),if_neg (show ¬ (b.to (zn M.1.L.l)).kind≠0 by show ¬ b.kind≠0;omega)];omega
 have h3:=h3 ha;unfold z0v;split
 ·exact ⟨h3,h1,h2⟩
 ·exact ⟨by show (0:Int)≠5;omega,h1,h2⟩
end
def zn4 (m:Int) (bs:List BatM):TabA:=bs.foldl (λT b=>(ze0 T b).2) ⟨m,0,[]⟩
def zn5 (bs:List BatM):ViewA:=bs.foldl (λV b=>(z6m V b).2) ⟨0,[],[]⟩
theorem zmq:∀ (bs:List BatM) (A:PartA),bs.foldl z4c A=⟨A.L,A.most,bs.foldl (λT b=>(ze0 T b).2) A.T,bs.foldl (λV b=>(z6m V b).2) A.V⟩
 | [],A=>rfl
 | b::bs,A=>by rw [List.foldl_cons,zmq bs];rfl
theorem zae (L:LogA) (m:Int):z2f L m=⟨L,m,zn4 m (z0e L.l),zn5 (z0e L.l)⟩:=zmq _ _
structure InvF (q:ByteArray) (A:PartA) (D:DiskA) (d:Nat) (seg gap most:Int):Prop where
 inv:InvQ q A D d
 form:A=z2f ⟨d,q,seg,gap,A.L.l⟩ most
theorem InvF.tab {q:ByteArray} {A:PartA} {D:DiskA} {d:Nat} {seg gap most:Int} (h:InvF q A D d seg gap most):A.T=zn4 most (z0e A.L.l)/\A.V=zn5 (z0e A.L.l)/\A.most=most/\A.L.seg=seg/\A.L.gap=gap:=by
 have hf:=h.form;rw [zae] at hf;generalize hl:A.L.l=l0 at hf ⊢;subst hf;exact ⟨rfl,rfl,rfl,rfl,rfl⟩
theorem z03m (q:ByteArray) (d n:Nat) (hn:n<=4194304) (seg gap most:Int):InvF q (z2f ⟨d,q,seg,gap,[]⟩ most) ⟨n,-1,false,[]⟩ d seg gap most :=
 ⟨zok q d n hn seg gap most,by rw [zae];rfl⟩
theorem z03n {q:ByteArray} {A:PartA} {D:DiskA} {d:Nat} {seg gap most:Int} (hq:z2n q=true) (b:BatM) (h:InvF q A D d seg gap most):InvF q (z0d A D b).2.1 (z0d A D b).2.2 d seg gap most:=by
 obtain ⟨i1,i2⟩:=zho hq b h.inv;refine ⟨i1,?_⟩;have hf:=h.form;have ht:=h.tab
 rcases i2 with ⟨j1,j2,j3⟩|⟨c,j1,j2,j3,j4,j5,j6,-⟩
 ·have e:(z0d A D b).2.1=A:=by
   have hL:∀ l',l'=A.L.l->A.log l'=A:=λl' e=>by subst e;rfl
   unfold z0d at j1 j3 ⊢;split
   ·rfl
   rename_i hno
   rw [if_neg hno] at j1 j3;unfold zax at j1 j3 ⊢;split
   ·rename_i h1
    rw [if_pos h1] at j1;exact hL _ j1
   rename_i h1
   rw [if_neg h1] at j1 j3;split
   ·rename_i h2
    rw [if_pos h2] at j1;exact hL _ j1
   rename_i h2
   rw [if_neg h2] at j3
   rcases j3 with j3|j3
   ·exact absurd rfl j3
   ·cases j3
  rw [e];exact hf
 ·have hpt:(z0d A D b).2.1=z4c (A.log (z0d A D b).2.1.L.l) c:=by
   unfold z0d at j6 ⊢;split
   ·rename_i h1
    rw [if_pos h1] at j6
    rcases h1 with h1|h1
    ·exact absurd (congrArg (λp:Int × Bool × Int=>p.2.2) j6) h1
    ·have:=congrArg (λp:Int × Bool × Int=>p.2.1) j6;simp only at this;rw [h1] at this;cases this
   rename_i h1
   rw [if_neg h1] at j6;unfold zax at j6 ⊢;split
   ·rename_i h2
    rw [if_pos h2] at j6;exact absurd (congrArg (λp:Int × Bool × Int=>p.2.2) j6) h2
   rename_i h2
   rw [if_neg h2] at j6;split
   ·rename_i h3
    rw [if_pos h3] at j6;exact absurd (congrArg (λp:Int × Bool × Int=>p.2.2) j6) h3
   rename_i h3
   rw [if_neg h3] at j6;have e:=congrArg (λp:Int × Bool × Int=>p.1) j6;simp only at e;rw [j5,e];rfl
  rw [zae,j2];rw [hpt]
  have e1:zn4 most (z0e A.L.l++[c])=(ze0 A.T c).2:=by
   rw [ht.1];unfold zn4;rw [List.foldl_append];rfl
  have e2:zn5 (z0e A.L.l++[c])=(z6m A.V c).2:=by
   rw [ht.2.1];unfold zn5;rw [List.foldl_append];rfl
  rw [e1,e2];have hd:=h.inv.dd;have hpre:=h.inv.pre;obtain ⟨-,-,t3,t4,t5⟩:=ht;show (⟨⟨A.L.d,A.L.pre,A.L.seg,A.L.gap,_⟩,A.most,_,_⟩:PartA)=⟨⟨d,q,seg,gap,_⟩,most,_,_⟩;rw [hd,hpre,t3,t4,t5];rfl
abbrev tQ:ByteArray:=ByteArray.mk #[116]
structure InvK (L:List RecM) (X:CoT):Prop where
 has:∀ r ∈ X.l,(zab L (tK r.id)).map (·.value)=some (z34 r)
 all:∀ k x,zab L k=some x->∃ r ∈ X.l,k=tK r.id
theorem zof (L:List RecM) (k v:ByteArray) (time:Int) (k':ByteArray):zab (L++[z1x k v time]) k'=if k=k' then some (z1x k v time) else zab L k':=by
 unfold zab;rw [zlx];show (if k=k' then _ else _:Option RecM).filter _=_;split
 ·rfl
 ·rfl
theorem z03t (X:CoT) (h:X.l=[]):InvK [] X:=⟨λr hr=>(by rw [h] at hr;cases hr),λk x hx=>by cases hx⟩
theorem z03u {L:List RecM} {X:CoT} {n:RowT} (hX:OkT X) (ha:z6g X (.row n)) (h:InvK L X) (now:Int):InvK (L++[z1x (tK n.id) (z34 n) now]) (X.put n):=by
 obtain ⟨h1,h2⟩:=ha;refine ⟨λr hr=>?_,λk x hx=>?_⟩
 ·rw [zof]
  rcases z85.1 hr with rfl|⟨hr,hne⟩
  ·rw [if_pos rfl];rfl
  ·have hid:n.id≠r.id:=by
    rcases h2 with ⟨r0,hr0,e1,e2⟩|⟨h2,-⟩
    ·intro e;have:=zfx hX.ids hr0 hr (e2.trans e);subst this;exact hne e1
    ·exact λe=>(h2 r hr).2 e.symm
   rw [if_neg λe=>hid (z027 e)];exact h.has r hr
 ·rw [zof] at hx;split at hx
  ·rename_i e
   exact ⟨n,z85.2 (.inl rfl),e.symm⟩
  ·rename_i hne
   obtain ⟨r,hr,e⟩:=h.all k x hx
   by_cases hp:r.pid=n.pid
   ·rcases h2 with ⟨r0,hr0,e1,e2⟩|⟨h2,-⟩
    ·have:=z9f hX.pids hr hr0 (hp.trans e1.symm);subst this;exact absurd (by rw [e,e2]) hne
    ·have:=(h2 r hr).1;omega
   ·exact ⟨r,z85.2 (.inr ⟨hr,hp⟩),e⟩
theorem z03s {L:List RecM} {X:CoT} {f:RowT->RowT} (hf:∀ r ∈ X.l,(f r).id=r.id/\z34 (f r)=z34 r) (h:InvK L X):InvK L { X with l:=X.l.map f }:=by
 refine ⟨λr hr=>?_,λk x hx=>?_⟩
 ·obtain ⟨y,hy,rfl⟩:=List.mem_map.1 hr;rw [(hf y hy).1,(hf y hy).2];exact h.has y hy
 ·obtain ⟨r,hr,e⟩:=h.all k x hx;exact ⟨f r,List.mem_map_of_mem hr,by rw [(hf r hr).1];exact e⟩
theorem z00u {L:List RecM} {X:CoT} {n:RowT} (hX:OkT X) (ha:z6g X (.owes n)) (h:InvK L X):InvK L (X.put n):=by
 obtain ⟨-,r,hr,e⟩:=ha;have hl:z4t X.l n=X.l.map λx=>if x.pid=n.pid then n else x:=z86 hr (by rw [e]);show InvK L { X with l:=z4t X.l n };rw [hl];refine z03s (λx hx=>?_) h;split
 ·rename_i hp
  have:x=r:=z9f hX.pids hx hr (by rw [hp,e]);subst this;rw [e];exact ⟨rfl,rfl⟩
 ·exact ⟨rfl,rfl⟩
theorem zx6 {T:TbC} {L:List RecM} {X:CoT} (hX:OkT X) (hT:InvL T L) (h:InvK L X):∃ rs:List RowT,rs.Perm X.l/\T.l.map (λa=>(a.r.key,a.r.value))=rs.map λr=>(tK r.id,z34 r):=by
 have hk:∀ a ∈ T.l,∃ r ∈ X.l,a.r.key=tK r.id/\a.r.value=z34 r:=λa ha=>by
  have hg:=hT.get a.r.key;rw [(zcs hT.sort).2 ⟨ha,rfl⟩] at hg;obtain ⟨r,hr,e⟩:=h.all _ _ hg.symm;refine ⟨r,hr,e,?_⟩;have:=h.has r hr;rw [<- e,<- hg] at this;simpa using this
 have hpick:∀ l:List AtM,(∀ a ∈ l,∃ r ∈ X.l,a.r.key=tK r.id/\a.r.value=z34 r)->∃ rs:List RowT,(∀ r ∈ rs,r ∈ X.l)/\l.map (λa=>(a.r.key,a.r.value))=rs.map λr=>(tK r.id,z34 r):=by
  intro l
  induction l with
  | nil=>exact λ_=>⟨[],λ_ h=>(by cases h),rfl⟩
  | cons a l ih =>
   intro h;obtain ⟨r,hr,e1,e2⟩:=h a (List.mem_cons_self ..);obtain ⟨rs,h1,h2⟩:=ih λx hx=>h x (List.mem_cons_of_mem _ hx);refine ⟨r::rs,λx hx=>?_,?_⟩
   ·rcases List.mem_cons.1 hx with rfl|hx
    ·exact hr
    ·exact h1 x hx
   ·rw [List.map_cons,List.map_cons,h2,e1,e2]
 obtain ⟨rs,h1,h2⟩:=hpick T.l hk;refine ⟨rs,?_,h2⟩
 have hkeys:T.l.map (λa=>a.r.key)=rs.map λr=>tK r.id:=by
  have:=congrArg (List.map Prod.fst) h2;rw [List.map_map,List.map_map] at this;exact this
 have hn1:(rs.map λr=>tK r.id).Nodup:=by
  rw [<- hkeys,List.Nodup,List.pairwise_map];exact hT.sort.imp λh=>zb8 h
 have hn2:rs.Nodup:=(List.pairwise_map.1 hn1).imp λh e=>h (by rw [e]);have hn3:X.l.Nodup:=(List.pairwise_map.1 hX.ids).imp λh e=>h (by rw [e])
 refine (List.perm_ext_iff_of_nodup hn2 hn3).2 λr=>⟨h1 r,λhr=>?_⟩
 have hh:=h.has r hr
 cases hx:zab L (tK r.id) with
 | none=>rw [hx] at hh;cases hh
 | some x =>
  have hin:tK r.id ∈ T.l.map (λa=>a.r.key):=(zw5 hT _).2 (by rw [hx];rfl);rw [hkeys] at hin;obtain ⟨r2,hr2,e⟩:=List.mem_map.1 hin;rw [<- zfx hX.ids (h1 r2 hr2) hr (z027 e)];exact hr2
structure InvH (q:ByteArray) (M:LedA) (D:DiskA) (d:Nat) (seg gap most:Int) (L:List RecM):Prop where
 g:InvG q M D d L
 f:InvF q M.1 D d seg gap most
 t:M.2=(z2k ⟨0,[]⟩ (z16 (z0e M.1.L.l))).2
theorem z03q (q:ByteArray) (d n:Nat) (hn:n<=4194304) (seg gap most:Int):InvH q (z2f ⟨d,q,seg,gap,[]⟩ most,⟨0,[]⟩) ⟨n,-1,false,[]⟩ d seg gap most [] :=
 ⟨z03o q d n hn seg gap most,z03m q d n hn seg gap most,by rw [zae];rfl⟩
theorem zoc {q:ByteArray} {M:LedA} {D:DiskA} {d:Nat} {L:List RecM} (h:InvG q M D d L):(z2k ⟨0,[]⟩ (z16 (z0e M.1.L.l))).2=(z16 (z0e M.1.L.l)).foldl z1w ⟨0,[]⟩:=by
 have hbs:=zcj (Int.le_refl 0) h.q.cpl.segs;obtain ⟨hr1,hr2⟩:=zkl (z0e M.1.L.l) 0 0 hbs h.kind (Int.le_refl _);unfold z2k
 have hl:z7v (z16 (z0e M.1.L.l))=false:=by
  unfold z7v
  cases hq:(z16 (z0e M.1.L.l)).getLast? with
  | none=>rfl
  | some a=>have:=hr2 a (List.mem_of_getLast? hq);show decide (a.off>1099511627776)=false;rw [decide_eq_false (by omega)]
 rw [if_neg (by rw [hr1,hl];simp)]
theorem z042 (M:LedA) (D:DiskA) (b:BatM):(z0v M D b).2.1.1=(z0d M.1 D b).2.1/\(z0v M D b).2.2=(z0d M.1 D b).2.2:=by
 unfold z0v;split <;> exact ⟨rfl,rfl⟩
theorem z03r {q:ByteArray} {M:LedA} {D:DiskA} {d:Nat} {seg gap most:Int} {L:List RecM} (hq:z2n q=true) (time:Int) (x:Sl) (rs:List RecM) (hr:1<=rs.length/\rs.length<=1000) (hL:L.length<=100000) (hv:z02 (z00 time x rs)=0) (h:InvH q M D d seg gap most L) :
  ((z0v M D (z00 time x rs)).1=5/\InvH q (z0v M D (z00 time x rs)).2.1 (z0v M D (z00 time x rs)).2.2 d seg gap most L) \/
  ((z0v M D (z00 time x rs)).1=0/\InvH q (z0v M D (z00 time x rs)).2.1 (z0v M D (z00 time x rs)).2.2 d seg gap most (L++rs)):=by
 obtain ⟨f1,f2⟩:=z042 M D (z00 time x rs)
 have hf:InvF q (z0v M D (z00 time x rs)).2.1.1 (z0v M D (z00 time x rs)).2.2 d seg gap most:=by rw [f1,f2];exact z03n hq _ h.f
 obtain ⟨i1,i2⟩:=zho hq (z00 time x rs) h.f.inv
 rcases z03p hq time x rs hr.2 hL h.g with ⟨g1,-⟩|⟨-,g2,g3,g4⟩|⟨-,g2,g3⟩
 ·exact absurd hv g1
 ·refine .inl ⟨g2,g3,hf,?_⟩;rw [g4]
  rcases i2 with ⟨j1,-,-⟩|⟨c,-,j2,-,-,-,j6,-⟩
  ·rw [f1,j1];exact h.t
  ·exfalso;have hrec:=g3.recs;rw [f1,j2] at hrec;have h0:=h.g.recs;unfold z0v at g2;rw [if_neg (by rw [j6];simp)] at g2;have g2:(0:Int)=5:=g2;omega
 ·refine .inr ⟨g2,g3,hf,?_⟩;rw [zoc g3]
  rcases i2 with ⟨j1,-,-⟩|⟨c,j1,j2,-,j4,j5,j6,-⟩
  ·exfalso;have h1:=g3.recs;rw [f1,j1,h.g.recs] at h1;have:=congrArg List.length h1;rw [List.length_append] at this;omega
  ·have hck:c.kind=0:=by rw [j5];rfl
   have hcv:z02 c=0:=(z8c j1).1
   have hcb:c.base=zn M.1.L.l:=by rw [j5];rfl
   obtain ⟨a1,-⟩:=zid (C:=M.2) hck hcv (by rw [hcb];exact h.g.tn)
   have hfl:z0o ((z00 time x rs).to (zn M.1.L.l))=z0o c:=by rw [j5];rfl
   have e1:(z0v M D (z00 time x rs)).2.1.2=(z0o c).foldl z1w M.2:=by
    unfold z0v;rw [if_neg (by rw [j6];simp),j6];show (z2k M.2 (z0o ((z00 time x rs).to (zn M.1.L.l)))).2=_;rw [hfl,a1]
   rw [e1,f1,j2];unfold z16;rw [List.flatMap_append,List.flatMap_cons,List.flatMap_nil,List.append_nil,List.foldl_append]
   congr 1
   rw [h.t,zoc h.g];rfl
def z82 (D:DiskA) (k:Nat):Prop:=used D.fs+705*k<=D.room/\D.fs.length+k<=128
theorem z82.less {D:DiskA} {k j:Nat} (h:z82 D k) (hj:j<=k):z82 D j:=⟨by have:=h.1;have:=Nat.mul_le_mul_left 705 hj;omega,by have:=h.2;omega⟩
theorem z82.free {D:DiskA} {k:Nat} (h:z82 D (k+1)):705<=D.free/\D.fs.length<128:=by
 have h1:=h.1;have h2:=h.2;unfold DiskA.free;omega
theorem z82.next {D D':DiskA} {k:Nat} (h:z82 D (k+1)) (h1:used D'.fs<=used D.fs+705) (h2:D'.fs.length<=D.fs.length+1) (h3:D'.room=D.room):z82 D' k:=by
 have h4:=h.1;have h5:=h.2;refine ⟨?_,?_⟩
 ·rw [h3];omega
 ·omega
theorem zci:∀ (k m n:Nat),0<k->n<128 ^ k->(z4o m n).length<=k
 | k,0,n,_,_=>Nat.zero_le _
 | k,m+1,n,hk,h=>by
  unfold z4o;split
  ·simp only [List.length_cons,List.length_nil];omega
  ·rename_i h1
   match k,hk,h with
   | 1,_,h=>omega
   | k+2,_,h =>
    have:=zci (k+1) m (n / 128) (by omega) (by rw [Nat.pow_succ] at h;omega);simp only [List.length_cons];omega
theorem zkr {n:Int} (h:0<=n/\n<128):(uW n).length<=1:=by
 refine zci 1 10 _ (by decide) ?_;omega
theorem z05t {n:Int} (h:0<=n/\n<=1099511627776):(uW n).length<=6:=by
 refine zci 6 10 _ (by decide) ?_
 have:(128:Nat) ^ 6=4398046511104:=by decide
 omega
theorem z00m:∀ (ps:List Int),(∀ p ∈ ps,0<=p/\p<128)->(ps.flatMap uW).length<=ps.length
 | [],_=>Nat.le_refl _
 | p::ps,h=>by
  have h1:=zkr (h p (List.mem_cons_self ..));have h2:=z00m ps λq hq=>h q (List.mem_cons_of_mem _ hq);rw [List.flatMap_cons,List.length_append,List.length_cons];omega
structure Sm (X:CoT):Prop where
 epochs:X.epochs<=100
 parts:X.parts<=5
 rows:X.rows<=5
 len:(X.l.length:Int)<=X.rows
 pids:∀ r ∈ X.l,r.pid<=(X.l.length:Nat)
theorem z56 {X:CoT} (hX:OkT X) {r:RowT} (h:OkRow X r):(r.parts.length:Int)<=X.parts:=by
 have hs:r.parts.Sublist (z24 X.parts):=by
  have e:r.parts=z8r X.parts r.parts []:=zaj h.parts (z8s _ _ _) λp=>by
   rw [z9w];exact ⟨λhp=>⟨h.range p hp,.inl hp⟩,λhp=>hp.2.elim (λh=>h) λhh=>by cases hh⟩
  rw [e];exact List.filter_sublist
 have:=hs.length_le;have:=zhd (n:=X.parts) (by have:=hX.parts;omega);omega
theorem z02g {X:CoT} (hX:OkT X) (he:X.epochs<=100) (hp:X.parts<=5) {r:RowT} (h:OkRow X r) (h1:r.pid<=100):(z7n r).length<=30:=by
 have k1:=zkr (n:=r.pid) (by have:=h.pid;omega);have k2:=zkr (n:=r.epoch) (by have:=h.epoch;omega);have k3:=z05t h.who;have k4:=zkr (n:=r.state) (by have:=h.state;omega);have k5:=z05t h.since;have k6:=z05t h.limit;have k7:=zkr (n:=r.fate) (by have:=h.fate;omega);have k8:=z56 hX h;have k9:=zkr (n:=(r.parts.length:Nat)) (by omega)
 have k10:=z00m r.parts λp hp=>by have:=h.range p hp;omega
 unfold z7n;simp only [List.length_append,List.length_cons];omega
theorem Sm.row {X:CoT} (hX:OkT X) (h:Sm X) {n:RowT} (ha:z6g X (.row n)):Sm (X.put n)/\n.pid<=100:=by
 obtain ⟨-,⟨r,hr,e1,e2⟩|⟨h2,h3,h4,h5⟩⟩:=ha
 ·have hl:(z4t X.l n).length=X.l.length:=zp8 hr e1;have hp:=h.pids r hr;have:=h.len;have:=h.rows;refine ⟨⟨h.epochs,h.parts,h.rows,by show ((z4t X.l n).length:Int)<=_;rw [hl];exact h.len,λx hx=>?_⟩,by omega⟩;show x.pid<=((z4t X.l n).length:Nat);rw [hl]
  rcases z85.1 hx with rfl|⟨hx,-⟩
  ·omega
  ·exact h.pids x hx
 ·have hl:(z4t X.l n).length=X.l.length+1:=by rw [zbe λr hr=>by have:=(h2 r hr).1;omega,List.length_append];rfl
  have hlast:z2v X.l<=(X.l.length:Nat):=by
   rcases zhr X.l 0 with e|⟨r,hr,e⟩
   ·have e:z2v X.l=0:=e;omega
   ·have e:z2v X.l=r.pid:=e;have:=h.pids r hr;omega
  have:=h.rows;refine ⟨⟨h.epochs,h.parts,h.rows,by show ((z4t X.l n).length:Int)<=X.rows;rw [hl];omega,λx hx=>?_⟩,by omega⟩;show x.pid<=((z4t X.l n).length:Nat);rw [hl]
  rcases z85.1 hx with rfl|⟨hx,-⟩
  ·omega
  ·have:=h.pids x hx;omega
theorem Sm.map {X:CoT} (h:Sm X) {f:RowT->RowT} (hf:∀ r,(f r).pid=r.pid):Sm { X with l:=X.l.map f }:=by
 refine ⟨h.epochs,h.parts,h.rows,by show ((X.l.map f).length:Int)<=_;rw [List.length_map];exact h.len,λx hx=>?_⟩;obtain ⟨y,hy,rfl⟩:=List.mem_map.1 hx;show (f y).pid<=((X.l.map f).length:Nat);rw [List.length_map,hf];exact h.pids y hy
theorem z02h {now:Int} (ht:z1h now=true) (x:Sl) {k v:ByteArray} (hk:k.size<=1024) (hv:v.size<=1024):z02 (z00 now x [z1x k v now])=0:=by
 have ht:=z4k.1 ht
 have hb:z5d [z1x k v now]=0:=by
  show (if z20 (z1x k v now)≠0 then z20 (z1x k v now) else (0:Int))=0
  have hr:z20 (z1x k v now)=0:=by
   unfold z20 z1x;simp only
   repeat' split
   all_goals first|rfl|(exfalso;simp_all;try omega)
  rw [hr];rfl
 unfold z02
 have h1:¬ (¬ z4a (z00 now x [z1x k v now])\/¬ z3r (z00 now x [z1x k v now])):=by
  intro h
  rcases h with h|h <;> apply h
  ·unfold z4a z00;simp only;refine ⟨?_,?_⟩ <;> simp <;> omega
  ·unfold z3r z00;simp;rfl
 rw [if_neg h1]
 have h2:¬ (z00 now x [z1x k v now]).rs.length>64:=by show ¬ (1:Nat)>64;omega
 rw [if_neg h2];have h3:z5d (z00 now x [z1x k v now]).rs=0:=hb;rw [if_neg (by rw [h3];simp)];rw [if_neg];show ¬ ((0:Int)>1099511627776-(zo (z00 now x [z1x k v now])-1)\/((0:Int)>0/\_));have:zo (z00 now x [z1x k v now])=1:=rfl;rw [this];omega
structure InvC (d:Nat) (M:LedA) (D:DiskA) (X:CoT) (c:Nat):Prop where
 led:∃ L,InvH tQ M D d 300 90 1 L/\InvK L X/\L.length<=c
 ok:OkT X
 sm:Sm X
 bare:zd4 tQ D
theorem zjh:z2n tQ=true:=by kernel_rfl
theorem InvC.more {d:Nat} {M:LedA} {D:DiskA} {X:CoT} {c c':Nat} (h:InvC d M D X c) (hc:c<=c'):InvC d M D X c':=by
 obtain ⟨⟨L,h1,h2,h3⟩,h4,h5,h6⟩:=h;exact ⟨⟨L,h1,h2,by omega⟩,h4,h5,h6⟩
theorem InvC.cpl {d:Nat} {M:LedA} {D:DiskA} {X:CoT} {c:Nat} (h:InvC d M D X c):Cpl M.1.L.pre M.1.L.l D/\M.1.L.d=d/\M.1.L.pre=tQ/\Calm D/\M.2.l.length<=c:=by
 obtain ⟨⟨L,h1,h2,h3⟩,-,-,-⟩:=h;exact ⟨by rw [h1.g.q.pre];exact h1.g.q.cpl,h1.g.q.dd,h1.g.q.pre,h1.g.q.calm,Nat.le_trans h1.g.len h3⟩
theorem z03l (d n:Nat) (hn:n<=4194304) {X:CoT} (hX:OkT X) (hl:X.l=[]) (he:X.epochs<=100) (hp:X.parts<=5) (hr:X.rows<=5):InvC d (z2f ⟨d,tQ,300,90,[]⟩ 1,⟨0,[]⟩) ⟨n,-1,false,[]⟩ X 0 :=
 ⟨⟨[],z03q tQ d n hn 300 90 1,z03t X hl,Nat.le_refl _⟩,hX,⟨he,hp,hr,by rw [hl];have:=hX.rows;simp;omega,λr hr=>by rw [hl] at hr;cases hr⟩,z030 tQ n⟩
abbrev recT (n:RowT) (now:Int):RecM:=z1x (tK n.id) (z34 n) now
theorem z0gx {d:Nat} {M:LedA} {D:DiskA} {X:CoT} {c:Nat} (h:InvC d M D X c) (hc:c<=10000) {n:RowT} (ha:z6g X (.row n)) {now:Int} (ht:z1h now=true) (x:Sl) :
  (((z0v M D (z00 now x [recT n now])).1=5/\InvC d (z0v M D (z00 now x [recT n now])).2.1 (z0v M D (z00 now x [recT n now])).2.2 X c) \/
  ((z0v M D (z00 now x [recT n now])).1=0/\InvC d (z0v M D (z00 now x [recT n now])).2.1 (z0v M D (z00 now x [recT n now])).2.2 (X.put n) (c+1))) /\
  ∀ k,z82 D (k+1)->(z0v M D (z00 now x [recT n now])).1≠5/\z82 (z0v M D (z00 now x [recT n now])).2.2 k:=by
 have hcpl:=h.cpl;obtain ⟨⟨L,h1,h2,h3⟩,h4,h5,h6⟩:=h;obtain ⟨s1,s2⟩:=h5.row h4 ha;have hv30:=z02g h4 h5.epochs h5.parts ha.1 s2
 have hk:(tK n.id).size<=25:=by
  have hi:=ha.1.id;simp only [idT,Bool.and_eq_true,decide_eq_true_eq] at hi;rw [<- z10,zjg,List.length_cons,z10];omega
 have hvs:(z34 n).size<=30:=by
  have e:(z34 n).size=(z7n n).length:=by rw [<- z10];unfold z34;rw [zbt]
  omega
 have hv:=z02h (k:=tK n.id) (v:=z34 n) ht x (by omega) (by omega);have hst:=z0ad (z00 now x [recT n now]) (by rw [hcpl.2.2.1];exact zjh) hcpl.1;have hb:zd4 tQ (z0v M D (z00 now x [recT n now])).2.2:=h6.fr zjh hst.2.1;constructor
 ·rcases z03r zjh now x [recT n now] (by simp) (by omega) hv h1 with ⟨g1,g2⟩|⟨g1,g2⟩
  ·exact .inl ⟨g1,⟨L,g2,h2,h3⟩,h4,h5,hb⟩
  ·exact .inr ⟨g1,⟨_,g2,z03u h4 ha h2 now,by rw [List.length_append];simp;omega⟩,zi9 h4 ha,s1,hb⟩
 ·intro k hr
  have hfew:zvh [recT n now]:=⟨by simp,λr hr=>by
   obtain rfl:=List.mem_singleton.1 hr;have e1:(recT n now).key=tK n.id:=rfl;have e2:(recT n now).value=z34 n:=rfl;rw [e1,e2]
   exact ⟨Nat.le_trans hk (by decide),hvs⟩⟩
  have hnx:¬ zn M.1.L.l<M.1.V.next:=Int.not_lt.2 h1.g.q.nxt;obtain ⟨r1,r2,r3⟩:=z043 (M:=M) (D:=D) (b:=z00 now x [recT n now]) rfl (by rw [hcpl.2.2.1];exact zjh) hcpl.1 hcpl.2.2.2.1 hfew hnx rfl hr.free.1 hr.free.2;exact ⟨r1,hr.next r2 r3 hst.2.1.room⟩
theorem InvC.owes {d:Nat} {M:LedA} {D:DiskA} {X:CoT} {c:Nat} (h:InvC d M D X c) {n:RowT} (ha:z6g X (.owes n)):InvC d M D (X.put n) c:=by
 obtain ⟨⟨L,h1,h2,h3⟩,h4,h5,h6⟩:=h;refine ⟨⟨L,h1,z00u h4 ha h2,h3⟩,zi9 h4 ha,?_,h6⟩;obtain ⟨-,r,hr,e⟩:=ha;have hl:z4t X.l n=X.l.map λx=>if x.pid=n.pid then n else x:=z86 hr (by rw [e]);show Sm { X with l:=z4t X.l n };rw [hl]
 exact h5.map λx=>by
  split
  ·rename_i h;exact h.symm
  ·rfl
end Go.Dec
