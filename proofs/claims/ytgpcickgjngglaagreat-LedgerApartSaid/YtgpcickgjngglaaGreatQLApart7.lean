/- What the claim of this folder leans on: our own texts, joined, without what it does not use. -/
import Derived.Test.YtgpcickgjngglaaGreatQLApart6
set_option linter.unusedVariables false
set_option linter.unusedSimpArgs false
namespace Go.Dec
def z5p (l:List SegA):Int:=match l.getLast? with
 | none=>0
 | some s=>s.base
def z4j (l:List SegA) (bs:List BatM):List SegA:=match l.getLast? with
 | none=>l
 | some s=>l.dropLast++[s.add bs]
def z0e (pre:ByteArray) (seg:Int) (l:List SegA) (D:DiskA) (bs:List BatM):(Int × Int) × List SegA × DiskA :=
 if bs=[] then ((0,3),l,D) else
 if (zx (zh l) bs).1≠0 then ((0,(zx (zh l) bs).1),l,D) else
 if z77 seg l ((zx (zh l) bs).2.flatMap frL).length then
  if (z09 D (zo pre (z5p l) zw) ((zx (zh l) bs).2.flatMap frL)).1≠0 then ((0,(z09 D (zo pre (z5p l) zw) ((zx (zh l) bs).2.flatMap frL)).1),l,(z09 D (zo pre (z5p l) zw) ((zx (zh l) bs).2.flatMap frL)).2)
  else ((zh l,0),z4j l (zx (zh l) bs).2,(z09 D (zo pre (z5p l) zw) ((zx (zh l) bs).2.flatMap frL)).2)
 else
  if (z0f pre l D).1≠0 then ((0,(z0f pre l D).1),l,(z0f pre l D).2) else
  if (z09 (z0f pre l D).2 (zo pre (zh l) zw) (shL (zh l) 0++(zx (zh l) bs).2.flatMap frL)).1≠0 then ((0,(z09 (z0f pre l D).2 (zo pre (zh l) zw) (shL (zh l) 0++(zx (zh l) bs).2.flatMap frL)).1),l,(z09 (z0f pre l D).2 (zo pre (zh l) zw) (shL (zh l) 0++(zx (zh l) bs).2.flatMap frL)).2)
  else ((zh l,0),l++[(⟨zh l,0,[]⟩:SegA).add (zx (zh l) bs).2],(z09 (z0f pre l D).2 (zo pre (zh l) zw) (shL (zh l) 0++(zx (zh l) bs).2.flatMap frL)).2)
def LogA.set (A:LogA) (l:List SegA):LogA:=⟨A.d,A.pre,A.seg,A.gap,l⟩
theorem z0h.next:∀ {n:Int} {l:List SegA},0<=n->z0h n l->0<=zh l/\zh l<=1099511627777
 | _,[],_,_=>⟨by decide,by decide⟩
 | n,[s],hn,⟨h1,h2,_⟩=>by
  have:=z5v h2
  have:=h2.base
  show 0<=s.reach/\s.reach<=_
  omega
 | n,s::t::l,hn,⟨h1,h2,h3⟩=>by
  have:=h2.base
  have:=z0h.next (by omega) h3
  exact this
instance:EncF z00 0 (.int .i64) (λb=>b.base):=⟨λ_=>rfl⟩
section
variable {w:World} {l r:List HP} {lg:Nat} {M:LogM} {A:LogA} {D:DiskA} {gap:Int} {a:Nat} {t:SegM}
theorem zck {SM0:List (Nat × SegM)} (h:M.SM=SM0++[(a,t)]) (hs:Sat w (lgQ lg M::l)):okM M.gap M.seg M.pre /\
  Sat w (z0q M.gap a t::pt lg (.cells #[.pointer (some ⟨M.d,0,none⟩),.string M.pre,.int .i64 M.seg,.int .i64 M.gap,.slice M.z.a M.z.len M.z.cap] T.a47)::slc T.a32 1 M.z ((SM0.map Prod.fst++[a]).flatMap z1w)::HP.all (SM0.map λt=>z0q M.gap t.1 t.2)::l):=by
 obtain ⟨hok,hs⟩:=z2y hs
 rw [h] at hs
 have h1:=(hs.pick [2]).all_perm ((List.perm_append_comm (l₁:=SM0) (l₂:=[(a,t)])).map λt=>z0q M.gap t.1 t.2)
 have h2:Sat w (z0q M.gap a t::HP.all (SM0.map λt=>z0q M.gap t.1 t.2)::_):=h1.all_cons
 rw [List.map_append] at h2
 exact ⟨hok,h2.pick [0,1,1]⟩
theorem zbe (M:LogM) {SM0:List (Nat × SegM)} (hok:okM M.gap M.seg M.pre) (hs:Sat w (z0q M.gap a t::pt lg (.cells #[.pointer (some ⟨M.d,0,none⟩),.string M.pre,.int .i64 M.seg,.int .i64 M.gap,.slice M.z.a M.z.len M.z.cap] T.a47)::slc T.a32 1 M.z ((SM0.map Prod.fst++[a]).flatMap z1w)::HP.all (SM0.map λt=>z0q M.gap t.1 t.2)::l)) :
  Sat w (lgQ lg { M with SM:=SM0++[(a,t)] }::l):=by
 have h1:Sat w (HP.all (((a,t)::SM0).map λt=>z0q M.gap t.1 t.2)::_):=(hs.pick [0,2]).all_put
 have h2:=h1.all_perm ((List.perm_append_comm (l₁:=[(a,t)]) (l₂:=SM0)).map λt=>z0q M.gap t.1 t.2)
 refine z1r { M with SM:=SM0++[(a,t)] } hok ?_
 show Sat w (pt lg _::slc T.a32 1 M.z (((SM0++[(a,t)]).map Prod.fst).flatMap z1w)::HP.all ((SM0++[(a,t)]).map λt=>z0q M.gap t.1 t.2)::l)
 rw [List.map_append]
 exact h2.pick [1,1]
theorem z3a {α:Type} {l:List α} (h:l≠[]):∃ (l0:List α) (x:α),l=l0++[x]:=⟨l.dropLast,l.getLast h,(List.dropLast_concat_getLast h).symm⟩
theorem zmo {fs:List (Sl × List UInt8)} (h:∀ p ∈ fs,FocR l p.1 1 (p.2.flatMap zk)):za5 l (fs.map Prod.fst) (fs.map Prod.snd):=zmp (fs:=fs) h
theorem okM.size {g s:Int} {p:ByteArray} (h:okM g s p):p.size<=100:=by
 have:=h.pre
 unfold z17 at this
 rw [Bool.and_eq_true,decide_eq_true_eq] at this
 omega
set_option maxHeartbeats 1000000 in
theorem zwu (x:Sl) (bs:List BatM) {r1:List HP} [hf:Fo l lgP lg A r1] [hf2:Fo r1 dk A.d D r] (hlen:A.l.length<=1000000) (hok:z0h 0 A.l) (hfl:∀ s ∈ A.l,s.file.length<=500000000) (hbl:bs.length<=900)
  (hx:FocR r x 7 (bs.flatMap z00)) (hbs:∀ b ∈ bs,FocR r b.x 4 (b.rs.flatMap zu)) (hs:Sat w l) :
  Ret P F.a110 #[.pointer (some ⟨lg,0,none⟩),x.v] w λvs w'=>vs=[.int .i64 (z0e A.pre A.seg A.l D bs).1.1,.int .i64 (z0e A.pre A.seg A.l D bs).1.2] /\
   Sat w' (lgP lg (A.set (z0e A.pre A.seg A.l D bs).2.1)::dk A.d (z0e A.pre A.seg A.l D bs).2.2::r) :=
 zo9 _ x <| by
  delta z01s AA AC AF AG AI AO AP AR AT AY Aa Ab Ac Af Ah Aj Ak Al Am An Av Aw Ay Az Ba Bb Bc Bd Be Bh
  have hs:=hs.perm (hf.perm.trans (.cons _ hf2.perm))
  clear hf hf2
  obtain ⟨M,rfl,hs⟩:=z86 hs
  have hlxs:=hs.slen x (xs:=bs) (enc:=z00)
  have hMl:M.A.l=M.l:=rfl
  have hMpre:M.A.pre=M.pre:=rfl
  have hMseg:M.A.seg=M.seg:=rfl
  have hMd:M.A.d=M.d:=rfl
  rw [hMl] at hlen hok hfl ⊢
  rw [hMpre,hMseg,hMd]
  rw [hMd] at hs
  have hll:M.l.length=M.SM.length:=List.length_map ..
  have hnx:=hok.next (Int.le_refl 0)
  have hsame:∀ {w:World} {D':DiskA},Sat w (lgQ lg M::dk M.d D'::r)->Sat w (lgP lg (M.A.set M.l)::dk M.d D'::r):=λhs=>z4p M hs
  unfold z0e
  refine z03 ?_ (by simp)
  refine zf (λh=>?_) λh=>?_
  ·have:bs=[]:=List.length_eq_zero_iff.1 (by omega)
   rw [if_pos this]
   exact ⟨rfl,rfl,hsame hs⟩
  rw [if_neg (by rintro rfl;simp at hlxs;omega)]
  have hx':FocR (dk M.d D::r) x 7 (bs.flatMap z00):=inferInstance
  refine z8 (zzy (lg:=lg) x bs (by omega) (by omega) inferInstance (λb hb=>by have:=hbs b hb;infer_instance) hs) λ_ w' hs=>?_
  have hplo:=zdk (bs:=bs) (n:=zh M.l)
  rcases hs with ⟨he,rfl,hs⟩|⟨he,z1,z2,fs,rfl,hfs,hs⟩
  ·refine zd ?_
   refine wp_lt ?_
   refine z0u ?_ he
   refine wp_lt ?_
   rw [if_pos he]
   exact ⟨rfl,rfl,hsame hs⟩
  refine zd ?_
  refine wp_lt ?_
  refine z03 ?_ (by simp)
  rw [if_neg (by rw [he];simp)]
  obtain ⟨hp1,hp2,hp3⟩:=hplo he
  have hbl0:0<bs.length:=by
   apply Nat.pos_of_ne_zero
   intro h0
   rw [h0] at hlxs
   omega
  generalize hn0:zh M.l=n0 at *
  generalize hPL:zx n0 bs=PL at *
  obtain ⟨e0,q⟩:=PL
  have he:e0=0:=he
  subst he
  dsimp only at hp1 hp2 hp3 hfs hs ⊢
  have hsum:=zq8 λb hb=>(hp2 b hb).1
  have hfsl:fs.length=q.length:=by have:=congrArg List.length hfs;simpa using this
  have hfl1:=hs.slen z2 (xs:=fs.map Prod.fst) (enc:=z0k)
  rw [List.length_map] at hfl1
  have hfget:∀ (i:Nat) (h:i<fs.length),fs[i].2=frL (q[i]'(by omega)):=λi h=>by
   have:=List.getElem_of_eq hfs (i:=i) (by rw [List.length_map];exact h)
   simpa using this
  have hfsum:∀ i,((q.take i).flatMap frL).length<=(q.flatMap frL).length:=λi=>by
   have:(q.flatMap frL)=(q.take i).flatMap frL++(q.drop i).flatMap frL:=by rw [<- List.flatMap_append,List.take_append_drop]
   rw [this,List.length_append];omega
  refine zm (λv w'=>v=(((q.flatMap frL).length:Int),())/\Sat w' (slc T.a0 7 z1 (q.flatMap z00)::slc T.a45 1 z2 ((fs.map Prod.fst).flatMap z0k)::HP.all (fs.map frP)::lgQ lg M::dk M.d D::r)) ?_ ?_
  ·refine z0c (λm v w=>∃ i:Nat,v=((((q.take i).flatMap frL).length:Int),((i:Int),()))/\i<=q.length/\q.length-i=m/\Sat w (slc T.a0 7 z1 (q.flatMap z00)::slc T.a45 1 z2 ((fs.map Prod.fst).flatMap z0k)::HP.all (fs.map frP)::lgQ lg M::dk M.d D::r)) q.length ⟨0,rfl,by omega,rfl,hs⟩ ?_
   clear hs
   rintro m _ w ⟨i,rfl,hi,hm,hs⟩
   refine zl ?_
   refine zf (λhc=>?_) λhc=>?_
   rotate_left
   ·refine zn (zg ⟨?_,hs⟩)
    rw [List.take_of_length_le (by omega)]
   have hil:i<q.length:=by omega
   have hil2:i<fs.length:=by omega
   refine z27 hs (xs:=fs.map Prod.fst) (enc:=z0k) i (by rw [List.length_map];omega) ?_
   have e1:(fs.map Prod.fst)[i]'(by rw [List.length_map];omega)=fs[i].1:=by simp
   rw [e1]
   have hR:FocR (HP.all (fs.map frP)::lgQ lg M::dk M.d D::r) fs[i].1 1 (fs[i].2.flatMap zk):=zgm (List.getElem_mem hil2)
   have hl2:=hs.slen fs[i].1 (xs:=fs[i].2) (enc:=zk)
   rw [hfget i hil2] at hl2
   have hfi:((q.take (i+1)).flatMap frL).length=((q.take i).flatMap frL).length+(frL q[i]).length:=by
    rw [List.take_succ_eq_append_getElem hil,List.flatMap_append,List.length_append];simp
   have:=hfsum (i+1)
   rw [hl2,w64 (by omega) (by omega)]
   refine wp_lt ?_
   rw [wS (i:=i) (by omega)]
   have ec:(((q.take i).flatMap frL).length:Int)+((frL q[i]).length:Nat)=(((q.take (i+1)).flatMap frL).length:Int):=by rw [hfi];omega
   rw [ec]
   exact z0z (q.length-(i+1)) ⟨i+1,rfl,by omega,rfl,hs⟩
  clear hs
  rintro _ w ⟨rfl,hs⟩
  refine zl ?_
  refine z8 (zh5 (lg:=lg) (by omega) hs) λ_ w' hs=>?_
  obtain ⟨rfl,hs⟩:=hs
  refine zd ?_
  refine z8 (z068 (lg:=lg) (q.flatMap frL).length (by omega) (by omega) (λs hs'=>by have:=hfl s hs';omega) hs) λ_ w' hs=>?_
  obtain ⟨rfl,hs⟩:=hs
  refine zd ?_
  generalize hF:q.flatMap frL=Fr at *
  have hbsl:fs.map Prod.snd=q.map frL:=hfs
  have hflat:(fs.map Prod.snd).flatten=Fr:=by rw [hfs,<- hF,List.flatMap]
  have hlbound:∀ p ∈ fs,p.2.length<=262152:=λp hp=>by
   obtain ⟨i,hi,rfl⟩:=List.mem_iff_getElem.1 hp
   rw [hfget i hi]
   have:=z5b (hp2 _ (List.getElem_mem (show i<q.length by omega))).1
   have:=z68 (hp2 _ (List.getElem_mem (show i<q.length by omega))).1
   omega
  refine zm (λv w'=>∃ (M1:LogM) (SM0:List (Nat × SegM)) (a:Nat) (t:SegM) (D1:DiskA),v=(some ⟨a,0,none⟩,())/\M1.SM=SM0++[(a,t)]/\t.s.file.length<=600000000 /\
    (if z77 M.seg M.l Fr.length then
     if (z09 D (zo M.pre (z5p M.l) zw) Fr).1≠0 then ((0,(z09 D (zo M.pre (z5p M.l) zw) Fr).1),M.l,(z09 D (zo M.pre (z5p M.l) zw) Fr).2)
     else ((n0,(0:Int)),z4j M.l q,(z09 D (zo M.pre (z5p M.l) zw) Fr).2)
    else
     if (z0f M.pre M.l D).1≠0 then ((0,(z0f M.pre M.l D).1),M.l,(z0f M.pre M.l D).2) else
     if (z09 (z0f M.pre M.l D).2 (zo M.pre n0 zw) (shL n0 0++Fr)).1≠0 then ((0,(z09 (z0f M.pre M.l D).2 (zo M.pre n0 zw) (shL n0 0++Fr)).1),M.l,(z09 (z0f M.pre M.l D).2 (zo M.pre n0 zw) (shL n0 0++Fr)).2)
     else ((n0,0),M.l++[(⟨n0,0,[]⟩:SegA).add q],(z09 (z0f M.pre M.l D).2 (zo M.pre n0 zw) (shL n0 0++Fr)).2))=((n0,0),(SM0.map λt=>t.2.s)++[t.s.add q],D1) /\
    (M1.d=M.d/\M1.pre=M.pre/\M1.seg=M.seg/\M1.gap=M.gap) /\
    Sat w' (lgQ lg M1::dk M.d D1::slc T.a0 7 z1 (q.flatMap z00)::slc T.a45 1 z2 ((fs.map Prod.fst).flatMap z0k)::HP.all (fs.map frP)::r)) ?_ ?_
  ·refine zf (λhr=>?_) λhr=>?_
   ·
    have hr:z77 M.seg M.l Fr.length=false:=by simpa using hr
    rw [if_neg (by rw [hr];simp)]
    have hs:Sat w' (lgQ lg M::slc T.a0 7 z1 (q.flatMap z00)::slc T.a45 1 z2 ((fs.map Prod.fst).flatMap z0k)::HP.all (fs.map frP)::dk M.d D::r):=hs
    refine z8 (zqt (lg:=lg) (D:=D) (by omega) hok hs) λ_ w' hs=>?_
    obtain ⟨rfl,hs⟩:=hs
    refine zd ?_
    refine wp_lt ?_
    refine zf (λh2=>?_) λh2=>?_
    ·refine wp_lt ?_
     rw [if_pos h2]
     refine zn ⟨rfl,rfl,hsame hs.sub⟩
    rw [if_neg h2]
    generalize (z0f M.pre M.l D).2=D1 at *
    refine z8 (zbf (lg:=lg) (by omega) hs) λ_ w' hs=>?_
    obtain ⟨rfl,hs⟩:=hs
    refine zd ?_
    rw [hn0]
    refine z8 (zmb (lg:=lg) n0 0 (by omega) (by omega) hs) λ_ w' hs=>?_
    obtain ⟨a,ix,rfl,hs⟩:=hs
    refine zd ?_
    have hshl:=zef n0 0
    refine zm (λv w'=>v=((z09 D1 (zo M.pre n0 zw) (shL n0 0++Fr)).1,())/\Sat w' (z0q M.gap a ⟨ix,⟨n0,0,[]⟩⟩::lgQ lg M::dk M.d (z09 D1 (zo M.pre n0 zw) (shL n0 0++Fr)).2::slc T.a0 7 z1 (q.flatMap z00)::slc T.a45 1 z2 ((fs.map Prod.fst).flatMap z0k)::HP.all (fs.map frP)::r)) ?_ ?_
    ·obtain ⟨hokm,hs⟩:=z2y (hs.pick [1])
     have hs:=z47 (hs.pick [3])
     refine z02 hs λw' hs=>?_
     refine zi ?_
     refine z0s hs ?_
     refine zi ?_
     refine zb hs ?_
     refine zi ?_
     refine z0s hs ?_
     refine z8 (z89 (lg:=lg) n0 (by omega) (ByteArray.mk #[46,108,111,103]) (by decide) M.pre hokm.size hs) λ_ w' hs=>?_
     obtain ⟨rfl,hs⟩:=hs
     refine zd ?_ (by first|trivial|(repeat (first|exact trivial|exact λ_=>z07 hs|exact λ_=>z0d hs|refine And.intro ?_ ?_)))
     refine z8 (zlx n0 0 (by omega) (by omega) hs) λ_ w' hs=>?_
     obtain ⟨y,rfl,hs⟩:=hs
     refine zd ?_ (by first|trivial|(repeat (first|exact trivial|exact λ_=>z07 hs|exact λ_=>z0d hs|refine And.intro ?_ ?_)))
     refine z61 hs (enc:=z0k) [y] λy2 w' hs=>⟨(by first|trivial|(repeat (first|exact trivial|exact λ_=>z07 hs|exact λ_=>z0d hs|refine And.intro ?_ ?_))),?_⟩
     refine z05g (xs:=[y]) (ys:=fs.map Prod.fst) (enc:=z0k) hs (λy3 w' hs=>⟨(by first|trivial|(repeat (first|exact trivial|exact λ_=>z07 hs|exact λ_=>z0d hs|refine And.intro ?_ ?_))),?_⟩) (by rw [List.length_map];simp only [List.length_cons,List.length_nil];omega)
     refine ze ?_
     have hs:Sat w' (dk M.d D1::slc T.a45 1 y3 (([y]++fs.map Prod.fst).flatMap z0k)::slc T.a52 1 y ((shL n0 0).flatMap zk)::HP.all (fs.map frP)::pt a (.cells #[.pointer (some ⟨ix,0,none⟩),.int .i64 n0,.int .i64 0,.int .i64 (z0i []),.int .i64 (z1i (-1) []),.int .i64 ((SegA.file ⟨n0,0,[]⟩).length:Nat)] T.a48)::z2j ix ((SegA.mk n0 0 []).idx M.gap)::pt lg (.cells #[.pointer (some ⟨M.d,0,none⟩),.string M.pre,.int .i64 M.seg,.int .i64 M.gap,.slice M.z.a M.z.len M.z.cap] T.a47)::slc T.a32 1 M.z ((M.SM.map Prod.fst).flatMap z1w)::HP.all (M.SM.map λt=>z0q M.gap t.1 t.2)::slc T.a0 7 z1 (q.flatMap z00)::slc T.a45 1 z2 ((fs.map Prod.fst).flatMap z0k)::r):=hs.sub
     have hall:∀ p ∈ ((y,shL n0 0)::fs),FocR (slc T.a45 1 y3 (([y]++fs.map Prod.fst).flatMap z0k)::slc T.a52 1 y ((shL n0 0).flatMap zk)::HP.all (fs.map frP)::pt a (.cells #[.pointer (some ⟨ix,0,none⟩),.int .i64 n0,.int .i64 0,.int .i64 (z0i []),.int .i64 (z1i (-1) []),.int .i64 ((SegA.file ⟨n0,0,[]⟩).length:Nat)] T.a48)::z2j ix ((SegA.mk n0 0 []).idx M.gap)::pt lg (.cells #[.pointer (some ⟨M.d,0,none⟩),.string M.pre,.int .i64 M.seg,.int .i64 M.gap,.slice M.z.a M.z.len M.z.cap] T.a47)::slc T.a32 1 M.z ((M.SM.map Prod.fst).flatMap z1w)::HP.all (M.SM.map λt=>z0q M.gap t.1 t.2)::slc T.a0 7 z1 (q.flatMap z00)::slc T.a45 1 z2 ((fs.map Prod.fst).flatMap z0k)::r) p.1 1 (p.2.flatMap zk):=λp hp=>by
      rcases List.mem_cons.1 hp with rfl|hp
      ·infer_instance
      ·have:FocR (HP.all (fs.map frP)::pt a (.cells #[.pointer (some ⟨ix,0,none⟩),.int .i64 n0,.int .i64 0,.int .i64 (z0i []),.int .i64 (z1i (-1) []),.int .i64 ((SegA.file ⟨n0,0,[]⟩).length:Nat)] T.a48)::z2j ix ((SegA.mk n0 0 []).idx M.gap)::pt lg (.cells #[.pointer (some ⟨M.d,0,none⟩),.string M.pre,.int .i64 M.seg,.int .i64 M.gap,.slice M.z.a M.z.len M.z.cap] T.a47)::slc T.a32 1 M.z ((M.SM.map Prod.fst).flatMap z1w)::HP.all (M.SM.map λt=>z0q M.gap t.1 t.2)::slc T.a0 7 z1 (q.flatMap z00)::slc T.a45 1 z2 ((fs.map Prod.fst).flatMap z0k)::r) p.1 1 (p.2.flatMap zk):=zgm hp
       infer_instance
     have hpsF:FocR (slc T.a45 1 y3 (([y]++fs.map Prod.fst).flatMap z0k)::slc T.a52 1 y ((shL n0 0).flatMap zk)::HP.all (fs.map frP)::pt a (.cells #[.pointer (some ⟨ix,0,none⟩),.int .i64 n0,.int .i64 0,.int .i64 (z0i []),.int .i64 (z1i (-1) []),.int .i64 ((SegA.file ⟨n0,0,[]⟩).length:Nat)] T.a48)::z2j ix ((SegA.mk n0 0 []).idx M.gap)::pt lg (.cells #[.pointer (some ⟨M.d,0,none⟩),.string M.pre,.int .i64 M.seg,.int .i64 M.gap,.slice M.z.a M.z.len M.z.cap] T.a47)::slc T.a32 1 M.z ((M.SM.map Prod.fst).flatMap z1w)::HP.all (M.SM.map λt=>z0q M.gap t.1 t.2)::slc T.a0 7 z1 (q.flatMap z00)::slc T.a45 1 z2 ((fs.map Prod.fst).flatMap z0k)::r) y3 1 ((((y,shL n0 0)::fs).map Prod.fst).flatMap zfq):=(inferInstance:FocR _ y3 1 (([y]++fs.map Prod.fst).flatMap z0k))
     refine z8 (zl9 (d:=M.d) (A:=D1) (zo M.pre n0 (bl (ByteArray.mk #[46,108,111,103]))) y3 (((y,shL n0 0)::fs).map Prod.fst) (((y,shL n0 0)::fs).map Prod.snd) (hps:=hpsF) (zmo hall) (by simp only [List.length_map,List.length_cons];omega) (λb hb=>?_) hs) λ_ w' hs=>?_
     ·obtain ⟨p,hp,rfl⟩:=List.mem_map.1 hb
      rcases List.mem_cons.1 hp with rfl|hp
      ·show (shL n0 0).length<=_;omega
      ·have:=hlbound p hp;omega
     obtain ⟨rfl,hs⟩:=hs
     refine zd ?_
     refine wp_lt ?_
     refine ze ?_
     have e2:(((y,shL n0 0)::fs).map Prod.snd).flatten=shL n0 0++Fr:=by rw [List.map_cons,List.flatten_cons,hflat]
     rw [e2] at hs ⊢
     refine zg ⟨rfl,?_⟩
     have hs:Sat w' (dk M.d (z09 D1 (zo M.pre n0 zw) (shL n0 0++Fr)).2::slc T.a45 1 y3 _::slc T.a52 1 y _::HP.all (fs.map frP)::pt a _::z2j ix _::pt lg _::slc T.a32 1 M.z _::HP.all (M.SM.map λt=>z0q M.gap t.1 t.2)::slc T.a0 7 z1 (q.flatMap z00)::slc T.a45 1 z2 ((fs.map Prod.fst).flatMap z0k)::r):=hs
     have hs:=z1r M hokm (hs.pick [6,6,6])
     have hs:Sat w' (z0q M.gap a ⟨ix,⟨n0,0,[]⟩⟩::lgQ lg M::dk M.d _::slc T.a45 1 y3 _::slc T.a52 1 y _::HP.all (fs.map frP)::slc T.a0 7 z1 (q.flatMap z00)::slc T.a45 1 z2 ((fs.map Prod.fst).flatMap z0k)::r):=z2u ⟨ix,⟨n0,0,[]⟩⟩ (hs.pick [5,5])
     exact hs.sub
    rintro _ w2 ⟨rfl,hs⟩
    refine zf (λh3=>?_) λh3=>?_
    ·refine wp_lt ?_
     rw [if_pos h3]
     refine zn ⟨rfl,rfl,hsame hs.sub⟩
    rw [if_neg h3]
    have hs:=hs.pick [1]
    refine z8 (z01c (lg:=lg) a ⟨ix,⟨n0,0,[]⟩⟩ (by omega) hs) λ_ w' hs=>?_
    obtain ⟨z,rfl,hs⟩:=hs
    refine zd ?_
    refine zg ⟨{ M with z:=z,SM:=M.SM++[(a,⟨ix,⟨n0,0,[]⟩⟩)] },M.SM,a,⟨ix,⟨n0,0,[]⟩⟩,(z09 D1 (zo M.pre n0 zw) (shL n0 0++Fr)).2,rfl,rfl,?_,rfl,⟨rfl,rfl,rfl,rfl⟩,hs⟩
    rw [z2r]
    simp only [List.flatMap_nil,List.length_nil]
    omega
   ·
    have hr:z77 M.seg M.l Fr.length=true:=by simpa using hr
    rw [if_pos hr]
    have h0:M.SM≠[]:=by
     intro h0
     have:M.l=[]:=by unfold LogM.l;rw [h0];rfl
     rw [this] at hr
     cases hr
    obtain ⟨SM0,⟨a,t⟩,hSM⟩:=z3a h0
    have hl1:M.l=SM0.map (λt=>t.2.s)++[t.s]:=by unfold LogM.l;rw [hSM];simp
    have hbase:z5p M.l=t.s.base:=by unfold z5p;rw [hl1,z20]
    have hadd:z4j M.l q=SM0.map (λt=>t.2.s)++[t.s.add q]:=by unfold z4j;rw [hl1,z20];simp
    have hlst:M.SM.getLast? = some (a,t):=by rw [hSM,z20]
    rw [hlst]
    have htm:t.s ∈ M.l:=by rw [hl1];simp
    have htb:=(hok.mem _ htm).1.base
    have htf:=hfl _ htm
    refine zm (λv w'=>v=((z09 D (zo M.pre (z5p M.l) zw) Fr).1,())/\Sat w' (lgQ lg M::dk M.d (z09 D (zo M.pre (z5p M.l) zw) Fr).2::slc T.a0 7 z1 (q.flatMap z00)::slc T.a45 1 z2 ((fs.map Prod.fst).flatMap z0k)::HP.all (fs.map frP)::r)) ?_ ?_
    ·obtain ⟨hokm,hs⟩:=zck hSM hs
     have hs:=z47 hs
     refine z02 hs λw' hs=>?_
     refine zi ?_
     refine z0s hs ?_
     refine zi ?_
     refine zb hs ?_
     refine z8 (z89 (lg:=lg) t.s.base (by omega) (ByteArray.mk #[46,108,111,103]) (by decide) M.pre hokm.size hs) λ_ w' hs=>?_
     obtain ⟨rfl,hs⟩:=hs
     refine zd ?_ (by first|trivial|(repeat (first|exact trivial|exact λ_=>z07 hs|exact λ_=>z0d hs|refine And.intro ?_ ?_)))
     refine ze ?_
     have hs:=hs.pick [8]
     have hall:∀ p ∈ fs,FocR (pt a (.cells #[.pointer (some ⟨t.ix,0,none⟩),.int .i64 t.s.base,.int .i64 t.s.fin,.int .i64 (z0i t.s.bs),.int .i64 (z1i (-1) t.s.bs),.int .i64 (t.s.file.length:Nat)] T.a48)::z2j t.ix (t.s.idx M.gap)::pt lg (.cells #[.pointer (some ⟨M.d,0,none⟩),.string M.pre,.int .i64 M.seg,.int .i64 M.gap,.slice M.z.a M.z.len M.z.cap] T.a47)::slc T.a32 1 M.z ((SM0.map Prod.fst++[a]).flatMap z1w)::HP.all (SM0.map λt=>z0q M.gap t.1 t.2)::slc T.a0 7 z1 (q.flatMap z00)::slc T.a45 1 z2 ((fs.map Prod.fst).flatMap z0k)::HP.all (fs.map frP)::r) p.1 1 (p.2.flatMap zk):=λp hp=>by
      have:FocR (HP.all (fs.map frP)::r) p.1 1 (p.2.flatMap zk):=zgm hp
      infer_instance
     have hpsF:FocR (pt a (.cells #[.pointer (some ⟨t.ix,0,none⟩),.int .i64 t.s.base,.int .i64 t.s.fin,.int .i64 (z0i t.s.bs),.int .i64 (z1i (-1) t.s.bs),.int .i64 (t.s.file.length:Nat)] T.a48)::z2j t.ix (t.s.idx M.gap)::pt lg (.cells #[.pointer (some ⟨M.d,0,none⟩),.string M.pre,.int .i64 M.seg,.int .i64 M.gap,.slice M.z.a M.z.len M.z.cap] T.a47)::slc T.a32 1 M.z ((SM0.map Prod.fst++[a]).flatMap z1w)::HP.all (SM0.map λt=>z0q M.gap t.1 t.2)::slc T.a0 7 z1 (q.flatMap z00)::slc T.a45 1 z2 ((fs.map Prod.fst).flatMap z0k)::HP.all (fs.map frP)::r) z2 1 ((fs.map Prod.fst).flatMap zfq):=(inferInstance:FocR _ z2 1 ((fs.map Prod.fst).flatMap z0k))
     refine z8 (zl9 (d:=M.d) (A:=D) (zo M.pre t.s.base (bl (ByteArray.mk #[46,108,111,103]))) z2 (fs.map Prod.fst) (fs.map Prod.snd) (hps:=hpsF) (zmo hall) (by simp only [List.length_map];omega) (λb hb=>?_) hs) λ_ w' hs=>?_
     ·obtain ⟨p,hp,rfl⟩:=List.mem_map.1 hb
      have:=hlbound p hp;omega
     obtain ⟨rfl,hs⟩:=hs
     refine zd ?_
     refine wp_lt ?_
     refine ze ?_
     rw [hflat] at hs ⊢
     refine zg ⟨by rw [hbase];rfl,?_⟩
     rw [hbase]
     have hs:Sat w' (dk M.d (z09 D (zo M.pre t.s.base zw) Fr).2::pt a _::z2j t.ix _::pt lg _::slc T.a32 1 M.z _::HP.all (SM0.map λt=>z0q M.gap t.1 t.2)::slc T.a0 7 z1 (q.flatMap z00)::slc T.a45 1 z2 ((fs.map Prod.fst).flatMap z0k)::HP.all (fs.map frP)::r):=hs
     have hs:=zbe M hokm (z2u t (hs.pick [1,1]) |>.pick [0,1,1,1])
     have e:{ M with SM:=SM0++[(a,t)] }=M:=by rw [<- hSM]
     rw [e] at hs
     exact hs.sub
    rintro _ w2 ⟨rfl,hs⟩
    refine zf (λh3=>?_) λh3=>?_
    ·refine wp_lt ?_
     rw [if_pos h3]
     refine zn ⟨rfl,rfl,hsame hs.sub⟩
    rw [if_neg h3]
    refine zg ⟨M,SM0,a,t,(z09 D (zo M.pre (z5p M.l) zw) Fr).2,rfl,hSM,by omega,by rw [hadd],⟨rfl,rfl,rfl,rfl⟩,hs⟩
  rintro _ w2 ⟨M1,SM0,a,t,D1,rfl,hSM,htl,hres,⟨hd1,hd2,hd3,hd4⟩,hs⟩
  clear hsame
  rw [hres]
  obtain ⟨hokm,hs⟩:=zck hSM hs
  have hF2:∀ i,((q.take i).flatMap frL).length<=Fr.length:=hfsum
  have hlq:=hs.slen z1 (xs:=q) (enc:=z00)
  refine zm (λ_ w'=>Sat w' (z0q M1.gap a ⟨t.ix,t.s.add q⟩::pt lg (.cells #[.pointer (some ⟨M1.d,0,none⟩),.string M1.pre,.int .i64 M1.seg,.int .i64 M1.gap,.slice M1.z.a M1.z.len M1.z.cap] T.a47)::slc T.a32 1 M1.z ((SM0.map Prod.fst++[a]).flatMap z1w)::HP.all (SM0.map λt=>z0q M1.gap t.1 t.2)::dk M.d D1::slc T.a0 7 z1 (q.flatMap z00)::slc T.a45 1 z2 ((fs.map Prod.fst).flatMap z0k)::HP.all (fs.map frP)::r)) ?_ ?_
  ·refine z0c (λm v w=>∃ i:Nat,v=((i:Int),())/\i<=q.length/\q.length-i=m/\Sat w (z0q M1.gap a ⟨t.ix,t.s.add (q.take i)⟩::pt lg (.cells #[.pointer (some ⟨M1.d,0,none⟩),.string M1.pre,.int .i64 M1.seg,.int .i64 M1.gap,.slice M1.z.a M1.z.len M1.z.cap] T.a47)::slc T.a32 1 M1.z ((SM0.map Prod.fst++[a]).flatMap z1w)::HP.all (SM0.map λt=>z0q M1.gap t.1 t.2)::dk M.d D1::slc T.a0 7 z1 (q.flatMap z00)::slc T.a45 1 z2 ((fs.map Prod.fst).flatMap z0k)::HP.all (fs.map frP)::r)) q.length ⟨0,rfl,by omega,rfl,by rw [List.take_zero,zhz];exact hs⟩ ?_
   clear hs
   rintro m _ w ⟨i,rfl,hi,hm,hs⟩
   refine zl ?_
   refine zf (λhc=>?_) λhc=>?_
   rotate_left
   ·refine zn (zg ?_)
    rwa [List.take_of_length_le (by omega)] at hs
   have hil:i<q.length:=by omega
   have hil2:i<fs.length:=by omega
   refine z2v hs (xs:=q) (enc:=z00) i hil ?_
   refine zt hs λc w' hs=>?_
   refine wp_lt ?_
   refine zv hs λw' hs=>?_
   refine z02 hs λw' hs=>?_
   refine zj hs ?_
   refine z27 hs (xs:=fs.map Prod.fst) (enc:=z0k) i (by rw [List.length_map];omega) ?_
   have e1:(fs.map Prod.fst)[i]'(by rw [List.length_map];omega)=fs[i].1:=by simp
   rw [e1]
   have hR:FocR (HP.all (fs.map frP)::r) fs[i].1 1 (fs[i].2.flatMap zk):=zgm (List.getElem_mem hil2)
   have hl2:=hs.slen fs[i].1 (xs:=fs[i].2) (enc:=zk)
   rw [hfget i hil2] at hl2
   rw [hl2]
   obtain ⟨hvq,c0,hc0,hcx,hcr⟩:=hp2 q[i] (List.getElem_mem hil)
   have hRb:FocR r q[i].x 4 (q[i].rs.flatMap zu):=by rw [hcx,hcr];exact hbs c0 hc0
   have hfi:((q.take (i+1)).flatMap frL).length=((q.take i).flatMap frL).length+(frL q[i]).length:=by
    rw [List.take_succ_eq_append_getElem hil,List.flatMap_append,List.length_append];simp
   have:=hF2 (i+1)
   refine z8 (zxs (gap:=M1.gap) (a:=a) q[i] hvq (by show (t.s.add (q.take i)).file.length+_<=_;rw [z7b,List.length_append];omega) hs) λ_ w' hs=>?_
   obtain ⟨rfl,hs⟩:=hs
   refine zd ?_
   refine ze ?_
   rw [wS (i:=i) (by omega)]
   refine z0z (q.length-(i+1)) ⟨i+1,rfl,by omega,rfl,?_⟩
   have e2:(t.s.add (q.take i)).add [q[i]]=t.s.add (q.take (i+1)):=by rw [add_add,List.take_succ_eq_append_getElem hil]
   have hs:Sat w' (z0q M1.gap a ⟨t.ix,(t.s.add (q.take i)).add [q[i]]⟩::_):=hs
   rw [e2] at hs
   exact hs.sub
  clear hs
  rintro _ w3 hs
  refine zl ?_
  refine z05i hs (xs:=q) (enc:=z00) 0 (by omega) ?_
  refine wp_lt ?_
  have hq0:(q[0]'(by omega)).base=n0:=hp3 _ (by rw [List.head?_eq_getElem?,List.getElem?_eq_getElem])
  rw [hq0]
  refine ⟨rfl,rfl,?_⟩
  have hs:=z4p _ (zbe M1 hokm hs)
  have eA:LogM.A { M1 with SM:=SM0++[(a,(⟨t.ix,t.s.add q⟩:SegM))] }=M.A.set ((SM0.map λt=>t.2.s)++[t.s.add q]):=by
   unfold LogM.A LogM.l LogA.set
   simp only [List.map_append,List.map_cons,List.map_nil,hd1,hd2,hd3,hd4]
  rw [eA] at hs
  exact hs.sub
end
def z35 (s:SegA) (k:Nat):Nat:=(shL s.base s.fin).length+((s.bs.take k).flatMap frL).length
def z04 (l:List SegA):List BatM:=l.flatMap SegA.bs
def z58 (l:List SegA) (off most:Int):Int × List BatM:=if most<1 then (2,[]) else if off<z14 l\/off>zh l then (8,[]) else (0,((z04 l).filterMap (z0t off)).take most.toNat)
def zxa (s:SegA) (o:Option EntA):Int:=match o with
 | none=>((shL s.base s.fin).length:Int)
 | some e=>e.place
theorem zxb (s:SegA):z35 s 0=(shL s.base s.fin).length:=by simp [z35]
theorem z001 (s:SegA):z35 s s.bs.length=s.file.length:=by unfold z35;rw [List.take_length,z2r]
theorem zk0 (s:SegA) {k:Nat} (hk:k<s.bs.length):z35 s (k+1)=z35 s k+(frL s.bs[k]).length:=by
 unfold z35
 rw [List.take_succ_eq_append_getElem hk,List.flatMap_append,List.length_append]
 simp
 omega
theorem zim (s:SegA) (k:Nat):z35 s k<=s.file.length:=by
 unfold z35
 rw [z2r]
 have:(s.bs.flatMap frL)=(s.bs.take k).flatMap frL++(s.bs.drop k).flatMap frL:=by rw [<- List.flatMap_append,List.take_append_drop]
 rw [this,List.length_append];omega
theorem zwd (s:SegA) (k:Nat):s.file.drop (z35 s k)=(s.bs.drop k).flatMap frL:=by
 have e:s.file=(shL s.base s.fin++(s.bs.take k).flatMap frL)++(s.bs.drop k).flatMap frL:=by
  unfold SegA.file
  rw [List.append_assoc,<- List.flatMap_append,List.take_append_drop]
 rw [e]
 exact List.drop_left' (by rw [List.length_append];rfl)
theorem zsf {s:SegA} (h:SegOk s) {k:Nat} (hk:k<s.bs.length):z12 (s.file.drop (z35 s k))=some (z2p s.bs[k],(frL s.bs[k]).length)/\z6a (z2p s.bs[k])=some s.bs[k]:=by
 obtain ⟨hv,hp⟩:=h.bs.valid s.bs[k] (List.getElem_mem hk)
 have hl:=z68 hv
 have hf:=z5b hv
 refine ⟨?_,by rw [zj6 hv,hp]⟩
 rw [zwd,List.drop_eq_getElem_cons hk,List.flatMap_cons,hf.2]
 exact z6v hl.2 _
theorem z1p.lt:∀ {n:Int} {bs:List BatM},z1p n bs->∀ (j i:Nat) (hi:i<bs.length) (hj:j<i),n<=(bs[j]'(by omega)).base/\(bs[j]'(by omega)).base+zp (bs[j]'(by omega))<=bs[i].base
 | n,b::bs,⟨h1,h2,h3,h4⟩,0,i+1,hi,hj=>by
  refine ⟨h3,?_⟩
  simp only [List.getElem_cons_zero,List.getElem_cons_succ]
  have hi:i<bs.length:=by simpa using hi
  obtain ⟨s1,-,-,-,-⟩:=z15 b h1
  cases i with
  | zero =>
   cases bs with
   | nil=>simp at hi
   | cons c cs=>exact h4.2.2.1
  | succ i =>
   have:=(h4.lt 0 (i+1) hi (by omega)).1
   have h5:=(h4.lt 0 (i+1) hi (by omega)).2
   obtain ⟨s2,-,-,-,-⟩:=z15 _ (h4.valid _ (List.getElem_mem (show 0<bs.length by omega))).1
   omega
 | n,b::bs,⟨h1,h2,h3,h4⟩,j+1,i+1,hi,hj=>by
  simp only [List.getElem_cons_succ]
  have hi:i<bs.length:=by simpa using hi
  have:=h4.lt j i hi (by omega)
  obtain ⟨s1,-,-,-,-⟩:=z15 b h1
  exact ⟨by omega,this.2⟩
theorem z1p.le_next {n:Int} {bs:List BatM} (h:z1p n bs) {b:BatM} (hb:b ∈ bs):b.base+zp b<=z0i bs:=by
 obtain ⟨j,hj,rfl⟩:=List.mem_iff_getElem.1 hb
 have hne:bs≠[]:=by rintro rfl;simp at hj
 have e:z0i bs=(bs[bs.length-1]'(by omega)).base+zp (bs[bs.length-1]'(by omega)):=by
  unfold z0i
  rw [List.getLast?_eq_getElem?,List.getElem?_eq_getElem (by omega)]
 rw [e]
 by_cases hjl:j=bs.length-1
 ·subst hjl;exact Int.le_refl _
 ·have:=(h.lt j (bs.length-1) (by omega) (by omega)).2
  obtain ⟨s1,-,-,-,-⟩:=z15 _ (h.valid _ (List.getElem_mem (show bs.length-1<bs.length by omega))).1
  omega
theorem zh1 {off:Int} {b:BatM} (hv:zy b=0) (h:b.base+zp b<=off):z0t off b=none:=by
 unfold z0t
 rw [if_pos (.inr (by unfold z1s;rw [if_neg (by rw [hv];simp)];exact h))]
theorem zqf {off:Int} {b c:BatM} (hp:b.p=b) (h:z0t off b=some c):c.p=c:=by
 have hx:b.x=z8b:=by rw [<- hp];rfl
 unfold z0t at h
 split at h
 ·cases h
 ·split at h
  ·simp only [Option.some.injEq] at h;subst h;exact hp
  ·simp only [Option.some.injEq] at h;subst h;unfold zku BatM.p;simp only [hx];rfl
theorem zb7 {α β:Type} {f:α->Option β} {l:List α} (h:∀ x ∈ l,f x=none):l.filterMap f=[]:=by
 rw [List.filterMap_eq_nil_iff];exact h
theorem zwg {s:SegA} (h:SegOk s) (hl:s.file.length<=4194304) (gap off:Int):∃ k,k<=s.bs.length/\zxa s (z3b (s.idx gap).l off)=((z35 s k:Nat):Int)/\∀ b ∈ s.bs.take k,b.base+zp b<=off:=by
 have hi:=zlz gap s.bs.length (n:=s.base) (q:=(shL s.base s.fin).length) rfl h.base.1 (by omega) h.bs (by have:=z2r s;omega)
 cases hf:z3b (s.idx gap).l off with
 | none=>exact ⟨0,Nat.zero_le _,by rw [zxb];rfl,by simp⟩
 | some e =>
  unfold z3b at hf
  obtain ⟨a,c,hac,he,-⟩:=znn hf
  have he:e.offset<=off:=by simpa using he
  obtain ⟨i,hil,hie⟩:=hi.ent e (by show e ∈ (s.idx gap).l;rw [hac];simp)
  refine ⟨i,by omega,?_,λb hb=>?_⟩
  ·show e.place=_
   rw [hie]
   unfold z35
   simp only
   omega
  ·obtain ⟨j,hj,rfl⟩:=List.mem_iff_getElem.1 hb
   rw [List.length_take] at hj
   rw [List.getElem_take]
   have:=(h.bs.lt j i hil (by omega)).2
   rw [hie] at he
   simp only at he
   omega
theorem z0h.skip:∀ {n:Int} {l:List SegA},z0h n l->∀ (i j:Nat) (hj:j<l.length) (hi:i<j),(l[i]'(by omega)).reach<=l[j].base/\(l[i]'(by omega)).base<l[j].base
 | n,s::l,⟨h1,h2,h3⟩,0,j+1,hj,_=>by
  have hj:j<l.length:=by simpa using hj
  have:=(h3.mem l[j] (List.getElem_mem hj)).2
  simp only [List.getElem_cons_zero,List.getElem_cons_succ]
  omega
 | n,s::l,⟨h1,h2,h3⟩,i+1,j+1,hj,hi=>by
  simp only [List.getElem_cons_succ]
  exact h3.skip i j (by simpa using hj) (by omega)
theorem z00k {l:List SegA} (hok:z0h 0 l) {off:Int} {i:Nat} (hi:i<l.length) (hb:l[i].base<=off\/i=0):(z04 l).filterMap (z0t off)=(z04 (l.drop i)).filterMap (z0t off):=by
 have e:z04 l=z04 (l.take i)++z04 (l.drop i):=by unfold z04;rw [<- List.flatMap_append,List.take_append_drop]
 rw [e,List.filterMap_append,zb7 (l:=z04 (l.take i)),List.nil_append]
 intro b hb'
 obtain ⟨s,hs,hbs⟩:=List.mem_flatMap.1 hb'
 obtain ⟨j,hj,rfl⟩:=List.mem_iff_getElem.1 hs
 rw [List.length_take] at hj
 rw [List.getElem_take] at hbs
 have h1:=(hok.skip j i hi (by omega)).1
 have hsg:=(hok.mem (l[j]'(by omega)) (List.getElem_mem _)).1
 have h2:=hsg.bs.le_next hbs
 have h3:=(z5v hsg).2.2.1
 refine zh1 (hsg.bs.valid b hbs).1 ?_
 rcases hb with hb|hb
 ·omega
 ·omega
theorem zi3 {s:SegA} (h:SegOk s):s.bs.length*10<=s.file.length:=by
 have:=z9l h.bs
 rw [z2r];omega
def z10 (pre:ByteArray):List ByteArray->DiskA->Int × List Int × DiskA
 | [],D=>(0,[],D)
 | n::ns,D=>if (z1h pre n z8a).isSome=true/\(z19 D n).1≠0 then ((z19 D n).1,[],(z19 D n).2) else
  ((z10 pre ns (if (z1h pre n z8a).isSome then (z19 D n).2 else D)).1,(match z1h pre n zw with|some b=>[(b:Int)]|none=>[])++(z10 pre ns (if (z1h pre n z8a).isSome then (z19 D n).2 else D)).2.1,(z10 pre ns (if (z1h pre n z8a).isSome then (z19 D n).2 else D)).2.2)
def z6t (pre:ByteArray):List Int->DiskA->Int × DiskA
 | [],D=>(0,D)
 | b::bs,D=>if (z19 D (zo pre b zw)).1≠0 then z19 D (zo pre b zw) else z6t pre bs (z19 D (zo pre b zw)).2
def z1t (pre:ByteArray) (l:List SegA) (D:DiskA) (base:Int):(Bool × Int) × List SegA × DiskA:=match z06 D.fs (zo pre base zw) with
 | none=>((false,3),l,D)
 | some p=>match z4y base p.1 with
  | none=>((false,(z19 D (zo pre base zw)).1),l,(z19 D (zo pre base zw)).2)
  | some q=>if q.2=p.1.length then ((true,0),l++[q.1],D) else ((false,(cutA' D (zo pre base zw) (q.2:Nat)).1),l++[q.1],(cutA' D (zo pre base zw) (q.2:Nat)).2)
def z28 (pre:ByteArray):List Int->List SegA->DiskA->Int × List SegA × DiskA
 | [],l,D=>(0,l,D)
 | b::bs,l,D=>if b<zh l then (if (z19 D (zo pre b zw)).1≠0 then ((z19 D (zo pre b zw)).1,l,(z19 D (zo pre b zw)).2) else z28 pre bs l (z19 D (zo pre b zw)).2) else
  if (z1t pre l D b).1.2≠0 then ((z1t pre l D b).1.2,(z1t pre l D b).2) else
  if (z1t pre l D b).1.1=true then z28 pre bs (z1t pre l D b).2.1 (z1t pre l D b).2.2 else ((z6t pre bs (z1t pre l D b).2.2).1,(z1t pre l D b).2.1,(z6t pre bs (z1t pre l D b).2.2).2)
def z4r (pre:ByteArray) (D:DiskA):Int × List SegA × DiskA :=
 if (z10 pre (z13 (z16 pre) D.fs) D).1≠0 then ((z10 pre (z13 (z16 pre) D.fs) D).1,[],(z10 pre (z13 (z16 pre) D.fs) D).2.2) else
  z28 pre (z10 pre (z13 (z16 pre) D.fs) D).2.1 [] (z10 pre (z13 (z16 pre) D.fs) D).2.2
theorem z03s (pre:ByteArray):pre++ByteArray.mk #[45]=z16 pre:=by
 apply zcv
 rw [ze1]
 unfold bl
 simp
theorem zyh {pre n:ByteArray} {x:List UInt8} {v:Nat} (h:z1h pre n x=some v):v<17592186044416:=by
 unfold z1h at h
 split at h
 ·have:=zi7 (k:=0) h (by omega)
  have h2:16 ^ (0+(((bl n).drop ((bl pre).length+1)).take 11).length)<=16 ^ 11:=Nat.pow_le_pow_right (by omega) (by rw [List.length_take];omega)
  omega
 ·cases h
theorem zjc {pre:ByteArray}:∀ {ns:List ByteArray} {D:DiskA},∀ b ∈ (z10 pre ns D).2.1,0<=b/\b<17592186044416
 | [],D,b,h=>by cases h
 | n::ns,D,b,h=>by
  unfold z10 at h
  split at h
  ·cases h
  ·simp only at h
   rcases List.mem_append.1 h with h|h
   ·cases hb:z1h pre n zw with
    | none=>rw [hb] at h;cases h
    | some v =>
     rw [hb] at h
     simp only [List.mem_cons,List.not_mem_nil,or_false] at h
     have:=zyh hb
     omega
   ·exact zjc b h
theorem zgz {pre:ByteArray}:∀ {ns:List ByteArray} {D:DiskA},(z10 pre ns D).2.1.length<=ns.length
 | [],D=>Nat.le_refl _
 | n::ns,D=>by
  unfold z10
  split
  ·exact Nat.zero_le _
  ·simp only [List.length_append,List.length_cons]
   have:=zgz (pre:=pre) (ns:=ns) (D:=if (z1h pre n z8a).isSome then (z19 D n).2 else D)
   split <;> simp <;> omega
section
variable {w:World} {l r:List HP} {lg:Nat} {M:LogM} {A:LogA} {D:DiskA} {gap:Int} {a:Nat} {t:SegM}
def lgR (M:LogM):HP:=HP.star (slc T.a32 1 M.z ((M.SM.map Prod.fst).flatMap z1w)) (HP.all (M.SM.map λt=>z0q M.gap t.1 t.2))
theorem z9o (hs:Sat w (lgQ lg M::l)):okM M.gap M.seg M.pre/\Sat w (pt lg (.cells #[.pointer (some ⟨M.d,0,none⟩),.string M.pre,.int .i64 M.seg,.int .i64 M.gap,.slice M.z.a M.z.len M.z.cap] T.a47)::lgR M::l):=by
 obtain ⟨h,hs⟩:=hs.and
 exact ⟨h,hs.star⟩
theorem z4q (M:LogM) (h:okM M.gap M.seg M.pre) (hs:Sat w (pt lg (.cells #[.pointer (some ⟨M.d,0,none⟩),.string M.pre,.int .i64 M.seg,.int .i64 M.gap,.slice M.z.a M.z.len M.z.cap] T.a47)::lgR M::l)):Sat w (lgQ lg M::l):=.and_mk h (.star_mk hs)
theorem z040 {r1:List HP} [hf:Fo l lgQ lg M r1] [hf2:Fo r1 dk M.d D r] (hs:Sat w l) :
  Ret P F.a119 #[.pointer (some ⟨lg,0,none⟩)] w λvs w' =>
   ((z10 M.pre (z13 (z16 M.pre) D.fs) D).1≠0/\vs=[.slice none 0 0,.int .i64 (z10 M.pre (z13 (z16 M.pre) D.fs) D).1]/\Sat w' (lgQ lg M::dk M.d (z10 M.pre (z13 (z16 M.pre) D.fs) D).2.2::r)) \/
   ((z10 M.pre (z13 (z16 M.pre) D.fs) D).1=0/\∃ z:Sl,vs=[z.v,.int .i64 0]/\Sat w' (slc T.a14 1 z ((z10 M.pre (z13 (z16 M.pre) D.fs) D).2.1.flatMap z4g)::lgQ lg M::dk M.d (z10 M.pre (z13 (z16 M.pre) D.fs) D).2.2::r)) :=
 zoi _ <| by
  delta z021 AA AB AC AD AG AJ AK AO AT AU AY Aa Af Ah Aj Ak Al An Aw Ax Bq
  have hs:=hs.perm (hf.perm.trans (.cons _ hf2.perm))
  clear hf hf2
  obtain ⟨hokm,hs⟩:=z9o hs
  have hsz:=hokm.size
  refine z02 hs λw' hs=>?_
  refine zi ?_
  refine zb hs ?_
  refine zi ?_
  refine zb hs ?_
  refine wp_must (by omega) ?_
  rw [z03s]
  obtain ⟨m_,FS_,-,hokD,-⟩:=z2b (hs.pick [2])
  have hok24:∀ n ∈ z13 (z16 M.pre) D.fs,n.size<=24:=λn hn=>by
   unfold z13 at hn
   obtain ⟨f,hf,rfl⟩:=List.mem_map.1 (List.mem_filter.1 hn).1
   exact hokD.names f hf
  have hnl:(z13 (z16 M.pre) D.fs).length<=128:=by
   unfold z13
   exact Nat.le_trans (List.length_filter_le _ _) (by rw [List.length_map];exact hokD.many)
  refine z8 (zqx (d:=M.d) (A:=D) (z16 M.pre) hs) λ_ w' hs=>?_
  obtain ⟨x,rfl,hs⟩:=hs
  refine zd ?_
  refine ze ?_
  generalize z13 (z16 M.pre) D.fs=ns at *
  have hl:=hs.slen x (xs:=ns) (enc:=z1k)
  refine zm (λq w'=>∃ z:Sl,q=(z,())/\(z10 M.pre ns D).1=0/\Sat w' (slc T.a14 1 z ((z10 M.pre ns D).2.1.flatMap z4g)::lgQ lg M::dk M.d (z10 M.pre ns D).2.2::r)) ?_ ?_
  rotate_left
  ·rintro _ w2 ⟨z,rfl,h1,hs⟩
   exact ⟨rfl,.inr ⟨h1,z,rfl,hs⟩⟩
  have hs:Sat w' (slc T.a14 1 ⟨none,0,0⟩ (([]:List Int).flatMap z4g)::dk M.d D::pt lg (.cells #[.pointer (some ⟨M.d,0,none⟩),.string M.pre,.int .i64 M.seg,.int .i64 M.gap,.slice M.z.a M.z.len M.z.cap] T.a47)::lgR M::slc T.a49 1 x (ns.flatMap z1k)::r):=by
   have h1:Sat w' (slc T.a14 1 ⟨none,0,0⟩ (([]:List Int).flatMap z4g)::_):=hs.slc_nil
   exact h1.sub
  refine z0c (λm v w=>∃ (i:Nat) (z:Sl) (done:List Int) (D':DiskA),v=(z,((i:Int),()))/\i<=ns.length/\ns.length-i=m/\done.length<=i /\
   ((z10 M.pre ns D).1=(z10 M.pre (ns.drop i) D').1/\(z10 M.pre ns D).2.2=(z10 M.pre (ns.drop i) D').2.2/\((z10 M.pre (ns.drop i) D').1=0->(z10 M.pre ns D).2.1=done++(z10 M.pre (ns.drop i) D').2.1)) /\
   Sat w (slc T.a14 1 z (done.flatMap z4g)::dk M.d D'::pt lg (.cells #[.pointer (some ⟨M.d,0,none⟩),.string M.pre,.int .i64 M.seg,.int .i64 M.gap,.slice M.z.a M.z.len M.z.cap] T.a47)::lgR M::slc T.a49 1 x (ns.flatMap z1k)::r)) ns.length
   ⟨0,⟨none,0,0⟩,[],D,rfl,by omega,rfl,by simp,⟨rfl,rfl,λ_=>rfl⟩,hs⟩ ?_
  clear hs
  rintro m _ w ⟨i,z,done,D',rfl,hi,hm,hdl,⟨hq1,hq2,hq3⟩,hs⟩
  refine zl ?_
  refine zf (λhc=>?_) λhc=>?_
  rotate_left
  ·have e:ns.drop i=[]:=List.drop_eq_nil_of_le (by omega)
   rw [e] at hq1 hq2 hq3
   have hq3:=hq3 rfl
   have e2:(z10 M.pre [] D').2.1=[]:=rfl
   rw [e2,List.append_nil] at hq3
   refine zn (zg ⟨z,rfl,hq1,?_⟩)
   have e3:(z10 M.pre [] D').2.2=D':=rfl
   rw [hq2,hq3,e3]
   have hs:=z4q M hokm (hs.pick [2,2])
   exact hs.sub
  have hil:i<ns.length:=by omega
  have hdrop:ns.drop i=ns[i]::ns.drop (i+1):=List.drop_eq_getElem_cons hil
  rw [hdrop] at hq1 hq2 hq3
  have hn24:=hok24 ns[i] (List.getElem_mem hil)
  refine z27 hs (xs:=ns) (enc:=z1k) i hil ?_
  refine wp_lt ?_
  refine z8 (zq5 (lg:=lg) ns[i] (ByteArray.mk #[46,108,111,103]) (by omega) (by decide) M.pre hsz hs) λ_ w' hs=>?_
  obtain ⟨rfl,hs⟩:=hs
  refine zd ?_
  refine wp_lt ?_
  refine wp_lt ?_
  have eb:z1h M.pre ns[i] (bl (ByteArray.mk #[46,108,111,103]))=z1h M.pre ns[i] zw:=rfl
  rw [eb]
  refine zm (λq w'=>∃ z':Sl,q=(z',())/\Sat w' (slc T.a14 1 z' ((done++(match z1h M.pre ns[i] zw with|some b=>[(b:Int)]|none=>[])).flatMap z4g)::dk M.d D'::pt lg (.cells #[.pointer (some ⟨M.d,0,none⟩),.string M.pre,.int .i64 M.seg,.int .i64 M.gap,.slice M.z.a M.z.len M.z.cap] T.a47)::lgR M::slc T.a49 1 x (ns.flatMap z1k)::r)) ?_ ?_
  ·cases hb:z1h M.pre ns[i] zw with
   | none =>
    refine z03 ?_ (by simp)
    refine zg ⟨z,rfl,?_⟩
    rw [List.append_nil]
    exact hs
   | some b =>
    refine z0u ?_ (by rfl)
    refine z5j (xs:=done) (enc:=z4g) (y:=(b:Int)) hs (λz' w' hs=>?_) rfl (by omega)
    exact zg ⟨z',rfl,hs⟩
  rintro _ w2 ⟨z',rfl,hs⟩
  have hdl2:(done++(match z1h M.pre ns[i] zw with|some b=>[(b:Int)]|none=>[])).length<=i+1:=by
   rw [List.length_append]
   split <;> simp <;> omega
  refine z8 (zq5 (lg:=lg) ns[i] (ByteArray.mk #[46,110,101,119]) (by omega) (by decide) M.pre hsz hs) λ_ w' hs=>?_
  obtain ⟨rfl,hs⟩:=hs
  refine zd ?_
  refine wp_lt ?_
  refine wp_lt ?_
  have eb2:z1h M.pre ns[i] (bl (ByteArray.mk #[46,110,101,119]))=z1h M.pre ns[i] z8a:=rfl
  rw [eb2]
  have hun:z10 M.pre (ns[i]::ns.drop (i+1)) D'=if (z1h M.pre ns[i] z8a).isSome=true/\(z19 D' ns[i]).1≠0 then ((z19 D' ns[i]).1,[],(z19 D' ns[i]).2) else
   ((z10 M.pre (ns.drop (i+1)) (if (z1h M.pre ns[i] z8a).isSome then (z19 D' ns[i]).2 else D')).1,(match z1h M.pre ns[i] zw with|some b=>[(b:Int)]|none=>[])++(z10 M.pre (ns.drop (i+1)) (if (z1h M.pre ns[i] z8a).isSome then (z19 D' ns[i]).2 else D')).2.1,(z10 M.pre (ns.drop (i+1)) (if (z1h M.pre ns[i] z8a).isSome then (z19 D' ns[i]).2 else D')).2.2):=rfl
  refine zm (λq w'=>¬ ((z1h M.pre ns[i] z8a).isSome=true/\(z19 D' ns[i]).1≠0)/\Sat w' (slc T.a14 1 z' ((done++(match z1h M.pre ns[i] zw with|some b=>[(b:Int)]|none=>[])).flatMap z4g)::dk M.d (if (z1h M.pre ns[i] z8a).isSome then (z19 D' ns[i]).2 else D')::pt lg (.cells #[.pointer (some ⟨M.d,0,none⟩),.string M.pre,.int .i64 M.seg,.int .i64 M.gap,.slice M.z.a M.z.len M.z.cap] T.a47)::lgR M::slc T.a49 1 x (ns.flatMap z1k)::r)) ?_ ?_
  ·refine zf (λh=>?_) λh=>?_
   rotate_left
   ·refine zg ⟨λhh=>h hh.1,?_⟩
    rw [if_neg h]
    exact hs
   refine zi ?_
   refine zb hs ?_
   refine z8 (zc7 (d:=M.d) (A:=D') ns[i] hs) λ_ w' hs=>?_
   obtain ⟨rfl,hs⟩:=hs
   refine zd ?_
   refine wp_lt ?_
   refine zf (λh2=>?_) λh2=>?_
   ·refine wp_lt ?_
    rw [if_pos ⟨h,h2⟩] at hun
    rw [hun] at hq1 hq2
    have hs:=z4q M hokm (hs.pick [2,2])
    refine zn (zn (zn ⟨rfl,.inl ⟨by rw [hq1];exact h2,by rw [hq1],?_⟩⟩))
    rw [hq2]
    exact hs.sub
   ·refine zg ⟨λhh=>h2 hh.2,?_⟩
    rw [if_pos h]
    exact hs.sub
  rintro _ w3 ⟨hno,hs⟩
  rw [if_neg hno] at hun
  rw [hun] at hq1 hq2 hq3
  refine zl ?_
  rw [wS (i:=i) (by omega)]
  refine z0z (ns.length-(i+1)) ⟨i+1,z',done++(match z1h M.pre ns[i] zw with|some b=>[(b:Int)]|none=>[]),_,rfl,by omega,rfl,hdl2,⟨hq1,hq2,λh=>?_⟩,hs⟩
  rw [hq3 h,List.append_assoc]
theorem z03t (x:Sl) (bs:List Int) (hb:∀ b ∈ bs,0<=b/\b<17592186044416) {r1:List HP} [hf:Fo l lgQ lg M r1] [hf2:Fo r1 dk M.d D r] (hx:FocR r x 1 (bs.flatMap z4g)) (hlen:bs.length<=1000000) (hs:Sat w l) :
  Ret P F.a118 #[.pointer (some ⟨lg,0,none⟩),x.v] w λvs w'=>vs=[.int .i64 (z6t M.pre bs D).1]/\Sat w' (lgQ lg M::dk M.d (z6t M.pre bs D).2::r) :=
 zoh _ x <| by
  delta z020 AA AC AF AG AP AY Aa Af Ah Aj Ak Al Am An Aw Ay Bc
  have hs:=hs.perm (hf.perm.trans (.cons _ hf2.perm))
  clear hf hf2
  obtain ⟨hokm,hs⟩:=z9o hs
  have hsz:=hokm.size
  have hl:=hs.slen x (xs:=bs) (enc:=z4g)
  refine zm (λ_ w'=>(z6t M.pre bs D).1=0/\Sat w' (lgQ lg M::dk M.d (z6t M.pre bs D).2::r)) ?_ ?_
  rotate_left
  ·rintro _ w2 ⟨h1,hs⟩
   rw [h1]
   exact ⟨rfl,rfl,hs⟩
  refine z0c (λm v w=>∃ (i:Nat) (D':DiskA),v=((i:Int),())/\i<=bs.length/\bs.length-i=m/\z6t M.pre bs D=z6t M.pre (bs.drop i) D' /\
   Sat w (pt lg (.cells #[.pointer (some ⟨M.d,0,none⟩),.string M.pre,.int .i64 M.seg,.int .i64 M.gap,.slice M.z.a M.z.len M.z.cap] T.a47)::lgR M::dk M.d D'::r)) bs.length ⟨0,D,rfl,by omega,rfl,rfl,hs⟩ ?_
  clear hs
  rintro m _ w ⟨i,D',rfl,hi,hm,hq,hs⟩
  refine zl ?_
  refine zf (λhc=>?_) λhc=>?_
  rotate_left
  ·have e:bs.drop i=[]:=List.drop_eq_nil_of_le (by omega)
   rw [e] at hq
   refine zn (zg ⟨by rw [hq];rfl,?_⟩)
   rw [hq]
   exact z4q M hokm hs
  have hil:i<bs.length:=by omega
  rw [List.drop_eq_getElem_cons hil] at hq
  have hbb:=hb bs[i] (List.getElem_mem hil)
  refine z27 hs (xs:=bs) (enc:=z4g) i hil ?_
  refine wp_lt ?_
  have hun:z6t M.pre (bs[i]::bs.drop (i+1)) D'=if (z19 D' (zo M.pre bs[i] zw)).1≠0 then z19 D' (zo M.pre bs[i] zw) else z6t M.pre (bs.drop (i+1)) (z19 D' (zo M.pre bs[i] zw)).2:=rfl
  refine zm (λv w'=>v=((z19 D' (zo M.pre bs[i] zw)).1,())/\Sat w' (pt lg (.cells #[.pointer (some ⟨M.d,0,none⟩),.string M.pre,.int .i64 M.seg,.int .i64 M.gap,.slice M.z.a M.z.len M.z.cap] T.a47)::lgR M::dk M.d (z19 D' (zo M.pre bs[i] zw)).2::r)) ?_ ?_
  ·refine z02 hs λw' hs=>?_
   refine zi ?_
   refine z0s hs ?_
   refine z8 (z89 (lg:=lg) bs[i] hbb (ByteArray.mk #[46,108,111,103]) (by decide) M.pre hsz hs) λ_ w' hs=>?_
   obtain ⟨rfl,hs⟩:=hs
   refine zd ?_ (by first|trivial|(repeat (first|exact trivial|exact λ_=>z07 hs|exact λ_=>z0d hs|refine And.intro ?_ ?_)))
   refine ze ?_
   refine z8 (zc7 (d:=M.d) (A:=D') (zo M.pre bs[i] (bl (ByteArray.mk #[46,108,111,103]))) hs) λ_ w' hs=>?_
   obtain ⟨rfl,hs⟩:=hs
   refine zd ?_
   refine wp_lt ?_
   refine ze ?_
   have hs:Sat w' (dk M.d (z19 D' (zo M.pre bs[i] zw)).2::_):=hs
   exact zg ⟨rfl,hs.sub⟩
  rintro _ w2 ⟨rfl,hs⟩
  refine zf (λh=>?_) λh=>?_
  ·refine wp_lt ?_
   rw [if_pos h] at hun
   rw [hun] at hq
   rw [hq]
   exact zn (zn ⟨rfl,rfl,z4q M hokm hs⟩)
  ·rw [if_neg h] at hun
   rw [hun] at hq
   rw [wS (i:=i) (by omega)]
   exact z0z (bs.length-(i+1)) ⟨i+1,_,rfl,by omega,rfl,hq,hs⟩
end
theorem zho (k:Nat) (n:Int) (raw:List UInt8):z2h (k+1) n raw=match z12 raw with
  | none=>([],0)
  | some (body,m)=>match z6a body with
   | none=>([],0)
   | some b=>if b.base<n then ([],0) else (b::(z2h k (b.base+zp b) (raw.drop m)).1,m+(z2h k (b.base+zp b) (raw.drop m)).2):=rfl
theorem zdu {fs:List FileA} {n:ByteArray} {p:List UInt8 × Nat} (h:z06 fs n=some p):p.1.length<=used fs:=z8f (zsd h)
section
variable {w:World} {l r:List HP} {lg:Nat} {M:LogM} {A:LogA} {D:DiskA} {gap:Int} {a:Nat} {t:SegM}
theorem z00o (b:BatM) (z:Sl) (hv:zy b=0) (hp:b.p=b) [hf:Fo l (z0q gap) a t r] [hb:FocR r z 4 (b.rs.flatMap zu)] (hlen:t.s.file.length+(frL b).length<=1000000000) (hs:Sat w l) :
  Ret P F.a136 #[.pointer (some ⟨a,0,none⟩),.agg (z00 (b.at z)).toArray,.int .i64 ((frL b).length:Nat)] w λvs w'=>vs=[]/\Sat w' (z0q gap a ⟨t.ix,t.s.add [b]⟩::r):=by
 have hb':FocR r (b.at z).x 4 ((b.at z).rs.flatMap zu):=hb
 have h:=zxs (gap:=gap) (a:=a) (b.at z) hv hlen hs
 have e:t.s.add [b.at z]=t.s.add [b]:=by
  unfold SegA.add
  have:(b.at z).p=b.p:=rfl
  simp only [List.map_cons,List.map_nil,this]
 rw [e] at h
 exact h
set_option maxHeartbeats 1000000 in
theorem z074 (base:Int) (hb:0<=base/\base<17592186044416) {r1:List HP} [hf:Fo l lgQ lg M r1] [hf2:Fo r1 dk M.d D r] (hlen:M.SM.length<=1000000) (hs:Sat w l) :
  Ret P F.a125 #[.pointer (some ⟨lg,0,none⟩),.int .i64 base] w λvs w'=>vs=[.bool (z1t M.pre M.l D base).1.1,.int .i64 (z1t M.pre M.l D base).1.2] /\
   ∃ M':LogM,(M'.d=M.d/\M'.pre=M.pre/\M'.seg=M.seg/\M'.gap=M.gap)/\M'.l=(z1t M.pre M.l D base).2.1/\M'.SM.length<=M.SM.length+1/\Sat w' (lgQ lg M'::dk M.d (z1t M.pre M.l D base).2.2::r) :=
 zoo _ base <| by
  delta z027 AA AB AF AP AU AY Aa Ab Ac Af Ah Aj Ak An Ao Aw Ax Ay Az BO Ba Bb Bd Bh Bi Bq
  have hs:=hs.perm (hf.perm.trans (.cons _ hf2.perm))
  clear hf hf2
  obtain ⟨hokm,hs⟩:=z9o hs
  have hsz:=hokm.size
  obtain ⟨m_,FS_,-,hokD,-⟩:=z2b (hs.pick [2])
  refine z8 (z89 (lg:=lg) base hb (ByteArray.mk #[46,108,111,103]) (by decide) M.pre hsz hs) λ_ w' hs=>?_
  obtain ⟨rfl,hs⟩:=hs
  refine zd ?_
  have en:zo M.pre base (bl (ByteArray.mk #[46,108,111,103]))=zo M.pre base zw:=rfl
  rw [en]
  generalize hnm:zo M.pre base zw=nm at *
  refine wp_lt ?_
  refine zi ?_
  refine zb hs ?_
  have hsame:∀ {w:World} {D':DiskA},Sat w (pt lg (.cells #[.pointer (some ⟨M.d,0,none⟩),.string M.pre,.int .i64 M.seg,.int .i64 M.gap,.slice M.z.a M.z.len M.z.cap] T.a47)::lgR M::dk M.d D'::r)->∃ M':LogM,(M'.d=M.d/\M'.pre=M.pre/\M'.seg=M.seg/\M'.gap=M.gap)/\M'.l=M.l/\M'.SM.length<=M.SM.length+1/\Sat w (lgQ lg M'::dk M.d D'::r):=λhs=>⟨M,⟨rfl,rfl,rfl,rfl⟩,rfl,by omega,z4q M hokm hs⟩
  unfold z1t
  rw [hnm]
  refine z8 (zhh (d:=M.d) (A:=D) nm hs) λ_ w' hs=>?_
  rcases hs with ⟨f,hff,hfn,x,rfl,hs⟩|⟨hno,rfl,hs⟩
  rotate_left
  ·refine zd ?_
   refine wp_lt ?_
   refine z0u ?_ (by decide)
   refine wp_lt ?_
   rw [z7s.2 hno]
   exact ⟨rfl,rfl,hsame hs.sub⟩
  refine zd ?_
  refine wp_lt ?_
  refine z03 ?_ (by simp)
  have hfd:z06 D.fs nm=some (f.b,f.kept):=by rw [<- hfn];exact zcz (z2x hokD.sorted) hff
  have hrl:f.b.length<=4194304:=Nat.le_trans (z8f hff) hokD.used
  rw [hfd]
  simp only
  generalize f.b=raw at *
  have hl:=hs.slen x (xs:=raw) (enc:=zk)
  have hcap:=hs.slc_cap
  refine z8 (zbs x raw hcap (by omega) hs) λ_ w' hs=>?_
  obtain ⟨y,rfl,hs⟩:=hs
  refine zd ?_
  refine wp_lt ?_
  refine wp_lt ?_
  refine zm (λq w'=>∃ v:Int,q=(v,(z4y base raw).isSome,())/\(∀ s,z4y base raw=some s->v=s.1.fin)/\Sat w' (slc T.a52 1 x (raw.flatMap zk)::pt lg (.cells #[.pointer (some ⟨M.d,0,none⟩),.string M.pre,.int .i64 M.seg,.int .i64 M.gap,.slice M.z.a M.z.len M.z.cap] T.a47)::lgR M::dk M.d D::r)) ?_ ?_
  ·cases hfr:z12 raw with
   | none =>
    rw [hfr] at hs
    have e:z4y base raw=none:=by unfold z4y;rw [hfr]
    rw [e]
    refine z03 ?_ (by simp)
    exact zg ⟨0,rfl,(λs h=>by cases h),hs.sub⟩
   | some q =>
    obtain ⟨body,m⟩:=q
    rw [hfr] at hs
    have hs:Sat w' (slc T.a52 1 y (body.flatMap zk)::_):=hs
    obtain ⟨-,-,hbd,-⟩:=z6c hfr
    refine z0u ?_ (by rfl)
    refine z8 (zz4 y body base (by omega) (by omega) hs) λ_ w' hs=>?_
    obtain ⟨v,rfl,hv,hs⟩:=hs
    refine zd ?_
    refine wp_lt ?_
    refine wp_lt ?_
    have e:z4y base raw=match z64 base body with
      | none=>none
      | some fin=>some (⟨base,fin,(z2h raw.length base (raw.drop m)).1⟩,m+(z2h raw.length base (raw.drop m)).2):=by simp only [z4y,hfr];cases z64 base body <;> rfl
    rw [e]
    cases hh:z64 base body with
    | none=>exact zg ⟨v,rfl,(λs h=>by cases h),hs.sub⟩
    | some fin =>
     have:=hv fin hh
     subst this
     exact zg ⟨v,rfl,(λs h=>by simp only [Option.some.injEq] at h;subst h;rfl),hs.sub⟩
  rintro _ w2 ⟨v,rfl,hv,hs⟩
  cases hsc:z4y base raw with
  | none =>
   refine z0u ?_ (by simp)
   refine zi ?_
   refine zb hs ?_
   refine z8 (zc7 (d:=M.d) (A:=D) nm hs) λ_ w' hs=>?_
   obtain ⟨rfl,hs⟩:=hs
   refine zd ?_
   refine wp_lt ?_
   exact ⟨rfl,rfl,hsame hs.sub⟩
  | some q =>
   obtain ⟨s,mm⟩:=q
   dsimp only
   have hv:=hv _ hsc
   have hv:v=s.fin:=hv
   subst hv
   obtain ⟨hsok,hsb,hst,hsm,hsml⟩:=zn0 hsc
   refine z03 ?_ (by simp)
   obtain ⟨m0,hm0,htk⟩:∃ m0,((z12 raw).getD ([],0)).2=m0/\m0<=raw.length/\m0=(shL s.base s.fin).length/\s.bs=(z2h raw.length base (raw.drop m0)).1/\mm=m0+(z2h raw.length base (raw.drop m0)).2:=by
    unfold z4y at hsc
    cases hfr:z12 raw with
    | none=>rw [hfr] at hsc;cases hsc
    | some q =>
     obtain ⟨body,m⟩:=q
     rw [hfr] at hsc
     simp only at hsc
     cases hh:z64 base body with
     | none=>rw [hh] at hsc;cases hsc
     | some fin =>
      rw [hh] at hsc
      simp only [Option.some.injEq,Prod.mk.injEq] at hsc
      obtain ⟨e1,e2⟩:=hsc
      obtain ⟨f1,f2,f3,f4⟩:=z6c hfr
      obtain ⟨-,-,hb3⟩:=zjj hh
      refine ⟨m,rfl,f2,?_,by rw [<- e1],e2.symm⟩
      rw [<- e1]
      show m=(shL base fin).length
      unfold shL
      rw [z8e (by have:=zee base fin;omega),<- hb3,f1]
   obtain ⟨h1,h2,h3,h4⟩:=htk
   rw [hm0]
   have hbase0:=hsok.base
   have hfin0:0<=s.fin/\s.fin<9223372036854775808:=by have:=hsok.fin;omega
   have hs:=z4q M hokm (hs.pick [1,1])
   refine z8 (zmb (lg:=lg) base s.fin (by omega) hfin0 hs) λ_ w' hs=>?_
   obtain ⟨a,ix,rfl,hs⟩:=hs
   refine zd ?_
   refine wp_lt ?_
   refine zm (λq w'=>q=((mm:Int),())/\Sat w' (z0q M.gap a ⟨ix,s⟩::lgQ lg M::slc T.a52 1 x (raw.flatMap zk)::dk M.d D::r)) ?_ ?_
   ·refine z0c (λk q w=>∃ (at_:Nat) (n:Int) (done:List BatM),q=((at_:Int),(n,()))/\at_<=raw.length/\raw.length-at_<=k /\
     s.bs=done++(z2h k n (raw.drop at_)).1/\mm=at_+(z2h k n (raw.drop at_)).2/\at_=((⟨base,s.fin,[]⟩:SegA).add done).file.length /\
     Sat w (z0q M.gap a ⟨ix,(⟨base,s.fin,[]⟩:SegA).add done⟩::lgQ lg M::slc T.a52 1 x (raw.flatMap zk)::dk M.d D::r)) raw.length
     ⟨m0,base,[],rfl,h1,by omega,by rw [List.nil_append];exact h3,h4,by rw [zhz,z2r];simp only [List.flatMap_nil,List.length_nil];rw [h2,hsb];omega,by rw [zhz];exact hs⟩ ?_
    clear hs
    rintro k _ w ⟨at_,n,done,rfl,ha1,ha2,ha3,ha4,ha5,hs⟩
    have hend:z2h k n (raw.drop at_)=([],0)->∀ {w:World},Sat w (z0q M.gap a ⟨ix,(⟨base,s.fin,[]⟩:SegA).add done⟩::lgQ lg M::slc T.a52 1 x (raw.flatMap zk)::dk M.d D::r)->at_=mm/\Sat w (z0q M.gap a ⟨ix,s⟩::lgQ lg M::slc T.a52 1 x (raw.flatMap zk)::dk M.d D::r):=by
     intro he w hs
     rw [he] at ha3 ha4
     simp only [List.append_nil] at ha3
     have hpp:done.map BatM.p=done:=by
      rw [List.map_congr_left (g:=id) λb hb=>((hsok.bs.valid b (by rw [ha3];exact hb)).2),List.map_id]
     have es:(⟨base,s.fin,[]⟩:SegA).add done=s:=by
      unfold SegA.add
      rw [hpp,<- ha3,<- hsb]
      rfl
     rw [es] at hs
     exact ⟨ha4.symm,hs⟩
    refine zl ?_
    refine wp_must (by omega) ?_
    rw [Int.toNat_natCast]
    have hxc:FocR (z0q M.gap a ⟨ix,(⟨base,s.fin,[]⟩:SegA).add done⟩::lgQ lg M::slc T.a52 1 x (raw.flatMap zk)::dk M.d D::r) ⟨z0w x.a 1 at_ x.cap,x.len-at_,x.cap-at_⟩ 1 ((raw.drop at_).flatMap zk):=FocR.post hcap
    refine z8 (zbs ⟨z0w x.a 1 at_ x.cap,x.len-at_,x.cap-at_⟩ (raw.drop at_) (by show x.len-at_<=x.cap-at_;omega) (by rw [List.length_drop];omega) hs) λ_ w' hs=>?_
    obtain ⟨y,rfl,hs⟩:=hs
    refine zd ?_
    refine wp_lt ?_
    refine wp_lt ?_
    cases hfr:z12 (raw.drop at_) with
    | none =>
     rw [hfr] at hs
     refine z0u ?_ (by simp)
     have he:z2h k n (raw.drop at_)=([],0):=by
      cases k with
      | zero=>rfl
      | succ k=>rw [zho,hfr]
     obtain ⟨e1,hs⟩:=hend he hs.tail
     refine zn (zg ⟨by rw [e1],hs⟩)
    | some q =>
     obtain ⟨body,m⟩:=q
     rw [hfr] at hs
     have hs:Sat w' (slc T.a52 1 y (body.flatMap zk)::_):=hs
     obtain ⟨f1,f2,hbd,f4⟩:=z6c hfr
     rw [List.length_drop] at f2
     dsimp only [Option.getD,Option.isSome]
     refine z03 ?_ (by simp)
     obtain ⟨k,rfl⟩:∃ k',k=k'+1:=⟨k-1,by omega⟩
     rw [zho,hfr] at ha3 ha4 hend
     refine z8 (zln y body (by omega) hs) λ_ w' hs=>?_
     rcases hs with ⟨b,z,hdec,rfl,hs⟩|⟨hdec,rfl,hs⟩
     rotate_left
     ·refine ⟨(0,0,0,0,0,0,z8b,6,()),rfl,trivial,zel _ _ _ _ _ _ _ _ ?_⟩
      refine zt hs λc w' hs=>?_
      refine zv hs λw' hs=>?_
      refine wp_lt ?_
      refine zb hs ?_
      refine z0u ?_ (.inl (by decide))
      obtain ⟨e1,hs⟩:=hend (by simp only [hdec]) hs.tail.tail
      exact zn (zg ⟨by show ((at_:Int),())=_;rw [e1],hs⟩)
     ·obtain ⟨d1,d2,d3⟩:=zlm hdec
      have hfrb:(frL b).length=m:=by rw [(z5b d1).2,d2,f1]
      refine ⟨(b.base,b.pid,b.epoch,b.seq,b.kind,b.time,z,0,()),rfl,trivial,zel _ _ _ _ _ _ _ _ ?_⟩
      refine zt hs λc w' hs=>?_
      refine zv hs λw' hs=>?_
      refine wp_lt ?_
      refine zb hs ?_
      simp only [hdec] at ha3 ha4 hend
      refine zf (λhc=>?_) λhc=>?_
      ·have hc:b.base<n:=by
        rcases hc with hc|hc
        ·exact absurd rfl hc
        ·exact hc
       obtain ⟨e1,hs⟩:=hend (by rw [if_pos hc]) hs.tail.tail.tail
       exact zn (zg ⟨by show ((at_:Int),())=_;rw [e1],hs⟩)
      have hc:¬ b.base<n:=λh=>hc (.inr h)
      rw [if_neg hc] at ha3 ha4
      simp only at ha3 ha4
      refine zj hs ?_
      have hz:FocR (pt c (.cells #[.int .i64 b.base,.int .i64 b.pid,.int .i64 b.epoch,.int .i64 b.seq,.int .i64 b.kind,.int .i64 b.time,.slice z.a z.len z.cap] T.a0)::slc T.a2 4 z (b.rs.flatMap zu)::slc T.a52 1 y (body.flatMap zk)::lgQ lg M::slc T.a52 1 x (raw.flatMap zk)::dk M.d D::r) z 4 (b.rs.flatMap zu):=inferInstance
      have hs:Sat w' (pt c (.cells #[.int .i64 b.base,.int .i64 b.pid,.int .i64 b.epoch,.int .i64 b.seq,.int .i64 b.kind,.int .i64 b.time,.slice z.a z.len z.cap] T.a0)::slc T.a2 4 z (b.rs.flatMap zu)::slc T.a52 1 y (body.flatMap zk)::z0q M.gap a ⟨ix,(⟨base,s.fin,[]⟩:SegA).add done⟩::lgQ lg M::slc T.a52 1 x (raw.flatMap zk)::dk M.d D::r):=hs
      have hml:((m:Nat):Int)=((frL b).length:Nat):=by rw [hfrb]
      show (Prog.call F.a136 [_,.agg _,.int .i64 ((m:Nat):Int)] _ _).wp P _ _ _
      rw [hml]
      refine z8 (z00o (gap:=M.gap) (a:=a) (t:=⟨ix,(⟨base,s.fin,[]⟩:SegA).add done⟩) b z d1 d3 (by show ((⟨base,s.fin,[]⟩:SegA).add done).file.length+_<=_;rw [<- ha5];omega) hs) λ_ w' hs=>?_
      obtain ⟨rfl,hs⟩:=hs
      refine zd ?_
      have e6:((⟨base,s.fin,[]⟩:SegA).add done).add [b]=(⟨base,s.fin,[]⟩:SegA).add (done++[b]):=add_add _ _ _
      have hs:Sat w' (z0q M.gap a ⟨ix,((⟨base,s.fin,[]⟩:SegA).add done).add [b]⟩::_):=hs
      rw [e6] at hs
      have hs:=z47 hs
      refine zi ?_
      refine zb hs ?_
      refine wp_lt ?_
      rw [w64 (by omega) (by omega)]
      refine wp_lt ?_
      have en2:z0i ((⟨base,s.fin,[]⟩:SegA).add (done++[b])).bs=b.base+zp b:=by
       show z0i ([]++(done++[b]).map BatM.p)=_
       rw [List.nil_append,List.map_append]
       exact z3x _ _
      rw [show z0i (SegM.s ⟨ix,(⟨base,s.fin,[]⟩:SegA).add (done++[b])⟩).bs=b.base+zp b from en2]
      have hs:=z2u ⟨ix,(⟨base,s.fin,[]⟩:SegA).add (done++[b])⟩ hs
      have ec:(at_:Int)+((frL b).length:Nat)=((at_+m:Nat):Int):=by rw [hfrb];omega
      rw [ec]
      refine z0z k ⟨at_+m,b.base+zp b,done++[b],rfl,by omega,by omega,?_,?_,?_,hs.sub⟩
      ·rw [ha3,List.append_assoc,List.drop_drop];rfl
      ·rw [ha4,List.drop_drop];omega
      ·rw [<- e6,z7b,List.length_append,<- ha5]
       simp only [List.flatMap_cons,List.flatMap_nil,List.append_nil]
       omega
   clear hs
   rintro _ w3 ⟨rfl,hs⟩
   refine zl ?_
   have hs:=hs.pick [1]
   refine z8 (z01c (lg:=lg) a ⟨ix,s⟩ (by omega) hs) λ_ w' hs=>?_
   obtain ⟨z,rfl,hs⟩:=hs
   refine zd ?_
   have hfin2:∀ {w:World} {D':DiskA},Sat w (lgQ lg { M with z:=z,SM:=M.SM++[(a,⟨ix,s⟩)] }::dk M.d D'::r)->∃ M':LogM,(M'.d=M.d/\M'.pre=M.pre/\M'.seg=M.seg/\M'.gap=M.gap)/\M'.l=M.l++[s]/\M'.SM.length<=M.SM.length+1/\Sat w (lgQ lg M'::dk M.d D'::r):=λhs =>
    ⟨{ M with z:=z,SM:=M.SM++[(a,⟨ix,s⟩)] },⟨rfl,rfl,rfl,rfl⟩,by unfold LogM.l;simp,by simp,hs⟩
   refine zf (λhc=>?_) λhc=>?_
   ·have hc:mm=raw.length:=by omega
    rw [if_pos hc]
    exact ⟨rfl,rfl,hfin2 hs.sub⟩
   ·rw [if_neg (show ¬ mm=raw.length by omega)]
    refine zi ?_
    obtain ⟨hokm2,hs⟩:=z9o hs
    refine zb hs ?_
    refine z8 (z09z (d:=M.d) (A:=D) nm ((mm:Nat):Int) hs) λ_ w' hs=>?_
    obtain ⟨rfl,hs⟩:=hs
    refine zd ?_
    refine wp_lt ?_
    have hs:=z4q { M with z:=z,SM:=M.SM++[(a,⟨ix,s⟩)] } hokm2 (hs.pick [1,1])
    exact ⟨rfl,rfl,hfin2 hs.sub⟩
end
def z55 (a:Nat) (outs:List BatM):HP:=HP.ex λz:Sl=>HP.star (pt a (.cells #[.slice z.a z.len z.cap] T.a36)) (HP.star (slc T.a0 7 z (outs.flatMap z00)) (z1n outs))
section
variable {w:World} {l r r1 r2:List HP} {lg ao:Nat} {M:LogM} {A:LogA} {D:DiskA} {gap:Int} {a:Nat} {t:SegM} {outs:List BatM}
theorem zmj (hs:Sat w (z55 ao outs::l)):∃ z:Sl,Sat w (pt ao (.cells #[.slice z.a z.len z.cap] T.a36)::slc T.a0 7 z (outs.flatMap z00)::z1n outs::l):=by
 obtain ⟨z,hs⟩:=hs.ex
 have hs:=hs.star
 exact ⟨z,((hs.pick [1]).star).pick [2]⟩
theorem zdi {z:Sl} (hs:Sat w (pt ao (.cells #[.slice z.a z.len z.cap] T.a36)::slc T.a0 7 z (outs.flatMap z00)::z1n outs::l)):Sat w (z55 ao outs::l) :=
 .ex_mk z (.star_mk (((hs.pick [1,1]).star_mk).pick [1]))
theorem zyi {b:BatM} (hs:Sat w (slc T.a2 4 b.x (b.rs.flatMap zu)::z1n outs::l)):Sat w (z1n (outs++[b])::l):=by
 have h1:Sat w (HP.all ((b::outs).map rsP)::l):=by
  have h2:Sat w (rsP b::HP.all (outs.map rsP)::l):=hs
  exact h2.all_put
 exact h1.all_perm ((List.perm_append_comm (l₁:=[b]) (l₂:=outs)).map rsP)
theorem zlc (hs:Sat w l):Sat w (z1n []::l):=hs.all_nil
theorem zb3 {b:BatM} (hb:b ∈ outs):FocR (z1n outs::l) b.x 4 (b.rs.flatMap zu):=⟨λw hs=>by
 obtain ⟨L,hs⟩:=hs.all_mem (f:=rsP) hb
 exact Sat.rd hs⟩
theorem z07b (b:BatM) (off most:Int) (a1 a2:Nat) (ho : -9223372036854775808<=off/\off<9223372036854775808) (hcap:b.x.len<=b.x.cap) (hol:outs.length<=2000000) [hf:Fo l z55 ao outs r] [h1:FocB r a1 (.cells [.int .i64 off].toArray T.a14) r1] [h2:FocB r a2 (.cells [.int .i64 most].toArray T.a13) r2] [hb:FocR r b.x 4 (b.rs.flatMap zu)] (hs:Sat w l) :
  Ret P F.a115 #[.agg (z00 b).toArray,.pointer (some ⟨a1,0,none⟩),.pointer (some ⟨ao,0,none⟩),.pointer (some ⟨a2,0,none⟩)] w λvs w'=>∃ outs':List BatM,vs=[.bool (decide ((outs'.length:Int)<most))]/\outs'.map BatM.p=outs.map BatM.p++(z0t off b).toList.map BatM.p/\Sat w' (z55 ao outs'::r) :=
 zoe b.base b.pid b.epoch b.seq b.kind b.time b.x _ _ _ <| by
  delta z01x AO Aa Ab Ac Ah Ai Aj Ak Al An Ax B5 BN BQ Ba Bb
  obtain ⟨z,hs⟩:=zmj (hs.perm hf.perm)
  have hl:=hs.slen z (xs:=outs) (enc:=z00)
  refine zr hs λa0 w' hs=>?_
  refine zj hs ?_
  refine zb hs ?_
  refine z8 (z045 b off ho hcap hs) λ_ w' hs=>?_
  rcases hs with ⟨hn,rfl,hs⟩|⟨c,zc,hc,rfl,hs⟩
  ·refine ⟨(0,0,0,0,0,0,z8b,false,()),rfl,trivial,zel _ _ _ _ _ _ _ _ ?_⟩
   refine zt hs λa3 w' hs=>?_
   refine zv hs λw' hs=>?_
   refine wp_lt ?_
   refine z44 ?_
   refine z03 ?_ (by simp)
   refine z5a ?_
   refine zb hs ?_
   refine zb hs ?_
   refine wp_lt ?_
   refine ⟨rfl,outs,by rw [hl],by rw [hn];simp,zdi (z:=z) hs.sub⟩
  ·refine ⟨(c.base,c.pid,c.epoch,c.seq,c.kind,c.time,zc,true,()),rfl,trivial,zel _ _ _ _ _ _ _ _ ?_⟩
   refine zt hs λa3 w' hs=>?_
   refine zv hs λw' hs=>?_
   refine wp_lt ?_
   refine z44 ?_
   refine z0u ?_ (by trivial)
   refine zb hs ?_
   refine zj hs ?_
   refine z5j (xs:=outs) (enc:=z00) (y:=c.at zc) hs (λz' w' hs=>?_) rfl (by omega)
   refine z08 hs λw' hs=>?_
   refine z5a ?_
   refine zb hs ?_
   refine zb hs ?_
   refine wp_lt ?_
   have hs:Sat w' (pt ao (.cells #[.slice z'.a z'.len z'.cap] T.a36)::slc T.a0 7 z' ((outs++[c.at zc]).flatMap z00)::pt a3 _::slc T.a2 4 (c.at zc).x ((c.at zc).rs.flatMap zu)::pt a0 _::z1n outs::r):=hs
   have hl':=hs.slen z' (xs:=outs++[c.at zc]) (enc:=z00)
   refine ⟨rfl,outs++[c.at zc],by rw [hl'],by rw [hc];simp;rfl,?_⟩
   have hs:=zyi (hs.pick [3,4])
   exact zdi (z:=z') (hs.pick [1,1,0]).sub
theorem z058 (off:Int) (hok:SegOk t.s) (hfl:t.s.file.length<=4194304) [hf:Fo l (z0q gap) a t r] (hs:Sat w l):Ret P F.a134 #[.pointer (some ⟨a,0,none⟩),.int .i64 off] w λvs w'=>vs=[.int .i64 (zxa t.s (z3b (t.s.idx gap).l off))]/\Sat w' (z0q gap a t::r) :=
 zox _ off <| by
  delta z02g AB AC AG AP AS AT AY Aa Ab Ac Ad Af Ah Ak An
  have hi:IdxOk gap (shL t.s.base t.s.fin).length t.s.bs (t.s.idx gap):=zlz gap t.s.bs.length (n:=t.s.base) (q:=(shL t.s.base t.s.fin).length) rfl hok.base.1 (by omega) hok.bs (by have:=z2r t.s;omega)
  have hs:=z47 (hs.perm hf.perm)
  refine zi ?_
  refine zb hs ?_
  refine z8 (z066 (b:=t.ix) off hi.offs hs) λ_ w' hs=>?_
  obtain ⟨rfl,hs⟩:=hs
  refine ⟨((orE (z3b (t.s.idx gap).l off)).offset,(orE (z3b (t.s.idx gap).l off)).place,(orE (z3b (t.s.idx gap).l off)).before,(z3b (t.s.idx gap).l off).isSome,()),rfl,trivial,z01f _ _ _ _ ?_⟩
  refine zt hs λc w' hs=>?_
  refine zv hs λw' hs=>?_
  refine wp_lt ?_
  cases hfe:z3b (t.s.idx gap).l off with
  | some e =>
   refine z0u ?_ (by rfl)
   rw [hfe] at hs
   refine zb hs ?_
   refine wp_lt ?_
   exact ⟨rfl,rfl,z2u t hs.sub⟩
  | none =>
   refine z03 ?_ (by simp)
   refine z02 hs λw' hs=>?_
   refine zi ?_
   refine zb hs ?_
   refine zi ?_
   refine zb hs ?_
   have hb:=hok.base
   have hfn:0<=t.s.fin/\t.s.fin<9223372036854775808:=by have:=hok.fin;omega
   refine z8 (zlx t.s.base t.s.fin (by omega) hfn hs) λ_ w' hs=>?_
   obtain ⟨y,rfl,hs⟩:=hs
   refine zd ?_
   have hl:=hs.slen y (xs:=shL t.s.base t.s.fin) (enc:=zk)
   refine wp_lt ?_
   refine ze ?_
   refine ⟨rfl,?_,z2u t hs.sub⟩
   rw [hl]
   rfl
set_option maxHeartbeats 1000000 in
theorem z07e (off:Int) (most:Nat) (a1 a2:Nat) (ho : -9223372036854775808<=off/\off<9223372036854775808) {i k kp:Nat} (hsi:i<M.SM.length) (hok:SegOk M.SM[i].2.s) (hfile:z06 D.fs (zo M.pre M.SM[i].2.s.base zw)=some (M.SM[i].2.s.file,kp)) (hk:k<=M.SM[i].2.s.bs.length) (hout:outs.length<most) (hol:outs.length+M.SM[i].2.s.bs.length<=2000000)
  (hs:Sat w (z55 ao outs::lgQ lg M::dk M.d D::pt a1 (.cells [.int .i64 off].toArray T.a14)::pt a2 (.cells [.int .i64 (most:Int)].toArray T.a13)::r)) :
  Ret P F.a127 #[.pointer (some ⟨lg,0,none⟩),.pointer (some ⟨M.SM[i].1,0,none⟩),.int .i64 (z35 M.SM[i].2.s k:Nat),.func (.func F.a115) #[] #[.pointer (some ⟨a1,0,none⟩),.pointer (some ⟨ao,0,none⟩),.pointer (some ⟨a2,0,none⟩)]] w λvs w' =>
   ∃ outs':List BatM,vs=[.bool (decide (outs.length+((M.SM[i].2.s.bs.drop k).filterMap (z0t off)).length<most))]/\outs'.map BatM.p=(outs.map BatM.p++(M.SM[i].2.s.bs.drop k).filterMap (z0t off)).take most/\outs'.length<=outs.length+M.SM[i].2.s.bs.length /\
    Sat w' (z55 ao outs'::lgQ lg M::dk M.d D::pt a1 (.cells [.int .i64 off].toArray T.a14)::pt a2 (.cells [.int .i64 (most:Int)].toArray T.a13)::r) :=
 zoq _ _ _ _ <| by
  delta z029 AC AF AG AJ AP AY Aa Ab Ac Af Ah Aj Ak Al Am An Ao Au Aw Ax BO Ba Bc Bi Bk Bl
  obtain ⟨m_,FS_,-,hokD,-⟩:=z2b (hs.pick [2])
  obtain ⟨hokm,hs⟩:=z2y (hs.pick [1])
  have hs:=z47 (z9w (hs.pick [2]) hsi)
  generalize hT:M.SM[i]=T0 at *
  obtain ⟨a,t⟩:=T0
  dsimp only at hok hfile hk hol hs ⊢
  have hrl:t.s.file.length<=4194304:=Nat.le_trans (zdu hfile) hokD.used
  have hbl:=zi3 hok
  have hb0:=hok.base
  refine zm (λq w'=>∃ x:Sl,q=(x,())/\x.len<=x.cap/\Sat w' (slc T.a52 1 x (t.s.file.flatMap zk)::pt a (.cells #[.pointer (some ⟨t.ix,0,none⟩),.int .i64 t.s.base,.int .i64 t.s.fin,.int .i64 (z0i t.s.bs),.int .i64 (z1i (-1) t.s.bs),.int .i64 (t.s.file.length:Nat)] T.a48)::z2j t.ix (t.s.idx M.gap)::HP.all ((M.SM.eraseIdx i).map λt=>z0q M.gap t.1 t.2)::pt lg (.cells #[.pointer (some ⟨M.d,0,none⟩),.string M.pre,.int .i64 M.seg,.int .i64 M.gap,.slice M.z.a M.z.len M.z.cap] T.a47)::slc T.a32 1 M.z ((M.SM.map Prod.fst).flatMap z1w)::z55 ao outs::dk M.d D::pt a1 (.cells [.int .i64 off].toArray T.a14)::pt a2 (.cells [.int .i64 (most:Int)].toArray T.a13)::r)) ?_ ?_
  ·refine z02 hs λw' hs=>?_
   refine zi ?_
   refine z0s hs ?_
   refine zi ?_
   refine zb hs ?_
   refine z8 (z89 (lg:=lg) t.s.base (by omega) (ByteArray.mk #[46,108,111,103]) (by decide) M.pre hokm.size hs) λ_ w' hs=>?_
   obtain ⟨rfl,hs⟩:=hs
   refine zd ?_ (by first|trivial|(repeat (first|exact trivial|exact λ_=>z07 hs|exact λ_=>z0d hs|refine And.intro ?_ ?_)))
   refine ze ?_
   have en:zo M.pre t.s.base (bl (ByteArray.mk #[46,108,111,103]))=zo M.pre t.s.base zw:=rfl
   rw [en]
   refine z8 (zhh (d:=M.d) (A:=D) (zo M.pre t.s.base zw) hs) λ_ w' hs=>?_
   rcases hs with ⟨f,hff,hfn,x,rfl,hs⟩|⟨hno,rfl,hs⟩
   ·refine zd ?_
    refine wp_lt ?_
    refine ze ?_
    have hfd:z06 D.fs f.name=some (f.b,f.kept):=zcz (z2x hokD.sorted) hff
    rw [hfn,hfile] at hfd
    simp only [Option.some.injEq,Prod.mk.injEq] at hfd
    rw [<- hfd.1] at hs
    have hcap:=hs.slc_cap
    exact zg ⟨x,rfl,hcap,hs.sub⟩
   ·rw [z7s.2 hno] at hfile
    cases hfile
  clear hs
  rintro _ w ⟨x,rfl,hcap,hs⟩
  refine zl ?_
  refine wp_lt ?_
  have hl:=hs.slen x (xs:=t.s.file) (enc:=zk)
  have hfin:∀ {w:World} {outs':List BatM},Sat w (slc T.a52 1 x (t.s.file.flatMap zk)::pt a (.cells #[.pointer (some ⟨t.ix,0,none⟩),.int .i64 t.s.base,.int .i64 t.s.fin,.int .i64 (z0i t.s.bs),.int .i64 (z1i (-1) t.s.bs),.int .i64 (t.s.file.length:Nat)] T.a48)::z2j t.ix (t.s.idx M.gap)::HP.all ((M.SM.eraseIdx i).map λt=>z0q M.gap t.1 t.2)::pt lg (.cells #[.pointer (some ⟨M.d,0,none⟩),.string M.pre,.int .i64 M.seg,.int .i64 M.gap,.slice M.z.a M.z.len M.z.cap] T.a47)::slc T.a32 1 M.z ((M.SM.map Prod.fst).flatMap z1w)::z55 ao outs'::dk M.d D::pt a1 (.cells [.int .i64 off].toArray T.a14)::pt a2 (.cells [.int .i64 (most:Int)].toArray T.a13)::r) ->
    Sat w (z55 ao outs'::lgQ lg M::dk M.d D::pt a1 (.cells [.int .i64 off].toArray T.a14)::pt a2 (.cells [.int .i64 (most:Int)].toArray T.a13)::r):=by
   intro w outs' hs
   have h1:Sat w (z0q M.gap M.SM[i].1 M.SM[i].2::HP.all ((M.SM.eraseIdx i).map λt=>z0q M.gap t.1 t.2)::pt lg (.cells #[.pointer (some ⟨M.d,0,none⟩),.string M.pre,.int .i64 M.seg,.int .i64 M.gap,.slice M.z.a M.z.len M.z.cap] T.a47)::slc T.a32 1 M.z ((M.SM.map Prod.fst).flatMap z1w)::z55 ao outs'::dk M.d D::pt a1 (.cells [.int .i64 off].toArray T.a14)::pt a2 (.cells [.int .i64 (most:Int)].toArray T.a13)::r):=by
    rw [hT]
    exact z2u t hs.tail
   have h2:=z7f hsi h1
   exact (z1r M hokm (h2.pick [1,1])).sub
  have hfull:∀ {outs':List BatM} {j:Nat},outs'.map BatM.p=outs.map BatM.p++((t.s.bs.drop k).take j).filterMap (z0t off)->outs'.length=outs.length+(((t.s.bs.drop k).take j).filterMap (z0t off)).length:=λh=>by
   have:=congrArg List.length h
   simpa using this
  refine zm (λ_ w'=>∃ outs':List BatM,outs'.map BatM.p=outs.map BatM.p++(t.s.bs.drop k).filterMap (z0t off)/\outs'.length<most/\outs'.length<=outs.length+t.s.bs.length/\Sat w' (slc T.a52 1 x (t.s.file.flatMap zk)::pt a (.cells #[.pointer (some ⟨t.ix,0,none⟩),.int .i64 t.s.base,.int .i64 t.s.fin,.int .i64 (z0i t.s.bs),.int .i64 (z1i (-1) t.s.bs),.int .i64 (t.s.file.length:Nat)] T.a48)::z2j t.ix (t.s.idx M.gap)::HP.all ((M.SM.eraseIdx i).map λt=>z0q M.gap t.1 t.2)::pt lg (.cells #[.pointer (some ⟨M.d,0,none⟩),.string M.pre,.int .i64 M.seg,.int .i64 M.gap,.slice M.z.a M.z.len M.z.cap] T.a47)::slc T.a32 1 M.z ((M.SM.map Prod.fst).flatMap z1w)::z55 ao outs'::dk M.d D::pt a1 (.cells [.int .i64 off].toArray T.a14)::pt a2 (.cells [.int .i64 (most:Int)].toArray T.a13)::r)) ?_ ?_
  rotate_left
  ·rintro _ w2 ⟨outs',h1,h2,h3,hs⟩
   have h4:=congrArg List.length h1
   simp only [List.length_map,List.length_append] at h4
   refine ⟨rfl,outs',by rw [decide_eq_true (by omega)],?_,h3,hfin hs⟩
   rw [<- h1,List.take_of_length_le]
   rw [List.length_map];omega
  refine z0c (λm v w=>∃ (j:Nat) (outs':List BatM),v=(((z35 t.s (k+j):Nat):Int),())/\k+j<=t.s.bs.length/\t.s.bs.length-(k+j)=m/\outs'.map BatM.p=outs.map BatM.p++((t.s.bs.drop k).take j).filterMap (z0t off)/\outs'.length<most/\outs'.length<=outs.length+j/\Sat w (slc T.a52 1 x (t.s.file.flatMap zk)::pt a (.cells #[.pointer (some ⟨t.ix,0,none⟩),.int .i64 t.s.base,.int .i64 t.s.fin,.int .i64 (z0i t.s.bs),.int .i64 (z1i (-1) t.s.bs),.int .i64 (t.s.file.length:Nat)] T.a48)::z2j t.ix (t.s.idx M.gap)::HP.all ((M.SM.eraseIdx i).map λt=>z0q M.gap t.1 t.2)::pt lg (.cells #[.pointer (some ⟨M.d,0,none⟩),.string M.pre,.int .i64 M.seg,.int .i64 M.gap,.slice M.z.a M.z.len M.z.cap] T.a47)::slc T.a32 1 M.z ((M.SM.map Prod.fst).flatMap z1w)::z55 ao outs'::dk M.d D::pt a1 (.cells [.int .i64 off].toArray T.a14)::pt a2 (.cells [.int .i64 (most:Int)].toArray T.a13)::r)) (t.s.bs.length-k)
   ⟨0,outs,rfl,by omega,by omega,by simp,hout,by omega,hs⟩ ?_
  clear hs
  rintro m _ w ⟨j,outs',rfl,hj,hm,hmap,hlt,hol',hs⟩
  refine zl ?_
  refine z0n ?_
  refine zb hs ?_
  have hple:=zim t.s (k+j)
  refine zf (λhc=>?_) λhc=>?_
  rotate_left
  ·have hend:k+j=t.s.bs.length:=by
    apply Decidable.byContradiction
    intro hne
    have hlt2:k+j<t.s.bs.length:=by omega
    have h1:=zk0 t.s hlt2
    have h2:=zim t.s (k+j+1)
    have h3:=z5b (hok.bs.valid _ (List.getElem_mem hlt2)).1
    exact hc ⟨by omega,by omega⟩
   refine zn (zg ⟨outs',?_,hlt,by omega,hs⟩)
   rw [hmap,List.take_of_length_le (by rw [List.length_drop];omega)]
  have hjl:k+j<t.s.bs.length:=by
   apply Decidable.byContradiction
   intro hne
   have he:k+j=t.s.bs.length:=by omega
   have h1:=z001 t.s
   rw [he] at hc
   have hc1:((z35 t.s t.s.bs.length:Nat):Int)<(x.len:Nat):=hc.1
   omega
  obtain ⟨hfst,hdec⟩:=zsf hok hjl
  obtain ⟨hvb,hpb⟩:=hok.bs.valid _ (List.getElem_mem hjl)
  have hblen:=z68 hvb
  have hxl:z35 t.s (k+j)<=x.len:=by omega
  refine wp_must (by omega) ?_
  rw [Int.toNat_natCast]
  have hxc:FocR (slc T.a52 1 x (t.s.file.flatMap zk)::pt a (.cells #[.pointer (some ⟨t.ix,0,none⟩),.int .i64 t.s.base,.int .i64 t.s.fin,.int .i64 (z0i t.s.bs),.int .i64 (z1i (-1) t.s.bs),.int .i64 (t.s.file.length:Nat)] T.a48)::z2j t.ix (t.s.idx M.gap)::HP.all ((M.SM.eraseIdx i).map λt=>z0q M.gap t.1 t.2)::pt lg (.cells #[.pointer (some ⟨M.d,0,none⟩),.string M.pre,.int .i64 M.seg,.int .i64 M.gap,.slice M.z.a M.z.len M.z.cap] T.a47)::slc T.a32 1 M.z ((M.SM.map Prod.fst).flatMap z1w)::z55 ao outs'::dk M.d D::pt a1 (.cells [.int .i64 off].toArray T.a14)::pt a2 (.cells [.int .i64 (most:Int)].toArray T.a13)::r) ⟨z0w x.a 1 (z35 t.s (k+j)) x.cap,x.len-z35 t.s (k+j),x.cap-z35 t.s (k+j)⟩ 1 ((t.s.file.drop (z35 t.s (k+j))).flatMap zk):=FocR.post hcap
  refine z8 (zbs ⟨z0w x.a 1 (z35 t.s (k+j)) x.cap,x.len-z35 t.s (k+j),x.cap-z35 t.s (k+j)⟩ (t.s.file.drop (z35 t.s (k+j))) (by show x.len-_<=x.cap-_;omega) (by rw [List.length_drop];omega) hs) λ_ w' hs=>?_
  obtain ⟨y,rfl,hs⟩:=hs
  rw [hfst] at hs ⊢
  refine zd ?_
  refine wp_lt ?_
  refine wp_lt ?_
  dsimp only [Option.getD,Option.isSome]
  have hs:Sat w' (slc T.a52 1 y ((z2p t.s.bs[k+j]).flatMap zk)::_):=hs
  refine z03 ?_ (by simp)
  refine z8 (zln y (z2p t.s.bs[k+j]) (by omega) hs) λ_ w' hs=>?_
  rcases hs with ⟨b,z,hdec2,rfl,hs⟩|⟨hdec2,rfl,hs⟩
  rotate_left
  ·rw [hdec] at hdec2;cases hdec2
  rw [hdec] at hdec2
  simp only [Option.some.injEq] at hdec2
  subst hdec2
  generalize hbb:t.s.bs[k+j]=b at *
  refine ⟨(b.base,b.pid,b.epoch,b.seq,b.kind,b.time,z,0,()),rfl,trivial,zel _ _ _ _ _ _ _ _ ?_⟩
  refine zt hs λc w' hs=>?_
  refine zv hs λw' hs=>?_
  refine wp_lt ?_
  have hzc:z.len<=z.cap:=(hs.pick [1]).slc_cap
  have htk:(t.s.bs.drop k).take (j+1)=(t.s.bs.drop k).take j++[b]:=by
   rw [List.take_succ_eq_append_getElem (by rw [List.length_drop];omega),List.getElem_drop,hbb]
  have hfp:(z0t off b).toList.map BatM.p=(z0t off b).toList:=by
   cases hfb:z0t off b with
   | none=>rfl
   | some c=>simp [zqf hpb hfb]
  have hfm:((t.s.bs.drop k).take (j+1)).filterMap (z0t off)=((t.s.bs.drop k).take j).filterMap (z0t off)++(z0t off b).toList:=by
   rw [htk,List.filterMap_append]
   congr 1
  have hpos:=zk0 t.s hjl
  rw [hbb] at hpos
  have hple2:=zim t.s (k+j+1)
  refine z44 ?_
  refine zj hs ?_
  refine z03 ?_ (by simp)
  have hzb:FocR (pt c (.cells #[.int .i64 b.base,.int .i64 b.pid,.int .i64 b.epoch,.int .i64 b.seq,.int .i64 b.kind,.int .i64 b.time,.slice z.a z.len z.cap] T.a0)::slc T.a2 4 z (b.rs.flatMap zu)::slc T.a52 1 y ((z2p b).flatMap zk)::slc T.a52 1 x (t.s.file.flatMap zk)::pt a (.cells #[.pointer (some ⟨t.ix,0,none⟩),.int .i64 t.s.base,.int .i64 t.s.fin,.int .i64 (z0i t.s.bs),.int .i64 (z1i (-1) t.s.bs),.int .i64 (t.s.file.length:Nat)] T.a48)::z2j t.ix (t.s.idx M.gap)::HP.all ((M.SM.eraseIdx i).map λt=>z0q M.gap t.1 t.2)::pt lg (.cells #[.pointer (some ⟨M.d,0,none⟩),.string M.pre,.int .i64 M.seg,.int .i64 M.gap,.slice M.z.a M.z.len M.z.cap] T.a47)::slc T.a32 1 M.z ((M.SM.map Prod.fst).flatMap z1w)::dk M.d D::pt a1 (.cells [.int .i64 off].toArray T.a14)::pt a2 (.cells [.int .i64 (most:Int)].toArray T.a13)::r) (b.at z).x 4 ((b.at z).rs.flatMap zu):=(inferInstance:FocR (pt c (.cells #[.int .i64 b.base,.int .i64 b.pid,.int .i64 b.epoch,.int .i64 b.seq,.int .i64 b.kind,.int .i64 b.time,.slice z.a z.len z.cap] T.a0)::slc T.a2 4 z (b.rs.flatMap zu)::_) z 4 (b.rs.flatMap zu))
  have hs:Sat w' (z55 ao outs'::pt c (.cells #[.int .i64 b.base,.int .i64 b.pid,.int .i64 b.epoch,.int .i64 b.seq,.int .i64 b.kind,.int .i64 b.time,.slice z.a z.len z.cap] T.a0)::slc T.a2 4 z (b.rs.flatMap zu)::slc T.a52 1 y ((z2p b).flatMap zk)::slc T.a52 1 x (t.s.file.flatMap zk)::pt a (.cells #[.pointer (some ⟨t.ix,0,none⟩),.int .i64 t.s.base,.int .i64 t.s.fin,.int .i64 (z0i t.s.bs),.int .i64 (z1i (-1) t.s.bs),.int .i64 (t.s.file.length:Nat)] T.a48)::z2j t.ix (t.s.idx M.gap)::HP.all ((M.SM.eraseIdx i).map λt=>z0q M.gap t.1 t.2)::pt lg (.cells #[.pointer (some ⟨M.d,0,none⟩),.string M.pre,.int .i64 M.seg,.int .i64 M.gap,.slice M.z.a M.z.len M.z.cap] T.a47)::slc T.a32 1 M.z ((M.SM.map Prod.fst).flatMap z1w)::dk M.d D::pt a1 (.cells [.int .i64 off].toArray T.a14)::pt a2 (.cells [.int .i64 (most:Int)].toArray T.a13)::r):=hs.sub
  have htold:=z07b (ao:=ao) (outs:=outs') (b.at z) off (most:Int) a1 a2 ho hzc (by omega) hs
  refine ⟨F.a115,#[],#[.pointer (some ⟨a1,0,none⟩),.pointer (some ⟨ao,0,none⟩),.pointer (some ⟨a2,0,none⟩)],rfl,by kernel_rfl,?_⟩
  refine Calls.mono htold λe w' ⟨vs,he,outs2,hvs,hmap2,hs⟩=>⟨(decide ((outs2.length:Int)<(most:Int)),()),by rw [he,hvs];rfl,trivial,?_⟩
  refine z5a ?_
  have hfe:(z0t off (b.at z)).toList.map BatM.p=(z0t off b).toList:=by
   have hpz:b={ (b.at z) with x:=z8b }:=by rw [<- hpb];rfl
   have e2:z0t off (b.at z)=(z0t off b).map λc=>c.at z:=by
    unfold z0t
    have ev:zy (b.at z)=zy b:=rfl
    have en:z1s (b.at z)=z1s b:=rfl
    have em:z0b (b.at z)=z0b b:=rfl
    rw [ev,en,em]
    split
    ·rfl
    ·show (if z0b b=true\/off<=b.base then _ else _)=_
     split <;> rfl
   rw [e2]
   cases hfb:z0t off b with
   | none=>rfl
   | some c =>
    have:=zqf hpb hfb
    show [(c.at z).p]=[c]
    have e3:(c.at z).p=c.p:=rfl
    rw [e3,this]
  rw [hfe,hmap,List.append_assoc,<- hfm] at hmap2
  have hlen2:=hfull hmap2
  have hfl1:(z0t off b).toList.length<=1:=by cases z0t off b <;> simp
  have hlen1:=hfull hmap
  rw [hfm,List.length_append] at hlen2
  have hback:∀ {w:World},Sat w (z55 ao outs2::pt c (.cells #[.int .i64 b.base,.int .i64 b.pid,.int .i64 b.epoch,.int .i64 b.seq,.int .i64 b.kind,.int .i64 b.time,.slice z.a z.len z.cap] T.a0)::slc T.a2 4 z (b.rs.flatMap zu)::slc T.a52 1 y ((z2p b).flatMap zk)::slc T.a52 1 x (t.s.file.flatMap zk)::pt a (.cells #[.pointer (some ⟨t.ix,0,none⟩),.int .i64 t.s.base,.int .i64 t.s.fin,.int .i64 (z0i t.s.bs),.int .i64 (z1i (-1) t.s.bs),.int .i64 (t.s.file.length:Nat)] T.a48)::z2j t.ix (t.s.idx M.gap)::HP.all ((M.SM.eraseIdx i).map λt=>z0q M.gap t.1 t.2)::pt lg (.cells #[.pointer (some ⟨M.d,0,none⟩),.string M.pre,.int .i64 M.seg,.int .i64 M.gap,.slice M.z.a M.z.len M.z.cap] T.a47)::slc T.a32 1 M.z ((M.SM.map Prod.fst).flatMap z1w)::dk M.d D::pt a1 (.cells [.int .i64 off].toArray T.a14)::pt a2 (.cells [.int .i64 (most:Int)].toArray T.a13)::r) ->
    Sat w (slc T.a52 1 x (t.s.file.flatMap zk)::pt a (.cells #[.pointer (some ⟨t.ix,0,none⟩),.int .i64 t.s.base,.int .i64 t.s.fin,.int .i64 (z0i t.s.bs),.int .i64 (z1i (-1) t.s.bs),.int .i64 (t.s.file.length:Nat)] T.a48)::z2j t.ix (t.s.idx M.gap)::HP.all ((M.SM.eraseIdx i).map λt=>z0q M.gap t.1 t.2)::pt lg (.cells #[.pointer (some ⟨M.d,0,none⟩),.string M.pre,.int .i64 M.seg,.int .i64 M.gap,.slice M.z.a M.z.len M.z.cap] T.a47)::slc T.a32 1 M.z ((M.SM.map Prod.fst).flatMap z1w)::z55 ao outs2::dk M.d D::pt a1 (.cells [.int .i64 off].toArray T.a14)::pt a2 (.cells [.int .i64 (most:Int)].toArray T.a13)::r):=λhs=>hs.sub
  have hs:=hback hs
  refine zf (λh5=>?_) λh5=>?_
  ·have h5:most<=outs2.length:=by
    have:¬ ((outs2.length:Int)<(most:Int)):=by simpa using h5
    omega
   have h6:outs2.length=most:=by omega
   have h7:((t.s.bs.drop k).filterMap (z0t off))=((t.s.bs.drop k).take (j+1)).filterMap (z0t off)++((t.s.bs.drop k).drop (j+1)).filterMap (z0t off):=by
    rw [<- List.filterMap_append,List.take_append_drop]
   have h8:=congrArg List.length hmap2
   simp only [List.length_map,List.length_append] at h8
   refine zn (zn ⟨rfl,outs2,?_,?_,by omega,hfin hs⟩)
   ·rw [decide_eq_false]
    rw [h7,List.length_append]
    omega
   ·rw [h7,<- List.append_assoc,<- hmap2]
    rw [List.take_append_of_le_length (by rw [List.length_map];omega),List.take_of_length_le (by rw [List.length_map];omega)]
  ·have h5:outs2.length<most:=by
    have:((outs2.length:Int)<(most:Int)):=by simpa using h5
    omega
   have ew:IntKind.wrap .i64 (((z35 t.s (k+j):Nat):Int)+((frL b).length:Nat))=((z35 t.s (k+(j+1)):Nat):Int):=by
    rw [show k+(j+1)=k+j+1 by omega,hpos,w64 (by omega) (by omega)];omega
   refine z2a (y:=((z35 t.s (k+(j+1)):Nat):Int)) ?_ ew
   exact z0z (t.s.bs.length-(k+(j+1))) ⟨j+1,outs2,rfl,by omega,rfl,hmap2,h5,by omega,hs⟩
end
def zl2 (pre:ByteArray) (l:List SegA) (D:DiskA):Prop:=∀ s ∈ l,∃ k,z06 D.fs (zo pre s.base zw)=some (s.file,k)
theorem zje {l:List SegA} (hok:z0h 0 l):∀ s ∈ l,z14 l<=s.base:=by
 cases l with
 | nil=>intro s hs;cases hs
 | cons a l =>
  intro s hs
  show a.base<=s.base
  rcases List.mem_cons.1 hs with rfl|hs
  ·exact Int.le_refl _
  ·have:=(hok.2.2.mem s hs).2
   omega
theorem zh0 {l:List SegA} (hok:z0h 0 l):z14 l<=zh l:=by
 by_cases h:l=[]
 ·subst h;decide
 ·obtain ⟨l0,s,rfl⟩:=z3a h
  have h1:=zje hok s (by simp)
  have h2:=(z5v (hok.mem s (by simp)).1).1
  unfold zh
  rw [z20]
  simp only
  omega
theorem z03m {n:Int} {bs:List BatM} (h:z1p n bs):∀ b ∈ bs,n<=b.base:=by
 intro b hb
 obtain ⟨j,hj,rfl⟩:=List.mem_iff_getElem.1 hb
 cases j with
 | zero =>
  cases bs with
  | nil=>simp at hj
  | cons c cs=>exact h.2.2.1
 | succ j =>
  have h1:=h.lt 0 (j+1) hj (by omega)
  obtain ⟨s1,-,-,-,-⟩:=z15 _ (h.valid _ (List.getElem_mem (show 0<bs.length by omega))).1
  omega
theorem zwm {off:Int} {b:BatM} (hv:zy b=0) (h:off<=b.base):z0t off b=some b:=by
 obtain ⟨s1,-,-,-,-⟩:=z15 b hv
 unfold z0t
 rw [if_neg,if_pos (.inr h)]
 rintro (hh|hh)
 ·exact hh hv
 ·unfold z1s at hh;rw [if_neg (by rw [hv];simp)] at hh;omega
theorem zlr {α:Type} {f:α->Option α} {l:List α} (h:∀ x ∈ l,f x=some x):l.filterMap f=l:=by
 induction l with
 | nil=>rfl
 | cons a l ih=>rw [List.filterMap_cons,h a (List.mem_cons_self ..)];simp only;rw [ih λx hx=>h x (List.mem_cons_of_mem _ hx)]
theorem zmq {l:List SegA} (hok:z0h 0 l) {n:Int} (hn:(z04 l).length<=n) (h1:1<=n):z58 l (z14 l) n=(0,z04 l):=by
 have:=zh0 hok
 unfold z58
 rw [if_neg (by omega),if_neg (by omega),zlr,List.take_of_length_le (by omega)]
 intro b hb
 obtain ⟨s,hs,hbs⟩:=List.mem_flatMap.1 hb
 have h2:=hok.mem s hs
 exact zwm (h2.1.bs.valid b hbs).1 (by have:=zje hok s hs;have:=z03m h2.1.bs b hbs;omega)
section
variable {w:World} {l r r1 r2:List HP} {lg ao:Nat} {M:LogM} {A:LogA} {D:DiskA} {gap:Int} {a:Nat} {t:SegM} {outs:List BatM}
theorem z00a (i:Nat) (a0 a1:Nat) (off:Int) (hi:i<M.SM.length)
  (hs:Sat w (pt a0 (.cells [.pointer (some ⟨lg,0,none⟩)].toArray T.a31)::pt a1 (.cells [.int .i64 off].toArray T.a14)::lgQ lg M::r)) :
  Ret P F.a114 #[.int .i64 (i:Int),.pointer (some ⟨a0,0,none⟩),.pointer (some ⟨a1,0,none⟩)] w λvs w'=>vs=[.bool (decide (M.SM[i].2.s.base>off))]/\Sat w' (pt a0 (.cells [.pointer (some ⟨lg,0,none⟩)].toArray T.a31)::pt a1 (.cells [.int .i64 off].toArray T.a14)::lgQ lg M::r) :=
 zod _ _ _ <| by
  delta z01w AB AC AG AI AP AY Ak An Ax BB BQ
  obtain ⟨hokm,hs⟩:=z2y (hs.pick [2])
  refine z02 hs λw' hs=>?_
  refine zb hs ?_
  refine zi ?_
  refine zb hs ?_
  refine z27 hs (xs:=M.SM.map Prod.fst) (enc:=z1w) i (by rw [List.length_map];exact hi) ?_
  have e0:(M.SM.map Prod.fst)[i]'(by rw [List.length_map];exact hi)=M.SM[i].1:=by simp
  rw [e0]
  refine zi ?_
  have hs:=z47 (z9w (hs.pick [2]) hi)
  refine zb hs ?_
  refine zb hs ?_
  refine wp_lt ?_
  refine ze ?_
  have hs:=z7f hi (z2u M.SM[i].2 hs)
  have hs:=z1r M hokm (hs.pick [1,1])
  exact ⟨rfl,rfl,hs.sub⟩
set_option maxHeartbeats 1000000 in
theorem zqs (off most:Int) (ho : -9223372036854775808<=off/\off<9223372036854775808) (hmo:most<9223372036854775808) {r1:List HP} [hf:Fo l lgP lg A r1] [hf2:Fo r1 dk A.d D r] (hok:z0h 0 A.l) (hhas:zl2 A.pre A.l D) (hlen:A.l.length<=1000000) (hall:(z04 A.l).length<=1000000) (hs:Sat w l) :
  Ret P F.a113 #[.pointer (some ⟨lg,0,none⟩),.int .i64 off,.int .i64 most] w λvs w'=>∃ (z:Sl) (outs:List BatM),vs=[z.v,.int .i64 (z58 A.l off most).1]/\outs.map BatM.p=(z58 A.l off most).2/\Sat w' (slc T.a0 7 z (outs.flatMap z00)::z1n outs::lgP lg A::dk A.d D::r) :=
 zoc _ off most <| by
  clear hmo
  delta z01v AA AB AC AG AI AS AY Aa Ab Af Ah Ai Aj Ak Al Am An Ar Au Av Aw Ax B2 BN Bj
  have hs:=hs.perm (hf.perm.trans (.cons _ hf2.perm))
  clear hf hf2
  obtain ⟨M,rfl,hs⟩:=z86 hs
  have hMl:M.A.l=M.l:=rfl
  have hMpre:M.A.pre=M.pre:=rfl
  have hMd:M.A.d=M.d:=rfl
  rw [hMl] at hlen hok hhas hall ⊢
  rw [hMpre] at hhas
  rw [hMd] at hs ⊢
  have hll:M.l.length=M.SM.length:=List.length_map ..
  have z5t:∀ (i:Nat) (h:i<M.SM.length),M.SM[i].2.s=M.l[i]'(by omega):=λi h=>by unfold LogM.l;simp
  obtain ⟨m_,FS_,-,hokD,-⟩:=z2b (hs.pick [1])
  refine zr hs λa0 w' hs=>?_
  refine zr hs λa1 w' hs=>?_
  refine zr hs λa2 w' hs=>?_
  refine zb hs ?_
  refine wp_lt ?_
  refine z03 ?_ (by simp)
  refine zb hs ?_
  refine wp_lt ?_
  have hfin0:∀ {w:World} {L:List HP},Sat w (lgQ lg M::dk M.d D::r)->Sat w (slc T.a0 7 ⟨none,0,0⟩ (([]:List BatM).flatMap z00)::z1n []::lgP lg M.A::dk M.d D::r):=λhs=>(zlc (z4p M hs)).slc_nil
  unfold z58
  refine zf (λh=>?_) λh=>?_
  ·rw [if_pos (show most<1 by omega)]
   have hs:Sat w' (lgQ lg M::dk M.d D::r):=hs.sub
   exact ⟨rfl,⟨none,0,0⟩,[],rfl,rfl,hfin0 (L:=[]) hs⟩
  rw [if_neg (show ¬ most<1 by omega)]
  refine zm (λq w'=>q=(decide (off<z14 M.l\/off>zh M.l),())/\Sat w' (pt a2 (.cells [.int .i64 most].toArray T.a13)::pt a1 (.cells [.int .i64 off].toArray T.a14)::pt a0 (.cells [.pointer (some ⟨lg,0,none⟩)].toArray T.a31)::lgQ lg M::dk M.d D::r)) ?_ ?_
  ·refine z02 hs λw' hs=>?_
   refine z0s hs ?_
   refine zb hs ?_
   refine z8 (zi4 (lg:=lg) hs) λ_ w' hs=>?_
   obtain ⟨rfl,hs⟩:=hs
   refine zd ?_ (by first|trivial|(repeat (first|exact trivial|exact λ_=>z07 hs|exact λ_=>z0d hs|refine And.intro ?_ ?_)))
   refine z0s hs ?_
   refine zb hs ?_
   refine zf (λh1=>?_) λh1=>?_
   ·refine ze ?_
    exact zg ⟨by rw [decide_eq_true (.inl h1)],hs.sub⟩
   ·refine z8 (zbf (lg:=lg) (by omega) hs) λ_ w' hs=>?_
    obtain ⟨rfl,hs⟩:=hs
    refine zd ?_ (by first|trivial|(repeat (first|exact trivial|exact λ_=>z07 hs|exact λ_=>z0d hs|refine And.intro ?_ ?_)))
    refine wp_lt ?_
    refine ze ?_
    refine zg ⟨?_,hs.sub⟩
    rw [decide_eq_decide.2 (show (off<z14 M.l\/off>zh M.l)↔off>zh M.l from ⟨λhh=>hh.resolve_left h1,.inr⟩)]
  rintro _ w2 ⟨rfl,hs⟩
  refine zf (λh1=>?_) λh1=>?_
  ·have h1:off<z14 M.l\/off>zh M.l:=by simpa using h1
   rw [if_pos h1]
   have hs:Sat w2 (lgQ lg M::dk M.d D::r):=hs.sub
   exact ⟨rfl,⟨none,0,0⟩,[],rfl,rfl,hfin0 (L:=[]) hs⟩
  have h1:¬ (off<z14 M.l\/off>zh M.l):=by simpa using h1
  rw [if_neg h1]
  obtain ⟨mN,rfl⟩:∃ mN:Nat,most=(mN:Int):=⟨most.toNat,by omega⟩
  rw [Int.toNat_natCast]
  refine zt hs λao w' hs=>?_
  refine zb hs ?_
  refine zi ?_
  obtain ⟨hokm,hs⟩:=z2y (hs.pick [4])
  refine zb hs ?_
  have hl:=hs.slen M.z (xs:=M.SM.map Prod.fst) (enc:=z1w)
  rw [List.length_map] at hl
  have hs:=z1r M hokm hs
  have hs:Sat w' (pt a0 (.cells [.pointer (some ⟨lg,0,none⟩)].toArray T.a31)::pt a1 (.cells [.int .i64 off].toArray T.a14)::lgQ lg M::pt ao (.cells #[.slice none 0 0] T.a36)::pt a2 (.cells [.int .i64 (mN:Int)].toArray T.a13)::dk M.d D::r):=hs.sub
  rw [hl]
  refine z8 (zgd M.SM.length (by omega) F.a114 #[.pointer (some ⟨a0,0,none⟩),.pointer (some ⟨a1,0,none⟩)] (λi=>decide (((M.l.map SegA.base).getD i 0)>off)) (by kernel_rfl) (λi w hi hs=>?_) hs) λ_ w' hs=>?_
  ·have e:(M.l.map SegA.base).getD i 0=M.SM[i].2.s.base:=by
    rw [List.getD_eq_getElem?_getD,List.getElem?_map,List.getElem?_eq_getElem (by omega),z5t i hi];rfl
   simp only [e]
   exact z00a (M:=M) i a0 a1 off hi hs
  obtain ⟨i0,hi0,hs1,hs2,rfl,hs⟩:=hs
  refine zd ?_
  refine z2a (y:=(i0:Int)-1) ?_ (by rw [w64 (by omega) (by omega)])
  refine z2a (y:=((i0-1:Nat):Int)) ?_ (by split <;> omega)
  have hskip:i0-1<M.SM.length->(z04 M.l).filterMap (z0t off)=(z04 (M.l.drop (i0-1))).filterMap (z0t off):=λhlt=>by
   refine z00k hok (i:=i0-1) (by omega) ?_
   by_cases h0:i0=0
   ·right;omega
   ·left
    have h2:=hs1 (by omega)
    rw [List.getD_eq_getElem?_getD,List.getElem?_map,List.getElem?_eq_getElem (by omega)] at h2
    have h2:decide ((M.l[i0-1]'(by omega)).base>off)=false:=h2
    simpa using h2
  have hs:Sat w' (z55 ao []::lgQ lg M::dk M.d D::pt a1 (.cells [.int .i64 off].toArray T.a14)::pt a2 (.cells [.int .i64 (mN:Int)].toArray T.a13)::pt a0 (.cells [.pointer (some ⟨lg,0,none⟩)].toArray T.a31)::r):=by
   have h3:Sat w' (slc T.a0 7 ⟨none,0,0⟩ (([]:List BatM).flatMap z00)::z1n []::_):=(zlc hs).slc_nil
   have h4:Sat w' (pt ao (.cells #[.slice none 0 0] T.a36)::slc T.a0 7 ⟨none,0,0⟩ (([]:List BatM).flatMap z00)::z1n []::lgQ lg M::dk M.d D::pt a1 (.cells [.int .i64 off].toArray T.a14)::pt a2 (.cells [.int .i64 (mN:Int)].toArray T.a13)::pt a0 (.cells [.pointer (some ⟨lg,0,none⟩)].toArray T.a31)::r):=h3.sub
   exact zdi (z:=⟨none,0,0⟩) h4
  refine zm (λ_ w'=>∃ outs:List BatM,outs.map BatM.p=((z04 M.l).filterMap (z0t off)).take mN/\Sat w' (z55 ao outs::lgQ lg M::dk M.d D::pt a1 (.cells [.int .i64 off].toArray T.a14)::pt a2 (.cells [.int .i64 (mN:Int)].toArray T.a13)::pt a0 (.cells [.pointer (some ⟨lg,0,none⟩)].toArray T.a31)::r)) ?_ ?_
  rotate_left
  ·rintro _ w3 ⟨outs,h4,hs⟩
   obtain ⟨z,hs⟩:=zmj hs
   refine zb hs ?_
   refine ⟨rfl,z,outs,rfl,h4,?_⟩
   have hs:Sat w3 (lgQ lg M::slc T.a0 7 z (outs.flatMap z00)::z1n outs::dk M.d D::r):=hs.sub
   have hs:=z4p M hs
   exact hs.sub
  have hpre:∀ (j:Nat),i0-1<=j->j<=M.l.length->(z04 ((M.l.drop (i0-1)).take (j-(i0-1)))).length<=1000000:=λj h1 h2=>by
   refine Nat.le_trans ?_ hall
   have:∀ (a b:List SegA),a.Sublist b->(z04 a).length<=(z04 b).length:=λa b h=>by
    induction h with
    | slnil=>exact Nat.le_refl _
    | cons x _ ih=>unfold z04 at *;rw [List.flatMap_cons,List.length_append];omega
    | cons_cons x _ ih=>unfold z04 at *;rw [List.flatMap_cons,List.flatMap_cons,List.length_append,List.length_append];omega
   exact this _ _ ((List.take_sublist _ _).trans (List.drop_sublist _ _))
  refine z0c (λm v w=>∃ (j:Nat) (outs:List BatM),v=((j:Int),())/\i0-1<=j/\(j<=M.SM.length\/j=i0-1)/\M.SM.length-j=m/\outs.map BatM.p=(z04 ((M.l.drop (i0-1)).take (j-(i0-1)))).filterMap (z0t off)/\outs.length<mN /\
   Sat w (z55 ao outs::lgQ lg M::dk M.d D::pt a1 (.cells [.int .i64 off].toArray T.a14)::pt a2 (.cells [.int .i64 (mN:Int)].toArray T.a13)::pt a0 (.cells [.pointer (some ⟨lg,0,none⟩)].toArray T.a31)::r)) (M.SM.length-(i0-1))
   ⟨i0-1,[],rfl,Nat.le_refl _,.inr rfl,rfl,by simp [z04],by show 0<mN;omega,hs⟩ ?_
  clear hs
  rintro m _ w ⟨j,outs,rfl,hj1,hj2,hm,hmap,hlt,hs⟩
  refine zl ?_
  refine zb hs ?_
  refine zi ?_
  obtain ⟨hokm,hs⟩:=z2y (hs.pick [1])
  refine zb hs ?_
  refine zf (λhc=>?_) λhc=>?_
  rotate_left
  ·have hs:=z1r M hokm hs
   refine zn (zg ⟨outs,?_,hs.sub⟩)
   by_cases hlt2:i0-1<M.SM.length
   ·have hje:j=M.SM.length:=by omega
    rw [hskip hlt2,hmap,hje]
    rw [List.take_of_length_le (l:=M.l.drop (i0-1)) (by rw [List.length_drop];omega)] at hmap ⊢
    have:=congrArg List.length hmap
    rw [List.length_map] at this
    rw [List.take_of_length_le (by omega)]
   ·have h0:M.l=[]:=List.length_eq_zero_iff.1 (by omega)
    rw [hmap,h0]
    simp [z04]
  have hjl:j<M.SM.length:=by omega
  refine zb hs ?_
  refine zi ?_
  refine zb hs ?_
  refine z27 hs (xs:=M.SM.map Prod.fst) (enc:=z1w) j (by rw [List.length_map];exact hjl) ?_
  have e0:(M.SM.map Prod.fst)[j]'(by rw [List.length_map];exact hjl)=M.SM[j].1:=by simp
  rw [e0]
  have hmem:M.SM[j].2.s ∈ M.l:=List.mem_map.2 ⟨_,List.getElem_mem hjl,rfl⟩
  have hsok:=(hok.mem _ hmem).1
  obtain ⟨kp,hfile⟩:=hhas _ hmem
  have hrl:M.SM[j].2.s.file.length<=4194304:=Nat.le_trans (zdu hfile) hokD.used
  have hbl:=zi3 hsok
  obtain ⟨k,hk,hpl,hskp⟩:=zwg hsok hrl M.gap off
  have hlt2:i0-1<M.SM.length:=by omega
  have hstep:(M.l.drop (i0-1)).take (j+1-(i0-1))=(M.l.drop (i0-1)).take (j-(i0-1))++[M.SM[j].2.s]:=by
   rw [show j+1-(i0-1)=(j-(i0-1))+1 by omega,List.take_succ_eq_append_getElem (by rw [List.length_drop];omega),List.getElem_drop,z5t j hjl]
   congr 3
   omega
  have hnone:(M.SM[j].2.s.bs).filterMap (z0t off)=(M.SM[j].2.s.bs.drop k).filterMap (z0t off):=by
   have e:M.SM[j].2.s.bs=M.SM[j].2.s.bs.take k++M.SM[j].2.s.bs.drop k:=(List.take_append_drop _ _).symm
   calc (M.SM[j].2.s.bs).filterMap (z0t off)=(M.SM[j].2.s.bs.take k++M.SM[j].2.s.bs.drop k).filterMap (z0t off):=by rw [<- e]
    _=(M.SM[j].2.s.bs.drop k).filterMap (z0t off):=by
     rw [List.filterMap_append,zb7 (l:=M.SM[j].2.s.bs.take k),List.nil_append]
     intro b hb
     exact zh1 (hsok.bs.valid b (List.mem_of_mem_take hb)).1 (hskp b hb)
  have hall2:(z04 ((M.l.drop (i0-1)).take (j+1-(i0-1)))).filterMap (z0t off)=(z04 ((M.l.drop (i0-1)).take (j-(i0-1)))).filterMap (z0t off)++(M.SM[j].2.s.bs.drop k).filterMap (z0t off):=by
   rw [hstep]
   unfold z04
   rw [List.flatMap_append,List.filterMap_append,<- hnone]
   simp
  have hol:outs.length<=1000000:=by
   have:=congrArg List.length hmap
   rw [List.length_map] at this
   rw [this]
   exact Nat.le_trans (List.length_filterMap_le _ _) (hpre j hj1 (by omega))
  refine zm (λq w'=>∃ outs':List BatM,q=(decide (outs.length+((M.SM[j].2.s.bs.drop k).filterMap (z0t off)).length<mN),())/\outs'.map BatM.p=(outs.map BatM.p++(M.SM[j].2.s.bs.drop k).filterMap (z0t off)).take mN /\
    Sat w' (z55 ao outs'::lgQ lg M::dk M.d D::pt a1 (.cells [.int .i64 off].toArray T.a14)::pt a2 (.cells [.int .i64 (mN:Int)].toArray T.a13)::pt a0 (.cells [.pointer (some ⟨lg,0,none⟩)].toArray T.a31)::r)) ?_ ?_
  ·refine z02 hs λw' hs=>?_
   refine z0s hs ?_
   refine zb hs ?_
   have hs:=z9w (hs.pick [2]) hjl
   refine z8 (z058 (gap:=M.gap) (a:=M.SM[j].1) (t:=M.SM[j].2) off hsok hrl hs) λ_ w' hs=>?_
   obtain ⟨rfl,hs⟩:=hs
   refine zd ?_ (by first|trivial|(repeat (first|exact trivial|exact λ_=>z07 hs|exact λ_=>z0d hs|refine And.intro ?_ ?_)))
   refine ze ?_
   have hs:=z7f hjl hs
   have hs:=z1r M hokm (hs.pick [1,1])
   have hs:Sat w' (z55 ao outs::lgQ lg M::dk M.d D::pt a1 (.cells [.int .i64 off].toArray T.a14)::pt a2 (.cells [.int .i64 (mN:Int)].toArray T.a13)::pt a0 (.cells [.pointer (some ⟨lg,0,none⟩)].toArray T.a31)::r):=hs.sub
   rw [hpl]
   refine z8 (z07e off mN a1 a2 ho hjl hsok hfile hk hlt (by omega) hs) λ_ w' hs=>?_
   obtain ⟨outs',rfl,hm2,-,hs⟩:=hs
   refine zd ?_
   refine wp_lt ?_
   refine ze ?_
   exact zg ⟨outs',rfl,hm2,hs⟩
  clear hs
  rintro _ w3 ⟨outs',rfl,hm2,hs⟩
  rw [hmap,<- hall2] at hm2
  have hlm:=congrArg List.length hmap
  rw [List.length_map] at hlm
  refine zf (λh5=>?_) λh5=>?_
  ·have h5:¬ (outs.length+((M.SM[j].2.s.bs.drop k).filterMap (z0t off)).length<mN):=by simpa using h5
   refine zn (zg ⟨outs',?_,hs⟩)
   rw [hm2,hskip hlt2]
   have e:z04 (M.l.drop (i0-1))=z04 ((M.l.drop (i0-1)).take (j+1-(i0-1)))++z04 ((M.l.drop (i0-1)).drop (j+1-(i0-1))):=by
    unfold z04;rw [<- List.flatMap_append,List.take_append_drop]
   rw [e,List.filterMap_append,List.take_append_of_le_length]
   rw [hall2,List.length_append]
   omega
  ·have h5:(outs.length+((M.SM[j].2.s.bs.drop k).filterMap (z0t off)).length<mN):=by simpa using h5
   refine z2a (y:=((j+1:Nat):Int)) ?_ (by rw [w64 (by omega) (by omega)];omega)
   have hll2:((z04 ((M.l.drop (i0-1)).take (j+1-(i0-1)))).filterMap (z0t off)).length<mN:=by rw [hall2,List.length_append];omega
   rw [List.take_of_length_le (by omega)] at hm2
   have hl3:=congrArg List.length hm2
   rw [List.length_map] at hl3
   exact z0z (M.SM.length-(j+1)) ⟨j+1,outs',rfl,by omega,.inl (by omega),rfl,hm2,by omega,hs⟩
theorem zws {r1:List HP} [hf:Fo l lgP lg A r1] [hf2:Fo r1 dk A.d D r] (hok:z0h 0 A.l) (hhas:zl2 A.pre A.l D) (hlen:A.l.length<=1000000) (hall:(z04 A.l).length<=1000000) (hs:Sat w l) :
  Ret P F.a109 #[.pointer (some ⟨lg,0,none⟩)] w λvs w'=>∃ (z:Sl) (outs:List BatM),vs=[z.v]/\outs.map BatM.p=z04 A.l/\Sat w' (slc T.a0 7 z (outs.flatMap z00)::z1n outs::lgP lg A::dk A.d D::r) :=
 zo8 _ <| by
  delta z01r AA Aa Af Ah Aj Ak Bi
  have hs:=hs.perm (hf.perm.trans (.cons _ hf2.perm))
  clear hf hf2
  have hfn:=zh0 hok
  have hnx:=hok.next (Int.le_refl 0)
  have hf0:0<=z14 A.l:=by
   cases hq:A.l with
   | nil=>decide
   | cons s l0=>rw [hq] at hok;have:=hok.1;exact this
  refine z03 ?_ (by simp)
  obtain ⟨M,hM,hs⟩:=z86 hs
  subst hM
  refine z8 (zi4 (lg:=lg) hs) λ_ w' hs=>?_
  obtain ⟨rfl,hs⟩:=hs
  refine zd ?_
  have hs:=z4p M hs
  have hfn:z14 M.l<=zh M.l:=hfn
  have hnx:0<=zh M.l/\zh M.l<=1099511627777:=hnx
  have hf0:0<=z14 M.l:=hf0
  refine z8 (zqs (lg:=lg) (A:=M.A) (D:=D) (z14 M.l) 1099511627776 (by omega) (by omega) hok hhas hlen hall hs) λ_ w' hs=>?_
  obtain ⟨z,outs,rfl,hmap,hs⟩:=hs
  refine zd ?_
  refine wp_lt ?_
  have hra:z58 M.A.l (z14 M.l) 1099511627776=(0,z04 M.A.l):=zmq hok (by omega) (by omega)
  rw [hra] at hmap
  exact ⟨rfl,z,outs,rfl,hmap,hs⟩
end
def ze7 (seg gap:Int):Prop:=(64<=seg/\seg<=4194304)/\(1<=gap/\gap<=4194304)
instance (seg gap:Int):Decidable (ze7 seg gap):=by unfold ze7;infer_instance
section
variable {w:World} {l r:List HP} {lg d:Nat} {M:LogM} {A:LogA} {D:DiskA}
set_option maxHeartbeats 1000000 in
theorem z04k (pre:ByteArray) (seg gap:Int) (hp:z17 pre=true) (hc:ze7 seg gap) (hg:D.gone=false) [hf:Fo l dk d D r] (hs:Sat w l):Ret P F.a128 #[.pointer (some ⟨d,0,none⟩),.string pre,.agg #[.int .i64 seg,.int .i64 gap]] w λvs w' =>
  ((z4r pre D).1≠0/\vs=[.pointer none,.int .i64 (z4r pre D).1]/\Sat w' (dk d (z4r pre D).2.2::r)) \/
  ((z4r pre D).1=0/\∃ lg,vs=[.pointer (some ⟨lg,0,none⟩),.int .i64 0]/\Sat w' (lgP lg ⟨d,pre,seg,gap,(z4r pre D).2.1⟩::dk d (z4r pre D).2.2::r)) :=
 zor _ pre seg gap <| by
  delta z02a AA AF AP AS Aa Af Ah Ai Aj Ak An Ar Au Av Aw Ax Ay BE Bd Bf Bg Bi
  have hs:=hs.perm hf.perm
  obtain ⟨m_,FS_,-,hokD,-⟩:=z2b hs
  refine zr hs λa0 w' hs=>?_
  refine wp_lt ?_
  refine z03 ?_ (by simp)
  refine zm (λq w'=>q=(false,())/\Sat w' (dk d D::pt a0 (.cells #[.int .i64 seg,.int .i64 gap] T.a46)::r)) ?_ ?_
  ·refine z8 (z006 pre hs) λ_ w' hs=>?_
   obtain ⟨rfl,hs⟩:=hs
   refine zd ?_
   refine zj hs ?_
   refine z03 ?_ (by rw [hp];simp)
   refine z8 (z06l seg gap hs) λ_ w' hs=>?_
   obtain ⟨rfl,hs⟩:=hs
   refine zd ?_
   refine wp_lt ?_
   refine zg ⟨?_,hs.sub⟩
   have:((64<=seg/\seg<=4194304)/\(1<=gap/\gap<=4194304)):=hc
   rw [decide_eq_true this]
   rfl
  rintro _ w2 ⟨rfl,hs⟩
  refine z03 ?_ (by simp)
  refine z8 (z06c (d:=d) hs) λ_ w' hs=>?_
  obtain ⟨rfl,hs⟩:=hs
  refine zd ?_
  refine wp_lt ?_
  refine z03 ?_ (by rw [hg];simp)
  refine zj hs ?_
  refine zr hs λlg w' hs=>?_
  have hokm:okM gap seg pre:=⟨hc.2,hc.1,hp⟩
  have hs:Sat w' (lgQ lg ⟨d,pre,seg,gap,⟨none,0,0⟩,[]⟩::dk d D::r):=by
   refine z1r ⟨d,pre,seg,gap,⟨none,0,0⟩,[]⟩ hokm ?_
   have h1:Sat w' (HP.all (([]:List (Nat × SegM)).map λt=>z0q gap t.1 t.2)::pt lg (.cells #[.pointer (some ⟨d,0,none⟩),.string pre,.int .i64 seg,.int .i64 gap,.slice none 0 0] T.a47)::dk d D::r):=by
    have hs:Sat w' (pt lg (.cells #[.pointer (some ⟨d,0,none⟩),.string pre,.int .i64 seg,.int .i64 gap,.slice none 0 0] T.a47)::dk d D::r):=hs.sub
    exact Sat.all_nil hs
   have h2:Sat w' (slc T.a32 1 ⟨none,0,0⟩ (((([]:List (Nat × SegM))).map Prod.fst).flatMap z1w)::_):=h1.slc_nil
   exact h2.pick [2]
  unfold z4r
  refine z8 (z040 (lg:=lg) (M:=⟨d,pre,seg,gap,⟨none,0,0⟩,[]⟩) (D:=D) hs) λ_ w' hs=>?_
  have hnl:(z10 pre (z13 (z16 pre) D.fs) D).2.1.length<=128:=by
   refine Nat.le_trans zgz ?_
   unfold z13
   exact Nat.le_trans (List.length_filter_le _ _) (by rw [List.length_map];exact hokD.many)
  have hlt:=zjc (pre:=pre) (ns:=z13 (z16 pre) D.fs) (D:=D)
  rcases hs with ⟨he,rfl,hs⟩|⟨he,x,rfl,hs⟩
  ·have he:(z10 pre (z13 (z16 pre) D.fs) D).1≠0:=he
   refine zd ?_
   refine wp_lt ?_
   refine z0u ?_ he
   refine wp_lt ?_
   rw [if_pos he]
   exact ⟨rfl,.inl ⟨he,rfl,hs.tail⟩⟩
  have he:(z10 pre (z13 (z16 pre) D.fs) D).1=0:=he
  refine ⟨(x,0,()),rfl,trivial,z1v _ _ ?_⟩
  refine wp_lt ?_
  refine z03 ?_ (by simp)
  rw [if_neg (by rw [he];simp)]
  have hs:Sat w' (slc T.a14 1 x ((z10 pre (z13 (z16 pre) D.fs) D).2.1.flatMap z4g)::lgQ lg ⟨d,pre,seg,gap,⟨none,0,0⟩,[]⟩::dk d (z10 pre (z13 (z16 pre) D.fs) D).2.2::r):=hs
  generalize (z10 pre (z13 (z16 pre) D.fs) D).2.2=D1 at *
  generalize (z10 pre (z13 (z16 pre) D.fs) D).2.1=bs at *
  have hl:=hs.slen x (xs:=bs) (enc:=z4g)
  have hcap:=hs.slc_cap
  refine zm (λq w'=>∃ M:LogM,q=((z28 pre bs [] D1).1,())/\(M.d=d/\M.pre=pre/\M.seg=seg/\M.gap=gap)/\M.l=(z28 pre bs [] D1).2.1/\Sat w' (lgQ lg M::dk d (z28 pre bs [] D1).2.2::r)) ?_ ?_
  rotate_left
  ·rintro _ w3 ⟨M,rfl,⟨rfl,rfl,rfl,rfl⟩,h2,hs⟩
   refine zf (λh=>?_) λh=>?_
   ·refine wp_lt ?_
    exact ⟨rfl,.inl ⟨h,rfl,hs.tail⟩⟩
   ·have h:(z28 M.pre bs [] D1).1=0:=Decidable.not_not.1 h
    refine ⟨rfl,.inr ⟨h,lg,rfl,?_⟩⟩
    have:=z4p M hs
    have e:M.A=⟨M.d,M.pre,M.seg,M.gap,(z28 M.pre bs [] D1).2.1⟩:=by rw [<- h2];rfl
    rw [<- e]
    exact this
  refine z0c (λm v w=>∃ (i:Nat) (M:LogM) (D':DiskA),v=((0:Int),((i:Int),()))/\i<=bs.length/\bs.length-i=m/\M.SM.length<=i/\z28 pre bs [] D1=z28 pre (bs.drop i) M.l D'/\(M.d=d/\M.pre=pre/\M.seg=seg/\M.gap=gap) /\
   Sat w (slc T.a14 1 x (bs.flatMap z4g)::lgQ lg M::dk d D'::r)) bs.length ⟨0,⟨d,pre,seg,gap,⟨none,0,0⟩,[]⟩,D1,rfl,by omega,rfl,by simp,rfl,⟨rfl,rfl,rfl,rfl⟩,hs⟩ ?_
  clear hs
  rintro m _ w ⟨i,M,D',rfl,hi,hm,hsm,hq,⟨rfl,rfl,rfl,rfl⟩,hsn⟩
  have hs:=hsn
  refine zl ?_
  refine zf (λhcc=>?_) λhcc=>?_
  rotate_left
  ·have e:bs.drop i=[]:=List.drop_eq_nil_of_le (by omega)
   rw [e] at hq
   have hq:z28 M.pre bs [] D1=(0,M.l,D'):=hq
   rw [hq]
   exact zn (zg ⟨M,rfl,⟨rfl,rfl,rfl,rfl⟩,rfl,hs.sub⟩)
  have hil:i<bs.length:=by omega
  rw [List.drop_eq_getElem_cons hil] at hq
  have hbb:=hlt bs[i] (List.getElem_mem hil)
  have hun:z28 M.pre (bs[i]::bs.drop (i+1)) M.l D'=if bs[i]<zh M.l then (if (z19 D' (zo M.pre bs[i] zw)).1≠0 then ((z19 D' (zo M.pre bs[i] zw)).1,M.l,(z19 D' (zo M.pre bs[i] zw)).2) else z28 M.pre (bs.drop (i+1)) M.l (z19 D' (zo M.pre bs[i] zw)).2) else
   if (z1t M.pre M.l D' bs[i]).1.2≠0 then ((z1t M.pre M.l D' bs[i]).1.2,(z1t M.pre M.l D' bs[i]).2) else
   if (z1t M.pre M.l D' bs[i]).1.1=true then z28 M.pre (bs.drop (i+1)) (z1t M.pre M.l D' bs[i]).2.1 (z1t M.pre M.l D' bs[i]).2.2 else ((z6t M.pre (bs.drop (i+1)) (z1t M.pre M.l D' bs[i]).2.2).1,(z1t M.pre M.l D' bs[i]).2.1,(z6t M.pre (bs.drop (i+1)) (z1t M.pre M.l D' bs[i]).2.2).2):=rfl
  have ei:IntKind.wrap .i64 ((i:Int)+1)=((i+1:Nat):Int):=by rw [w64 (by omega) (by omega)];omega
  refine zm (λq w'=>∃ (M2:LogM) (D2:DiskA),q=((0:Int),())/\M2.SM.length<=i+1/\z28 M.pre bs [] D1=z28 M.pre (bs.drop (i+1)) M2.l D2/\(M2.d=M.d/\M2.pre=M.pre/\M2.seg=M.seg/\M2.gap=M.gap) /\
   Sat w' (slc T.a14 1 x (bs.flatMap z4g)::lgQ lg M2::dk M.d D2::r)) ?_ ?_
  rotate_left
  ·rintro _ w3 ⟨M2,D2,rfl,h1,h2,h3,hs⟩
   rw [ei]
   exact z0z (bs.length-(i+1)) ⟨i+1,M2,D2,rfl,by omega,rfl,h1,h2,h3,hs⟩
  refine z27 hs (xs:=bs) (enc:=z4g) i hil ?_
  refine wp_lt ?_
  refine wp_lt ?_
  refine z8 (zbf (lg:=lg) (by omega) hs) λ_ w' hs=>?_
  obtain ⟨rfl,hs⟩:=hs
  refine zd ?_
  refine zf (λh1=>?_) λh1=>?_
  ·rw [if_pos h1] at hun
   obtain ⟨hokm,hs⟩:=z9o hs
   refine z8 (z89 (lg:=lg) bs[i] hbb (ByteArray.mk #[46,108,111,103]) (by decide) M.pre hokm.size hs) λ_ w' hs=>?_
   obtain ⟨rfl,hs⟩:=hs
   refine zd ?_
   refine z8 (zc7 (d:=M.d) (A:=D') (zo M.pre bs[i] (bl (ByteArray.mk #[46,108,111,103]))) hs) λ_ w' hs=>?_
   obtain ⟨rfl,hs⟩:=hs
   refine zd ?_
   refine wp_lt ?_
   have en:zo M.pre bs[i] (bl (ByteArray.mk #[46,108,111,103]))=zo M.pre bs[i] zw:=rfl
   rw [en] at hs ⊢
   have hs:=z4q M hokm (hs.pick [1,1])
   refine zf (λh2=>?_) λh2=>?_
   ·rw [if_pos h2] at hun
    rw [hun] at hq
    rw [hq]
    exact zn (zn (zg ⟨M,rfl,⟨rfl,rfl,rfl,rfl⟩,rfl,hs.sub⟩))
   ·rw [if_neg h2] at hun
    rw [hun] at hq
    have h2:=Decidable.not_not.1 h2
    rw [h2]
    exact zg ⟨M,_,rfl,by omega,hq,⟨rfl,rfl,rfl,rfl⟩,hs.sub⟩
  ·rw [if_neg h1] at hun
   refine z8 (z074 (lg:=lg) (D:=D') bs[i] hbb (by omega) hs) λ_ w' hs=>?_
   obtain ⟨rfl,M2,⟨e1,e2,e3,e4⟩,hMl,hMs,hs⟩:=hs
   refine zd ?_
   refine wp_lt ?_
   refine wp_lt ?_
   have hs:Sat w' (lgQ lg M2::dk M.d (z1t M.pre M.l D' bs[i]).2.2::slc T.a14 1 x (bs.flatMap z4g)::r):=hs
   generalize z1t M.pre M.l D' bs[i]=SC at *
   obtain ⟨⟨b0,e0⟩,l0,D0⟩:=SC
   dsimp only at hun hMl hs ⊢
   refine zf (λh2=>?_) λh2=>?_
   ·obtain ⟨h2a,h2b⟩:=h2
    have h2a:e0=0:=h2a
    have h2b:b0=false:=by simpa using h2b
    rw [if_neg (by rw [h2a];simp),if_neg (by rw [h2b];simp)] at hun
    rw [ei]
    refine wp_must (by omega) ?_
    rw [Int.toNat_natCast]
    rw [<- e1] at hs
    have hx:FocR (slc T.a14 1 x (bs.flatMap z4g)::r) ⟨z0w x.a 1 (i+1) x.cap,x.len-(i+1),x.cap-(i+1)⟩ 1 ((bs.drop (i+1)).flatMap z4g):=FocR.post hcap
    refine z8 (z03t (lg:=lg) (M:=M2) (D:=D0) ⟨z0w x.a 1 (i+1) x.cap,x.len-(i+1),x.cap-(i+1)⟩ (bs.drop (i+1)) (λb hb=>hlt b (List.mem_of_mem_drop hb)) hx (by rw [List.length_drop];omega) hs) λ_ w' hs=>?_
    obtain ⟨rfl,hs⟩:=hs
    refine zd ?_
    refine wp_lt ?_
    rw [e2,e1] at hs
    rw [e2]
    rw [hun] at hq
    rw [hq]
    refine zn (zn (zg ⟨M2,rfl,⟨e1,e2,e3,e4⟩,hMl,hs.sub⟩))
   ·refine zf (λh3=>?_) λh3=>?_
    ·rw [if_pos h3] at hun
     rw [hun] at hq
     rw [hq]
     refine zn (zn (zg ⟨M2,rfl,⟨e1,e2,e3,e4⟩,hMl,hs.sub⟩))
    ·have h3:e0=0:=Decidable.not_not.1 h3
     have h4:b0=true:=by
      cases hb0:b0 with
      | true=>rfl
      | false=>exact absurd ⟨h3,by rw [hb0];simp⟩ h2
     rw [if_neg (by rw [h3];simp),if_pos h4,<- hMl] at hun
     rw [hun] at hq
     rw [h3]
     exact zg ⟨M2,D0,rfl,by omega,hq,⟨e1,e2,e3,e4⟩,hs.sub⟩
end
theorem zaj:∀ {bs:List BatM} {n:Int},0<=n->(zx n bs).1=0->z1p n ((zx n bs).2.map BatM.p)/\(∀ b ∈ (zx n bs).2,n<=b.base)
 | [],n,_,_=>⟨trivial,λ_ h=>by cases h⟩
 | b::bs,n,hn,h=>by
  unfold zx at h ⊢
  by_cases h1:zy (b.to n)≠0
  ·rw [if_pos h1] at h;exact absurd h h1
  rw [if_neg h1] at h ⊢
  by_cases h2:(zx (n+zp b) bs).1≠0
  ·rw [if_pos h2] at h;exact absurd h h2
  rw [if_neg h2]
  have hv:=Decidable.not_not.1 h1
  obtain ⟨s1,-,-,-,-⟩:=z15 _ hv
  have s1:1<=zp b:=s1
  obtain ⟨i1,i2⟩:=zaj (n:=n+zp b) (by omega) (Decidable.not_not.1 h2)
  refine ⟨⟨hv,rfl,Int.le_refl _,i1⟩,λc hc=>?_⟩
  rcases List.mem_cons.1 hc with rfl|hc
  ·exact Int.le_refl _
  ·have:=i2 c hc;omega
theorem z1p.append:∀ {n:Int} {cs bs:List BatM},0<=n->z1p n cs->z1p (max n (z0i cs)) bs->z1p n (cs++bs)
 | n,[],bs,hn,_,h2=>h2.mono (by show n<=max n 0;omega)
 | n,a::cs,bs,hn,⟨h1,h2,h3,h4⟩,hb=>by
  obtain ⟨s1,-,⟨-,hba,-⟩,-,-⟩:=z15 a h1
  refine ⟨h1,h2,h3,h4.append (by omega) (hb.mono ?_)⟩
  have h5:a.base+zp a<=z0i (a::cs):=z1p.le_next (n:=n) (bs:=a::cs) ⟨h1,h2,h3,h4⟩ (List.mem_cons_self ..)
  have h6:z0i cs<=z0i (a::cs):=by
   cases cs with
   | nil=>show (0:Int)<=_;omega
   | cons c ds=>exact Int.le_refl _
  omega
theorem z0h.mono {m n:Int} {l:List SegA} (h:z0h n l) (hm:m<=n):z0h m l:=by
 cases l with
 | nil=>trivial
 | cons s l=>exact ⟨by have:=h.1;omega,h.2.1,h.2.2⟩
theorem z3f (l:List SegA) (s:SegA):zh (l++[s])=s.reach:=by unfold zh;rw [z20]
theorem zbn (l:List SegA) (s:SegA):z5p (l++[s])=s.base:=by unfold z5p;rw [z20]
theorem z45 (l:List SegA) (s:SegA) (bs:List BatM):z4j (l++[s]) bs=l++[s.add bs]:=by unfold z4j;rw [z20];simp
theorem z0h.snoc:∀ {n:Int} {l:List SegA} {s:SegA},z0h n l->SegOk s->n<=s.base->(∀ t ∈ l,t.reach<=s.base/\t.base<s.base)->z0h n (l++[s])
 | n,[],s,_,hs,hn,_=>⟨hn,hs,trivial⟩
 | n,a::l,s,⟨h1,h2,h3⟩,hs,hn,ht=>by
  have:=ht a (List.mem_cons_self ..)
  exact ⟨h1,h2,h3.snoc hs (by omega) λt h=>ht t (List.mem_cons_of_mem _ h)⟩
theorem z0h.front:∀ {n:Int} {l:List SegA} {s:SegA},z0h n (l++[s])->z0h n l/\SegOk s/\n<=s.base/\∀ t ∈ l,t.reach<=s.base/\t.base<s.base
 | n,[],s,h=>⟨trivial,h.2.1,h.1,λ_ h=>by cases h⟩
 | n,a::l,s,⟨h1,h2,h3⟩=>by
  obtain ⟨i1,i2,i3,i4⟩:=h3.front
  have:=(z5v h2).1
  refine ⟨⟨h1,h2,i1⟩,i2,by omega,λt ht=>?_⟩
  rcases List.mem_cons.1 ht with rfl|ht
  ·omega
  ·exact i4 t ht
theorem zvx {s:SegA} (hs:SegOk s) {bs:List BatM} {n:Int} (h:(zx n bs).1=0) (hn:n=s.reach):SegOk (s.add (zx n bs).2):=by
 have hr:=z5v hs
 have hb:=hs.base
 refine ⟨hs.base,hs.fin,?_⟩
 subst hn
 have hm:max s.base (z0i s.bs)<=s.reach:=by omega
 exact hs.bs.append hb.1 ((zaj (by omega) h).1.mono hm)
theorem zns {bs:List BatM} {n:Int} (h:(zx n bs).1=0) (hb:bs≠[]):0<=n/\n<=1099511627776:=by
 cases bs with
 | nil=>exact absurd rfl hb
 | cons b bs =>
  unfold zx at h
  by_cases h1:zy (b.to n)≠0
  ·rw [if_pos h1] at h;exact absurd h h1
  ·obtain ⟨-,-,⟨-,hba,-⟩,-,-⟩:=z15 _ (Decidable.not_not.1 h1)
   exact hba
def z0y (seg:Int) (l:List SegA) (bs:List BatM):(Int × Int) × List SegA :=
 if bs=[] then ((0,3),l) else if (zx (zh l) bs).1≠0 then ((0,(zx (zh l) bs).1),l) else
 ((zh l,0),if z77 seg l ((zx (zh l) bs).2.flatMap frL).length then z4j l (zx (zh l) bs).2 else l++[(⟨zh l,0,[]⟩:SegA).add (zx (zh l) bs).2])
theorem zak {seg:Int} {l:List SegA} {bs:List BatM} (h:z0h 0 l):z0h 0 (z0y seg l bs).2:=by
 unfold z0y
 split
 ·exact h
 rename_i hb
 split
 ·exact h
 rename_i hp
 have hp:=Decidable.not_not.1 hp
 have hv:=zns hp hb
 simp only
 split
 ·rename_i hr
  have hne:l≠[]:=by rintro rfl;cases hr
  obtain ⟨l0,s,rfl⟩:=z3a hne
  rw [z45]
  obtain ⟨h1,h2,h3,h4⟩:=h.front
  exact h1.snoc (zvx h2 hp (z3f _ _)) h3 h4
 ·rename_i hr
  have hs:SegOk ((⟨zh l,0,[]⟩:SegA).add (zx (zh l) bs).2):=by
   refine ⟨hv,.inl rfl,?_⟩
   show z1p _ ([]++_)
   rw [List.nil_append]
   exact (zaj hv.1 hp).1
  refine h.snoc hs hv.1 λt ht=>?_
  show t.reach<=zh l/\t.base<zh l
  have hne:l≠[]:=List.ne_nil_of_mem ht
  obtain ⟨l0,s,rfl⟩:=z3a hne
  obtain ⟨h1,h2,h3,h4⟩:=h.front
  rw [z3f]
  have hsr:=z5v h2
  have hlast:s.base<s.reach:=by
   have hr2:z77 seg (l0++[s]) ((zx (zh (l0++[s])) bs).2.flatMap frL).length=false:=by simpa using hr
   unfold z77 at hr2
   rw [z20] at hr2
   simp only [Bool.or_eq_false_iff,decide_eq_false_iff_not] at hr2
   have hbs:s.bs≠[]:=by rintro hbs;rw [hbs] at hr2;exact hr2.1 rfl
   have:=hsr.2.2.2.2 hbs
   omega
  rcases List.mem_append.1 ht with ht|ht
  ·have:=h4 t ht;omega
  ·simp only [List.mem_cons,List.not_mem_nil,or_false] at ht
   subst ht
   exact ⟨Int.le_refl _,hlast⟩
theorem zh4 (pre:ByteArray) (seg:Int) (l:List SegA) (D:DiskA) (bs:List BatM):((z0e pre seg l D bs).1=(z0y seg l bs).1/\(z0e pre seg l D bs).2.1=(z0y seg l bs).2)\/((z0e pre seg l D bs).1.1=0/\(z0e pre seg l D bs).1.2≠0/\(z0e pre seg l D bs).2.1=l/\(z0y seg l bs).1.2=0):=by
 unfold z0e z0y
 split
 ·exact .inl ⟨rfl,rfl⟩
 split
 ·exact .inl ⟨rfl,rfl⟩
 split
 ·split
  ·rename_i h;exact .inr ⟨rfl,h,rfl,rfl⟩
  ·exact .inl ⟨rfl,rfl⟩
 ·split
  ·rename_i h;exact .inr ⟨rfl,h,rfl,rfl⟩
  split
  ·rename_i h;exact .inr ⟨rfl,h,rfl,rfl⟩
  ·exact .inl ⟨rfl,rfl⟩
theorem zwt {pre:ByteArray} {seg:Int} {l:List SegA} {D:DiskA} {bs:List BatM} (h:z0h 0 l):z0h 0 (z0e pre seg l D bs).2.1:=by
 rcases zh4 pre seg l D bs with ⟨-,h2⟩|⟨-,-,h2,-⟩
 ·rw [h2];exact zak h
 ·rw [h2];exact h
def aP:ByteArray:=ByteArray.mk #[112]
theorem zr4:∀ (bs:List BatM) (n:Int),(zx n (bs.map BatM.p)).1=(zx n bs).1/\(zx n (bs.map BatM.p)).2.map BatM.p=(zx n bs).2.map BatM.p
 | [],n=>⟨rfl,rfl⟩
 | b::bs,n=>by
  rw [List.map_cons]
  unfold zx
  have e1:zy (b.p.to n)=zy (b.to n):=rfl
  have e2:zp b.p=zp b:=rfl
  obtain ⟨i1,i2⟩:=zr4 bs (n+zp b)
  rw [e1,e2,i1]
  split
  ·exact ⟨rfl,rfl⟩
  split
  ·exact ⟨rfl,rfl⟩
  ·exact ⟨rfl,by rw [List.map_cons,List.map_cons,i2];rfl⟩
theorem zwl {a b:List BatM} (h:a.map BatM.p=b.map BatM.p):a.flatMap frL=b.flatMap frL:=by
 rw [<- zlv a,h,zlv]
theorem z017 {a b:List BatM} (h:a.map BatM.p=b.map BatM.p) (s:SegA):s.add a=s.add b:=by unfold SegA.add;rw [h]
theorem zvw {a b:List BatM} (h:a.map BatM.p=b.map BatM.p) (l:List SegA):z4j l a=z4j l b:=by
 unfold z4j
 split
 ·rfl
 ·rw [z017 h]
theorem zmn (seg:Int) (l:List SegA) (bs:List BatM):z0y seg l (bs.map BatM.p)=z0y seg l bs:=by
 obtain ⟨h1,h2⟩:=zr4 bs (zh l)
 unfold z0y
 rw [h1,zwl h2,zvw h2,z017 h2]
 by_cases hb:bs=[]
 ·subst hb;rfl
 ·rw [if_neg hb,if_neg (by intro h;exact hb (List.map_eq_nil_iff.1 h))]
structure Calm (D:DiskA):Prop where
 gone:D.gone=false
 left:D.left = -1
theorem za8 {D:DiskA} (h:D.left = -1):z2k D=D:=by unfold z2k;rw [if_neg (by omega)]
theorem zl7 {D:DiskA} (h:Calm D) (n:ByteArray) (bs:List UInt8):Calm (z09 D n bs).2:=by
 unfold z09
 split
 ·exact h
 split
 ·exact h
 split
 ·exact h
 ·show Calm (z2k _)
  rw [za8 (by exact h.left)]
  exact ⟨h.gone,h.left⟩
theorem zxr {D:DiskA} (h:Calm D) (ns:List ByteArray):Calm (z1z D ns).2:=by
 unfold z1z
 split
 ·exact h
 split
 ·exact h
 ·show Calm (z2k _)
  rw [za8 (by exact h.left)]
  exact ⟨h.gone,h.left⟩
theorem z00e {D:DiskA} (h:Calm D) (n:ByteArray):Calm (z19 D n).2:=by
 unfold z19
 split
 ·exact h
 split
 ·exact h
 ·show Calm (z2k _)
  rw [za8 (by exact h.left)]
  exact ⟨h.gone,h.left⟩
theorem zc0 {D:DiskA} (h:Calm D) (pre:ByteArray) (l:List SegA):Calm (z0f pre l D).2:=by
 unfold z0f
 split
 ·exact h
 ·exact zxr h _
theorem z4m {A:DiskA} {n:ByteArray} {bs:List UInt8}:(z09 A n bs).2.fs.length<=A.fs.length+1/\((z06 A.fs n).isSome=true->(z09 A n bs).2.fs.length=A.fs.length):=by
 unfold z09
 split
 ·exact ⟨by show A.fs.length<=_;omega,λ_=>rfl⟩
 split
 ·exact ⟨by show A.fs.length<=_;omega,λ_=>rfl⟩
 split
 ·exact ⟨by show A.fs.length<=_;omega,λ_=>rfl⟩
 ·show (z2k _).fs.length<=_/\(_->(z2k _).fs.length=_)
  rw [z3m]
  show (if z25 A.fs n=true then _ else _:List FileA).length<=_/\(_->(if z25 A.fs n=true then _ else _:List FileA).length=_)
  rw [<- z3v]
  split
  ·rw [List.length_map];exact ⟨by omega,λ_=>rfl⟩
  ·rename_i h
   rw [(z6i _ _).length_eq]
   exact ⟨by simp,λh2=>absurd h2 h⟩
structure Cpl (pre:ByteArray) (l:List SegA) (D:DiskA):Prop where
 ok:okA D
 segs:z0h 0 l
 has:zl2 pre l D
 only:∀ n,(z06 D.fs n).isSome=true->(bl (z16 pre)).isPrefixOf (bl n)=true->∃ s ∈ l,n=zo pre s.base zw
def z63 (l:List SegA):Nat:=(l.map λs=>s.file.length).sum
theorem z7n (l:List SegA) (s:SegA):z63 (l++[s])=z63 l+s.file.length:=by simp [z63]
theorem z7k {pre:ByteArray} {s t:SegA} (hs:SegOk s) (ht:SegOk t) (h:s.base≠t.base):zo pre s.base zw≠zo pre t.base zw:=λe=>by
 have h1:=hs.base
 have h2:=ht.base
 exact h (zx1 (by omega) (by omega) e).1
theorem ze6 {pre:ByteArray} (hp:z17 pre=true) (base:Int):z3j (zo pre base zw)=true:=znq hp base rfl (by decide)
structure Fr (pre:ByteArray) (D D':DiskA):Prop where
 room:D'.room=D.room
 other:∀ m,(bl (z16 pre)).isPrefixOf (bl m)=false->z06 D'.fs m=z06 D.fs m
theorem Fr.refl (pre:ByteArray) (D:DiskA):Fr pre D D:=⟨rfl,λ_ _=>rfl⟩
theorem Fr.trans {pre:ByteArray} {D D' D'':DiskA} (h1:Fr pre D D') (h2:Fr pre D' D''):Fr pre D D'':=⟨h2.room.trans h1.room,λm hm=>(h2.other m hm).trans (h1.other m hm)⟩
theorem zn9 {D:DiskA} (hok:okA D) (n:ByteArray):okA (z1z D [n]).2/\(z1z D [n]).2.room=D.room/\used (z1z D [n]).2.fs=used D.fs/\(z1z D [n]).2.fs.length=D.fs.length /\
  ∀ m,z06 (z1z D [n]).2.fs m=z06 D.fs m\/(m=n/\(z1z D [n]).1=0/\z06 (z1z D [n]).2.fs m=(z06 D.fs m).map λp=>(p.1,p.1.length)):=by
 by_cases h:(z1z D [n]).1=0
 ·obtain ⟨-,h1,h2,h3,h4,h5⟩:=zrm hok h
  refine ⟨h1,h2,h3,h4,λm=>?_⟩
  by_cases hm:n=m
  ·subst hm
   refine .inr ⟨rfl,h,?_⟩
   rw [h5]
   simp
  ·refine .inl ?_
   rw [h5]
   simp [hm]
 ·rcases zgg (A:=D) (n:=n) with ⟨h1,-,-,-⟩|⟨-,-,h4⟩|⟨-,-,-,h4⟩
  ·exact absurd h1 h
  ·rw [h4];exact ⟨hok,rfl,rfl,rfl,λm=>.inl rfl⟩
  ·rw [h4];exact ⟨hok,rfl,rfl,rfl,λm=>.inl rfl⟩
theorem Cpl.same {pre:ByteArray} {l:List SegA} {D D':DiskA} (h:Cpl pre l D) (hok:okA D') (hf:∀ m,(bl (z16 pre)).isPrefixOf (bl m)=true->(z06 D'.fs m).map Prod.fst=(z06 D.fs m).map Prod.fst):Cpl pre l D':=by
 refine ⟨hok,h.segs,λs hs=>?_,λn hn hp=>?_⟩
 ·obtain ⟨k,hk⟩:=h.has s hs
  have:=hf _ (z4v pre s.base zw)
  rw [hk] at this
  cases hq:z06 D'.fs (zo pre s.base zw) with
  | none=>rw [hq] at this;cases this
  | some q =>
   rw [hq] at this
   simp only [Option.map_some,Option.some.injEq] at this
   exact ⟨q.2,by rw [<- this]⟩
 ·refine h.only n ?_ hp
  have:=hf n hp
  cases hq:z06 D.fs n with
  | none =>
   rw [hq] at this
   cases hq2:z06 D'.fs n with
   | none=>rw [hq2] at hn;cases hn
   | some q=>rw [hq2] at this;cases this
  | some q=>rfl
theorem z40 {pre:ByteArray} {l:List SegA} {D:DiskA} (h:Cpl pre l D):Cpl pre l (z0f pre l D).2/\Fr pre D (z0f pre l D).2/\used (z0f pre l D).2.fs=used D.fs/\(z0f pre l D).2.fs.length=D.fs.length/\(Calm D->(z0f pre l D).1=0):=by
 unfold z0f
 cases hl:l.getLast? with
 | none=>exact ⟨h,.refl _ _,rfl,rfl,λ_=>rfl⟩
 | some s =>
  simp only
  obtain ⟨h1,h2,h3,h4,h5⟩:=zn9 h.ok (zo pre s.base zw)
  refine ⟨h.same h1 λm hm=>?_,⟨h2,λm hm=>?_⟩,h3,h4,λhc=>?_⟩
  ·rcases h5 m with h6|⟨-,-,h6⟩
   ·rw [h6]
   ·rw [h6,Option.map_map];rfl
  ·rcases h5 m with h6|⟨h6,-,-⟩
   ·exact h6
   ·rw [h6,z4v] at hm;cases hm
  ·rcases zgg (A:=D) (n:=zo pre s.base zw) with ⟨h6,-,-,-⟩|⟨-,h6,-⟩|⟨-,-,h6,-⟩
   ·exact h6
   ·rw [hc.gone] at h6;cases h6
   ·obtain ⟨k,hk⟩:=h.has s (List.mem_of_getLast? hl)
    rw [hk] at h6;cases h6
theorem Cpl.grow {pre:ByteArray} {l0:List SegA} {s s':SegA} {D:DiskA} {x:List UInt8} (hp:z17 pre=true) (h:Cpl pre (l0++[s]) D) (hsegs:z0h 0 (l0++[s'])) (hb:s'.base=s.base) (hx:s'.file=s.file++x) (ha:(z09 D (zo pre s.base zw) x).1=0) :
  Cpl pre (l0++[s']) (z09 D (zo pre s.base zw) x).2/\Fr pre D (z09 D (zo pre s.base zw) x).2/\used (z09 D (zo pre s.base zw) x).2.fs+z63 (l0++[s])=used D.fs+z63 (l0++[s'])/\(z09 D (zo pre s.base zw) x).2.fs.length=D.fs.length:=by
 obtain ⟨h1,h2,h3,h4,h5,h6,h7⟩:=za7 h.ok ha
 obtain ⟨k,hk⟩:=h.has s (by simp)
 obtain ⟨f1,f2,f3,f4⟩:=h.segs.front
 refine ⟨⟨h4,hsegs,λt ht=>?_,λn hn hpn=>?_⟩,⟨h5,λm hm=>?_⟩,?_,(z4m.2 (by rw [hk];rfl))⟩
 ·rcases List.mem_append.1 ht with ht|ht
  ·have hto:=(f1.mem t ht).1
   have hne:zo pre t.base zw≠zo pre s.base zw:=z7k hto f2 (by have:=(f4 t ht).2;omega)
   rw [h7,if_neg hne]
   exact h.has t (by simp [ht])
  ·simp only [List.mem_cons,List.not_mem_nil,or_false] at ht
   subst ht
   rw [hb,h7,if_pos rfl,hk,hx]
   exact ⟨k,rfl⟩
 ·rw [h7] at hn
  by_cases hm:n=zo pre s.base zw
  ·exact ⟨s',by simp,by rw [hb];exact hm⟩
  ·rw [if_neg hm] at hn
   obtain ⟨t,ht,rfl⟩:=h.only n hn hpn
   rcases List.mem_append.1 ht with ht|ht
   ·exact ⟨t,by simp [ht],rfl⟩
   ·simp only [List.mem_cons,List.not_mem_nil,or_false] at ht
    subst ht
    exact absurd rfl hm
 ·rw [h7,if_neg]
  rintro rfl
  rw [z4v] at hm;cases hm
 ·rw [h6,z7n,z7n,hx,List.length_append];omega
theorem Cpl.begin {pre:ByteArray} {l:List SegA} {s:SegA} {D:DiskA} (h:Cpl pre l D) (hsegs:z0h 0 (l++[s])) (ha:(z09 D (zo pre s.base zw) s.file).1=0) :
  Cpl pre (l++[s]) (z09 D (zo pre s.base zw) s.file).2/\Fr pre D (z09 D (zo pre s.base zw) s.file).2/\used (z09 D (zo pre s.base zw) s.file).2.fs+z63 l=used D.fs+z63 (l++[s])/\(z09 D (zo pre s.base zw) s.file).2.fs.length<=D.fs.length+1:=by
 obtain ⟨h1,h2,h3,h4,h5,h6,h7⟩:=za7 h.ok ha
 obtain ⟨f1,f2,f3,f4⟩:=hsegs.front
 have hnone:z06 D.fs (zo pre s.base zw)=none:=by
  cases hq:z06 D.fs (zo pre s.base zw) with
  | none=>rfl
  | some q =>
   obtain ⟨t,ht,e⟩:=h.only _ (by rw [hq];rfl) (z4v pre s.base zw)
   exact absurd e (z7k f2 (f1.mem t ht).1 (by have:=(f4 t ht).2;omega))
 refine ⟨⟨h4,hsegs,λt ht=>?_,λn hn hpn=>?_⟩,⟨h5,λm hm=>?_⟩,?_,z4m.1⟩
 ·rcases List.mem_append.1 ht with ht|ht
  ·have hto:=(f1.mem t ht).1
   have hne:zo pre t.base zw≠zo pre s.base zw:=z7k hto f2 (by have:=(f4 t ht).2;omega)
   rw [h7,if_neg hne]
   exact h.has t ht
  ·simp only [List.mem_cons,List.not_mem_nil,or_false] at ht
   subst ht
   rw [h7,if_pos rfl,hnone]
   exact ⟨0,rfl⟩
 ·rw [h7] at hn
  by_cases hm:n=zo pre s.base zw
  ·exact ⟨s,by simp,hm⟩
  ·rw [if_neg hm] at hn
   obtain ⟨t,ht,rfl⟩:=h.only n hn hpn
   exact ⟨t,by simp [ht],rfl⟩
 ·rw [h7,if_neg]
  rintro rfl
  rw [z4v] at hm;cases hm
 ·rw [h6,z7n];omega
def Stp (pre:ByteArray) (l:List SegA) (D:DiskA) (l':List SegA) (D':DiskA):Prop :=
 Cpl pre l' D'/\Fr pre D D'/\used D'.fs+z63 l=used D.fs+z63 l'/\D'.fs.length+l.length<=D.fs.length+l'.length/\(Calm D->Calm D')
theorem Stp.same {pre:ByteArray} {l:List SegA} {D:DiskA} (h:Cpl pre l D):Stp pre l D l D:=⟨h,.refl _ _,rfl,Nat.le_refl _,id⟩
theorem Stp.trans {pre:ByteArray} {l l' l'':List SegA} {D D' D'':DiskA} (h1:Stp pre l D l' D') (h2:Stp pre l' D' l'' D''):Stp pre l D l'' D'' :=
 ⟨h2.1,h1.2.1.trans h2.2.1,by have:=h1.2.2.1;have:=h2.2.2.1;omega,by have:=h1.2.2.2.1;have:=h2.2.2.2.1;omega,λh=>h2.2.2.2.2 (h1.2.2.2.2 h)⟩
theorem zdf {pre:ByteArray} {l:List SegA} {D:DiskA} (h:Cpl pre l D):Stp pre l D l (z0f pre l D).2:=by
 obtain ⟨h1,h2,h3,h4,-⟩:=z40 h
 exact ⟨h1,h2,by omega,by omega,λhc=>zc0 hc _ _⟩
theorem zgf (n:Int) (bs:List BatM):(SegA.add ⟨n,0,[]⟩ bs).file=shL n 0++bs.flatMap frL:=by
 rw [z7b];simp [SegA.file]
theorem z6j {pre:ByteArray} (seg:Int) {l:List SegA} {D:DiskA} (bs:List BatM) (hp:z17 pre=true) (h:Cpl pre l D):Stp pre l D (z0e pre seg l D bs).2.1 (z0e pre seg l D bs).2.2:=by
 have hsegs:=zak (seg:=seg) (bs:=bs) h.segs
 unfold z0e
 unfold z0y at hsegs
 split
 ·exact .same h
 rename_i hb
 rw [if_neg hb] at hsegs
 split
 ·exact .same h
 rename_i hpl
 rw [if_neg hpl] at hsegs
 simp only at hsegs
 split
 ·rename_i hr
  rw [if_pos hr] at hsegs
  have hne:l≠[]:=by rintro rfl;cases hr
  obtain ⟨l0,s,rfl⟩:=z3a hne
  rw [zbn]
  rw [z45] at hsegs
  split
  ·rename_i he
   simp only
   rw [z92 he]
   exact .same h
  ·rename_i he
   have he:=Decidable.not_not.1 he
   simp only
   rw [z45]
   obtain ⟨c1,c2,c3,c4⟩:=h.grow hp hsegs rfl (z7b _ _) he
   exact ⟨c1,c2,c3,by rw [List.length_append,List.length_append];simp;omega,λhc=>zl7 hc _ _⟩
 ·rename_i hr
  rw [if_neg hr] at hsegs
  have hst:=zdf h
  split
  ·exact hst
  split
  ·rename_i he
   simp only
   rw [z92 he]
   exact hst
  ·rename_i he
   have he:=Decidable.not_not.1 he
   simp only
   rw [<- zgf] at he ⊢
   obtain ⟨c1,c2,c3,c4⟩:=hst.1.begin (s:=SegA.add ⟨zh l,0,[]⟩ (zx (zh l) bs).2) hsegs he
   refine hst.trans ⟨c1,c2,c3,?_,λhc=>zl7 hc _ _⟩
   rw [List.length_append,List.length_singleton]
   have c4:(z09 (z0f pre l D).2 (zo pre (zh l) zw) _).2.fs.length<=_:=c4
   omega
theorem zjo {pre:ByteArray} (seg:Int) {l:List SegA} {D:DiskA} (bs:List BatM) (hp:z17 pre=true) (h:Cpl pre l D) (hc:Calm D) :
  ((z0e pre seg l D bs).1=(z0y seg l bs).1/\(z0e pre seg l D bs).2.1=(z0y seg l bs).2) \/
  ((z0e pre seg l D bs).1=(0,5)/\(z0e pre seg l D bs).2.1=l/\(z0y seg l bs).1.2=0/\(zx (zh l) bs).1=0/\(((zx (zh l) bs).2.flatMap frL).length+(shL (zh l) 0).length>D.free\/D.fs.length>=128)):=by
 unfold z0e z0y
 split
 ·exact .inl ⟨rfl,rfl⟩
 split
 ·exact .inl ⟨rfl,rfl⟩
 rename_i hpl
 have hpl:=Decidable.not_not.1 hpl
 split
 ·rename_i hr
  split
  ·rename_i he
   have hne:l≠[]:=by rintro rfl;cases hr
   obtain ⟨l0,s,rfl⟩:=z3a hne
   rw [zbn] at he ⊢
   obtain ⟨k,hk⟩:=h.has s (by simp)
   have h5:(z09 D (zo pre s.base zw) ((zx (zh (l0++[s])) bs).2.flatMap frL)).1=5:=by
    rcases zeq (A:=D) (n:=zo pre s.base zw) (bs:=(zx (zh (l0++[s])) bs).2.flatMap frL) (ze6 hp _) with h6|⟨-,h6⟩|⟨h6,-⟩
    ·exact absurd h6 he
    ·rw [hc.gone] at h6;cases h6
    ·exact h6
   refine .inr ⟨by rw [h5],rfl,rfl,hpl,.inl ?_⟩
   apply Nat.lt_of_not_le
   intro hle
   exact he (zer hc.gone (ze6 hp _) (by omega) (.inl (by rw [hk];simp)))
  ·exact .inl ⟨rfl,rfl⟩
 ·rename_i hr
  obtain ⟨s1,s2,s3,s4,s5⟩:=z40 h
  have s5:=s5 hc
  have hc2:=zc0 hc pre l
  rw [if_neg (by rw [s5];simp)]
  split
  ·rename_i he
   have h5:(z09 (z0f pre l D).2 (zo pre (zh l) zw) (shL (zh l) 0++(zx (zh l) bs).2.flatMap frL)).1=5:=by
    rcases zeq (A:=(z0f pre l D).2) (n:=zo pre (zh l) zw) (bs:=shL (zh l) 0++(zx (zh l) bs).2.flatMap frL) (ze6 hp _) with h6|⟨-,h6⟩|⟨h6,-⟩
    ·exact absurd h6 he
    ·rw [hc2.gone] at h6;cases h6
    ·exact h6
   refine .inr ⟨by rw [h5],rfl,rfl,hpl,?_⟩
   by_cases hfl:D.fs.length>=128
   ·exact .inr hfl
   refine .inl ?_
   apply Nat.lt_of_not_le
   intro hle
   refine he (zer hc2.gone (ze6 hp _) ?_ (.inr (by omega)))
   have:(z0f pre l D).2.free=D.free:=by unfold DiskA.free;rw [s2.room,s3]
   rw [this,List.length_append]
   omega
  ·exact .inl ⟨rfl,rfl⟩
theorem zds:∀ {xs ys:List ByteArray},xs.Pairwise (λa b=>ltS a b=true)->ys.Pairwise (λa b=>ltS a b=true)->(∀ n,n ∈ xs↔n ∈ ys)->xs=ys
 | [],[],_,_,_=>rfl
 | [],y::ys,_,_,h=>absurd ((h y).2 (List.mem_cons_self ..)) (by simp)
 | x::xs,[],_,_,h=>absurd ((h x).1 (List.mem_cons_self ..)) (by simp)
 | x::xs,y::ys,hx,hy,h=>by
  rw [List.pairwise_cons] at hx hy
  have hxy:x=y:=by
   rcases List.mem_cons.1 ((h x).1 (List.mem_cons_self ..)) with h1|h1
   ·exact h1
   ·rcases List.mem_cons.1 ((h y).2 (List.mem_cons_self ..)) with h2|h2
    ·exact h2.symm
    ·have h3:=hy.1 x h1
     have h4:=hx.1 y h2
     rw [zaf h3] at h4
     cases h4
  subst hxy
  congr 1
  refine zds hx.2 hy.2 λn=>?_
  constructor
  ·intro hn
   rcases List.mem_cons.1 ((h n).1 (List.mem_cons_of_mem _ hn)) with h1|h1
   ·subst h1
    have:=hx.1 n hn
    rw [z4s] at this;cases this
   ·exact h1
  ·intro hn
   rcases List.mem_cons.1 ((h n).2 (List.mem_cons_of_mem _ hn)) with h1|h1
   ·subst h1
    have:=hy.1 n hn
    rw [z4s] at this;cases this
   ·exact h1
theorem zr6 (p s:ByteArray):Go.Proofs.YtgpcickgjngglaaGreat.preF p s=(bl p).isPrefixOf (bl s):=by
 unfold Go.Proofs.YtgpcickgjngglaaGreat.preF
 rw [ByteArray.toList_eq,ByteArray.toList_eq]
theorem zjt {D:DiskA} {pre n:ByteArray}:n ∈ z13 (z16 pre) D.fs↔(z06 D.fs n).isSome=true/\(bl (z16 pre)).isPrefixOf (bl n)=true:=by
 unfold z13
 rw [List.mem_filter,<- z3v,z6e,zr6]
 constructor
 ·rintro ⟨h1,h2⟩
  obtain ⟨f,hf,rfl⟩:=List.mem_map.1 h1
  exact ⟨⟨f,hf,rfl⟩,h2⟩
 ·rintro ⟨⟨f,hf,rfl⟩,h2⟩
  exact ⟨List.mem_map.2 ⟨f,hf,rfl⟩,h2⟩
theorem zdh {D:DiskA} (hok:okA D) (p:ByteArray):(z13 p D.fs).Pairwise λa b=>ltS a b=true:=by
 unfold z13
 exact ((List.pairwise_map.2 hok.sorted).filter _)
theorem zay (pre:ByteArray):∀ {n:Int} {l:List SegA},z0h n l->(l.map λs=>zo pre s.base zw).Pairwise λa b=>ltS a b=true
 | _,[],_=>List.Pairwise.nil
 | n,s::l,⟨h1,h2,h3⟩=>by
  rw [List.map_cons,List.pairwise_cons]
  refine ⟨λm hm=>?_,zay pre h3⟩
  obtain ⟨t,ht,rfl⟩:=List.mem_map.1 hm
  have h4:=h3.mem t ht
  have:=h2.base
  have:=h4.1.base
  exact (zwy pre (by omega) (by omega) zw).2 (by omega)
theorem Cpl.names {pre:ByteArray} {l:List SegA} {D:DiskA} (h:Cpl pre l D):z13 (z16 pre) D.fs=l.map λs=>zo pre s.base zw:=by
 refine zds (zdh h.ok _) (zay pre h.segs) λn=>?_
 rw [zjt]
 constructor
 ·rintro ⟨h1,h2⟩
  obtain ⟨s,hs,rfl⟩:=h.only n h1 h2
  exact List.mem_map.2 ⟨s,hs,rfl⟩
 ·intro hn
  obtain ⟨s,hs,rfl⟩:=List.mem_map.1 hn
  obtain ⟨k,hk⟩:=h.has s hs
  exact ⟨by rw [hk];rfl,z4v pre s.base zw⟩
theorem zbt (pre:ByteArray) (D:DiskA):∀ {l:List SegA},(∀ s ∈ l,SegOk s)->z10 pre (l.map λs=>zo pre s.base zw) D=(0,l.map SegA.base,D)
 | [],_=>rfl
 | s::l,h=>by
  have hb:=(h s (List.mem_cons_self ..)).base
  have h1:z1h pre (zo pre s.base zw) zw=some s.base.toNat:=zes pre (by omega) zw
  have h2:z1h pre (zo pre s.base zw) z8a=none:=ziz h1 (by decide)
  rw [List.map_cons]
  unfold z10
  rw [h2]
  rw [if_neg (by rintro ⟨h3,-⟩;cases h3)]
  simp only [Option.isSome_none,Bool.false_eq_true,if_false]
  rw [zbt pre D λt ht=>h t (List.mem_cons_of_mem _ ht),h1]
  simp only [List.map_cons]
  have e:((s.base.toNat:Nat):Int)=s.base:=by omega
  rw [e]
  rfl
theorem zhd {pre:ByteArray} {D:DiskA}:∀ {l l1:List SegA},z0h 0 (l1++l)->(∀ s ∈ l,∃ k,z06 D.fs (zo pre s.base zw)=some (s.file,k))->z28 pre (l.map SegA.base) l1 D=(0,l1++l,D)
 | [],l1,_,_=>by unfold z28;simp
 | s::l,l1,hok,hh=>by
  rw [List.map_cons]
  unfold z28
  have hok2:z0h 0 ((l1++[s])++l):=by rwa [List.append_assoc]
  have hs:SegOk s:=(hok.mem s (by simp)).1
  obtain ⟨k,hk⟩:=hh s (List.mem_cons_self ..)
  have hb:¬ s.base<zh l1:=by
   have:=hs.base
   by_cases h0:l1=[]
   ·subst h0;show ¬ s.base<0;omega
   ·obtain ⟨l0,t,rfl⟩:=z3a h0
    rw [z3f]
    have h1:=hok.skip l0.length (l0.length+1) (by simp) (by omega)
    have e1:(l0++[t]++s::l)[l0.length]'(by simp)=t:=by simp
    have e2:(l0++[t]++s::l)[l0.length+1]'(by simp)=s:=by
     rw [List.getElem_append_right (by simp)];simp
    rw [e1,e2] at h1
    omega
  have hsc:z1t pre l1 D s.base=((true,0),l1++[s],D):=by
   unfold z1t
   rw [hk]
   simp only
   rw [zk6 hs]
   simp only
   rw [if_pos trivial]
  rw [if_neg hb,hsc,if_neg (by simp),if_pos rfl]
  simp only
  rw [zhd hok2 λt ht=>hh t (List.mem_cons_of_mem _ ht),List.append_assoc]
  rfl
theorem Cpl.opened {pre:ByteArray} {l:List SegA} {D:DiskA} (h:Cpl pre l D):z4r pre D=(0,l,D):=by
 unfold z4r
 rw [h.names,zbt pre D λs hs=>(h.segs.mem s hs).1]
 rw [if_neg (by simp)]
 simp only
 have:=zhd (pre:=pre) (D:=D) (l:=l) (l1:=[]) h.segs h.has
 rw [this]
 rfl
theorem Cpl.frame {pre q:ByteArray} {l:List SegA} {D D':DiskA} (h:Cpl q l D) (hok:okA D') (hp:z17 pre=true) (hq:z17 q=true) (hne:pre≠q) (hf:Fr pre D D'):Cpl q l D' :=
 h.same hok λm hm=>by
  rw [hf.other m ?_]
  cases hx:(bl (z16 pre)).isPrefixOf (bl m) with
  | false=>rfl
  | true=>exact absurd (zyr hp hq hx hm) hne
theorem zj5 (pre:ByteArray) (n:Nat) (hn:n<=4194304):Cpl pre [] ⟨n,-1,false,[]⟩ :=
 ⟨⟨hn,by show (0:Nat)<=_;omega,by show (0:Nat)<=_;omega,by show -1<=(-1:Int)/\(-1:Int)<=_;omega,List.Pairwise.nil,(λf h=>by cases h),λf h=>by cases h⟩,trivial,(λs h=>by cases h),λn h=>by cases h⟩
structure SegR where
 base:Int
 fin:Int
 x:Sl
 bs:List BatM
structure RefM where
 seg:Int
 gap:Int
 SR:List SegR
def SegR.p (s:SegR):SegA:=⟨s.base,s.fin,s.bs.map BatM.p⟩
def RefM.l (R:RefM):List SegA:=R.SR.map SegR.p
def RefM.bs (R:RefM):List BatM:=R.SR.flatMap SegR.bs
def zgu (s:SegR):List Value:=[.int .i64 s.base,.int .i64 s.fin,.slice s.x.a s.x.len s.x.cap]
instance:EncA zgu [.int .i64,.int .i64,.slc] (λs=>(s.base,s.fin,s.x,())):=⟨λ_=>rfl⟩
instance:EncN zgu 3:=⟨λ_=>rfl,by decide,by simp [zgu,Value.oneCell']⟩
instance:EncF zgu 0 (.int .i64) (λs=>s.base):=⟨λ_=>rfl⟩
section
variable {w:World} {l r:List HP} {a:Nat} {R:RefM}
theorem zgl:z04 R.l=R.bs.map BatM.p:=by
 unfold z04 RefM.l RefM.bs
 rw [List.flatMap_map,List.map_flatMap]
 rfl
class okR (R:RefM) (l:List HP):Prop where
 segs:z0h 0 R.l
 rd:∀ b ∈ R.bs,FocR l b.x 4 (b.rs.flatMap zu)
 len:R.SR.length<=1000000
 all:R.bs.length<=1000000
theorem okR.valid {L:List HP} (h:okR R L):∀ s ∈ R.SR,SegOk s.p/\(∀ b ∈ s.bs,zy b=0/\FocR L b.x 4 (b.rs.flatMap zu))/\s.bs.length<=1000000:=λs hs=>by
 have h1:=(h.segs.mem s.p (List.mem_map.2 ⟨s,hs,rfl⟩)).1
 refine ⟨h1,λb hb=>⟨(h1.bs.valid b.p (List.mem_map.2 ⟨b,hb,rfl⟩)).1,h.rd b (List.mem_flatMap.2 ⟨s,hs,hb⟩)⟩,?_⟩
 refine Nat.le_trans ?_ h.all
 obtain ⟨u,v,huv⟩:=List.append_of_mem hs
 unfold RefM.bs
 rw [huv]
 simp only [List.flatMap_append,List.flatMap_cons,List.length_append]
 omega
instance okR.cons {H:HP} {L:List HP} [h:okR R L]:okR R (H::L):=⟨h.segs,λb hb=>by have:=h.rd b hb;infer_instance,h.len,h.all⟩
end
instance:EncF zu 0 .str (λr=>r.key):=⟨λ_=>rfl⟩
section
variable {w:World} {l r:List HP} {a:Nat} {R:RefM} {z:Sl} {g1 g2:Int}
theorem okR.base {L:List HP} (h:okR R L):∀ s ∈ R.SR,0<=s.base/\s.base<=1099511627776:=λs hs=>(h.valid s hs).1.base
end
instance:EncF zgu 2 .slc (λs=>s.x):=⟨λ_=>rfl⟩
def SegR.add (s:SegR) (z:Sl) (q:List BatM):SegR:=⟨s.base,s.fin,z,s.bs++q⟩
def z9y (t:ByteArray):ByteArray:=if t.size>30 then t.extract 0 30 else t
def zdr (r:RecM):RecM:=⟨z9y r.key,z9y r.value,r.gone,r.time⟩
def z0a (b:BatM):BatM:=⟨b.base,b.pid,b.epoch,b.seq,b.kind,b.time,z8b,(b.rs.take 6).map zdr⟩
theorem zfh (t:ByteArray):(z9y t).size<=30:=by
 unfold z9y
 split
 ·rw [ByteArray.size_extract];omega
 ·omega
theorem zxl (b:BatM) (n:Int) (z:Sl):2<=(z2p (((z0a b).at z).to n)).length/\(z2p (((z0a b).at z).to n)).length<=668:=by
 have h:=zq7 (b:=((z0a b).at z).to n) (n:=60) λr hr=>by
  obtain ⟨q,-,rfl⟩:=List.mem_map.1 (show r ∈ (b.rs.take 6).map zdr from hr)
  have h1:=zfh q.key
  have h2:=zfh q.value
  show (z9y q.key).size+(z9y q.value).size<=60
  omega
 have h3:(((z0a b).at z).to n).rs.length<=6:=by
  show ((b.rs.take 6).map zdr).length<=6
  rw [List.length_map,List.length_take];omega
 omega
abbrev cZ (b:BatM) (z:Sl):Array Value:=#[.int .i64 b.base,.int .i64 b.pid,.int .i64 b.epoch,.int .i64 b.seq,.int .i64 b.kind,.int .i64 b.time,.slice z.a z.len z.cap]
theorem zkf {nm:SegA->ByteArray}:∀ {fs:List FileA} {l:List SegA},fs.map (·.name)=l.map nm->(∀ f ∈ fs,∀ s ∈ l,f.name=nm s->f.b=s.file)->used fs=z63 l
 | [],[],_,_=>rfl
 | [],s::l,h,_=>by simp at h
 | f::fs,[],h,_=>by simp at h
 | f::fs,s::l,h,hh=>by
  rw [List.map_cons,List.map_cons,List.cons.injEq] at h
  have h1:=hh f (List.mem_cons_self ..) s (List.mem_cons_self ..) h.1
  have h2:=zkf h.2 λf hf s hs=>hh f (List.mem_cons_of_mem _ hf) s (List.mem_cons_of_mem _ hs)
  rw [z1m,h2,h1]
  simp [z63]
theorem Cpl.sizes {pre:ByteArray} {l:List SegA} {D:DiskA} (h:Cpl pre l D):l.length<=D.fs.length/\z63 l<=used D.fs:=by
 have hn:=h.names
 have e:(D.fs.filter λf=>(bl (z16 pre)).isPrefixOf (bl f.name)).map (·.name)=l.map λs=>zo pre s.base zw:=by
  rw [<- hn]
  unfold z13
  rw [List.filter_map]
  congr 1
  apply List.filter_congr
  intro f _
  show _=Go.Proofs.YtgpcickgjngglaaGreat.preF (z16 pre) f.name
  rw [zr6]
 have hs:=zkf e λf hf s hs hfs=>by
  have h1:=zcz (z2x h.ok.sorted) (List.mem_filter.1 hf).1
  obtain ⟨k,hk⟩:=h.has s hs
  rw [hfs,hk] at h1
  simp only [Option.some.injEq,Prod.mk.injEq] at h1
  exact h1.1.symm
 have hl:=congrArg List.length e
 rw [List.length_map,List.length_map] at hl
 exact ⟨by rw [<- hl];exact List.length_filter_le _ _,by rw [<- hs];exact zgj List.filter_sublist⟩
theorem zrk:∀ {n:Int} {l:List SegA},z0h n l->(z04 l).length*10<=z63 l
 | _,[],_=>Nat.le_refl _
 | n,s::l,⟨h1,h2,h3⟩=>by
  have h4:=zrk h3
  have h5:=zi3 h2
  have e1:z04 (s::l)=s.bs++z04 l:=by simp [z04]
  have e2:z63 (s::l)=s.file.length+z63 l:=by simp [z63]
  rw [e1,e2,List.length_append]
  omega
theorem Cpl.len {pre:ByteArray} {l:List SegA} {D:DiskA} (h:Cpl pre l D):l.length<=128/\(z04 l).length<=500000/\∀ s ∈ l,s.file.length<=4194304:=by
 obtain ⟨h1,h2⟩:=h.sizes
 have h3:=zrk h.segs
 have h4:=h.ok.many
 have h5:=h.ok.used
 refine ⟨by omega,by omega,λs hs=>?_⟩
 obtain ⟨k,hk⟩:=h.has s hs
 exact Nat.le_trans (zdu hk) h5
theorem zfc (b:BatM) (z:Sl) (n:Int):((zx n [(z0a b).at z]).2.flatMap frL).length<=676:=by
 unfold zx
 split
 ·exact Nat.zero_le _
 ·rename_i hv
  have hv:=Decidable.not_not.1 hv
  split
  ·exact Nat.zero_le _
  ·show ((((z0a b).at z).to n)::(zx _ []).2 |>.flatMap frL).length<=676
   have h1:=zxl b n z
   have h2:=z5b hv
   simp only [zx,List.flatMap_cons,List.flatMap_nil,List.append_nil]
   omega
theorem zn7 {seg:Int} {l:List SegA} {bs:List BatM}:z63 (z0y seg l bs).2<=z63 l+((zx (zh l) bs).2.flatMap frL).length+29:=by
 unfold z0y
 split
 ·simp only;omega
 split
 ·simp only;omega
 simp only
 split
 ·rename_i hr
  have hne:l≠[]:=by rintro rfl;cases hr
  obtain ⟨l0,s,rfl⟩:=z3a hne
  rw [z45,z7n,z7n,z7b,List.length_append]
  omega
 ·have:=zef (zh l) 0
  rw [z7n,zgf,List.length_append]
  omega
theorem zt8 (seg:Int) (l:List SegA) (b:BatM) (z1 z2:Sl):z0y seg l [(z0a b).at z1]=z0y seg l [(z0a b).at z2]:=by
 rw [<- zmn,<- zmn seg l [(z0a b).at z2]]
 rfl
theorem zsp {pre:ByteArray} (seg:Int) {l:List SegA} {D:DiskA} (b:BatM) (z:Sl) (hp:z17 pre=true) (h:Cpl pre l D) (hc:Calm D) (hf:705<=D.free) (hl:D.fs.length<128) :
  (z0e pre seg l D [(z0a b).at z]).1=(z0y seg l [(z0a b).at z]).1/\(z0e pre seg l D [(z0a b).at z]).2.1=(z0y seg l [(z0a b).at z]).2 /\
  used (z0e pre seg l D [(z0a b).at z]).2.2.fs<=used D.fs+705/\(z0e pre seg l D [(z0a b).at z]).2.2.fs.length<=D.fs.length+1:=by
 have h1:=zfc b z (zh l)
 have h2:=zef (zh l) 0
 have h3:=z6j seg [(z0a b).at z] hp h
 have h4:=zn7 (seg:=seg) (l:=l) (bs:=[(z0a b).at z])
 rcases zjo seg [(z0a b).at z] hp h hc with ⟨e1,e2⟩|⟨-,-,-,-,h5|h5⟩
 ·refine ⟨e1,e2,?_,?_⟩
  ·have:=h3.2.2.1
   rw [e2] at this
   omega
  ·unfold z0e
   split
   ·simp only;omega
   split
   ·simp only;omega
   split
   ·split <;> exact z4m.1
   ·obtain ⟨-,-,-,s4,-⟩:=z40 h
    split
    ·simp only;omega
    split
    ·simp only
     have:=(z4m (A:=(z0f pre l D).2) (n:=zo pre (zh l) zw) (bs:=shL (zh l) 0++(zx (zh l) [(z0a b).at z]).2.flatMap frL)).1
     omega
    ·simp only
     have:=(z4m (A:=(z0f pre l D).2) (n:=zo pre (zh l) zw) (bs:=shL (zh l) 0++(zx (zh l) [(z0a b).at z]).2.flatMap frL)).1
     omega
 ·omega
 ·omega
theorem z34 (l:List SegA) (s:SegA):z04 (l++[s])=z04 l++s.bs:=by simp [z04]
theorem zx4 {a b:List BatM} (h:b≠[]):z0i (a++b)=z0i b:=by
 obtain ⟨b0,x,rfl⟩:=z3a h
 rw [<- List.append_assoc,z3x,z3x]
theorem zc6 {seg:Int} {l:List SegA} {bs:List BatM} (hok:z0h 0 l) (hb:bs≠[]) (hp:(zx (zh l) bs).1=0) :
  z04 (z0y seg l bs).2=z04 l++(zx (zh l) bs).2.map BatM.p/\zh (z0y seg l bs).2=z0i ((zx (zh l) bs).2.map BatM.p):=by
 have hq1:=(zdk hp).1
 have hq:(zx (zh l) bs).2.map BatM.p≠[]:=by
  intro h
  have:=List.map_eq_nil_iff.1 h
  rw [this] at hq1
  exact hb (List.length_eq_zero_iff.1 hq1.symm)
 have hnx:=hok.next (Int.le_refl 0)
 have hlt:=((zaj hnx.1 hp).1.next hnx.1).1 hq
 unfold z0y
 rw [if_neg hb,if_neg (by rw [hp];simp)]
 simp only
 split
 ·rename_i hr
  have hne:l≠[]:=by rintro rfl;cases hr
  obtain ⟨l0,s,rfl⟩:=z3a hne
  rw [z45,z34,z34,z3f]
  refine ⟨by simp [SegA.add],?_⟩
  have hsr:=z5v hok.front.2.1
  rw [z3f] at hlt hq ⊢
  show max (max s.base s.fin) (z0i (s.bs++_))=_
  rw [zx4 hq]
  omega
 ·rw [z34,z3f]
  refine ⟨by simp [SegA.add],?_⟩
  show max (max (zh l) 0) (z0i ([]++_))=_
  rw [List.nil_append]
  omega
theorem zg9 {seg:Int} {l:List SegA} {bs:List BatM} (h:bs=[]\/(zx (zh l) bs).1≠0):(z0y seg l bs).2=l/\(z0y seg l bs).1.2≠0:=by
 unfold z0y
 by_cases hb:bs=[]
 ·rw [if_pos hb];exact ⟨rfl,by simp⟩
 ·rw [if_neg hb]
  rcases h with h|h
  ·exact absurd h hb
  ·rw [if_pos h];exact ⟨rfl,h⟩
def z9t (seg:Int) (bs:List BatM):List SegA:=bs.foldl (λl b=>(z0y seg l [b]).2) []
theorem znu (seg:Int) (bs:List BatM) (b:BatM):z9t seg (bs++[b])=(z0y seg (z9t seg bs) [b]).2:=by
 unfold z9t
 rw [List.foldl_append]
 rfl
theorem zjz (b:BatM) (n:Int) (h:(zx n [b]).1=0):(zx n [b]).2=[b.to n]:=by
 unfold zx at h ⊢
 split at h
 ·rename_i h1;exact absurd h h1
 ·rename_i h1
  rw [if_neg h1]
  split at h
  ·rename_i h2;exact absurd rfl h2
  ·rename_i h2;rw [if_neg h2];rfl
theorem z04w (seg:Int) (l:List SegA) (b:BatM):z0y seg l [(b.to (zh l)).p]=z0y seg l [b]:=by
 rw [<- zmn seg l [b]]
 have e:zx (zh l) [(b.to (zh l)).p]=zx (zh l) ([b].map BatM.p):=rfl
 unfold z0y
 rw [e]
 rfl
def z8x (pre:ByteArray) (l:List SegA) (D:DiskA) (n:Nat):Prop:=n<=(z04 l).length/\∀ l0 t,l=l0++[t]->(∀ s ∈ l0,z06 D.fs (zo pre s.base zw)=some (s.file,s.file.length)) /\
 ∃ k,z06 D.fs (zo pre t.base zw)=some (t.file,k)/\∀ j,1<=j->j<=t.bs.length->(z04 l0).length+j<=n->(t.cut j).file.length<=k
theorem zca {α:Type} {a b:List α} {x y:α} (h:a++[x]=b++[y]):a=b/\x=y:=by
 have:=List.append_inj' h rfl
 exact ⟨this.1,by simpa using this.2⟩
theorem zex (t:SegA) (j:Nat):(t.cut j).file.length<=t.file.length:=by
 rw [z2r,z2r]
 show (shL t.base t.fin).length+((t.bs.take j).flatMap frL).length<=_
 have:t.bs.flatMap frL=(t.bs.take j).flatMap frL++(t.bs.drop j).flatMap frL:=by rw [<- List.flatMap_append,List.take_append_drop]
 rw [this,List.length_append];omega
theorem z8x.sync {pre:ByteArray} {l:List SegA} {D:DiskA} {n:Nat} (h:z8x pre l D n) (hc:Cpl pre l D):z8x pre l (z0f pre l D).2 n/\((z0f pre l D).1=0->z8x pre l (z0f pre l D).2 (z04 l).length /\
  ∀ s ∈ l,z06 (z0f pre l D).2.fs (zo pre s.base zw)=some (s.file,s.file.length)):=by
 by_cases h0:l=[]
 ·subst h0
  exact ⟨h,λ_=>⟨⟨Nat.le_refl _,λl0 t e=>by simp at e⟩,λs hs=>by cases hs⟩⟩
 obtain ⟨l0,t,rfl⟩:=z3a h0
 have e:z0f pre (l0++[t]) D=z1z D [zo pre t.base zw]:=by unfold z0f;rw [z20]
 rw [e]
 obtain ⟨h1,k,h2,h3⟩:=h.2 l0 t rfl
 obtain ⟨-,-,-,-,h5⟩:=zn9 hc.ok (zo pre t.base zw)
 obtain ⟨f1,f2,f3,f4⟩:=hc.segs.front
 have hold:∀ s ∈ l0,z06 (z1z D [zo pre t.base zw]).2.fs (zo pre s.base zw)=some (s.file,s.file.length):=λs hs=>by
  rcases h5 (zo pre s.base zw) with h6|⟨h6,-,-⟩
  ·rw [h6];exact h1 s hs
  ·exact absurd h6 (z7k (f1.mem s hs).1 f2 (by have:=(f4 s hs).2;omega))
 constructor
 ·refine ⟨h.1,λl0' t' e'=>?_⟩
  obtain ⟨rfl,rfl⟩:=zca e'
  refine ⟨hold,?_⟩
  rcases h5 (zo pre t.base zw) with h6|⟨-,-,h6⟩
  ·rw [h6];exact ⟨k,h2,h3⟩
  ·rw [h6,h2]
   exact ⟨t.file.length,rfl,λj h7 h8 h9=>zex _ _⟩
 ·intro h0
  have hnew:z06 (z1z D [zo pre t.base zw]).2.fs (zo pre t.base zw)=some (t.file,t.file.length):=by
   obtain ⟨-,-,-,-,-,h7⟩:=zrm hc.ok h0
   rw [h7,h2];simp
  refine ⟨⟨Nat.le_refl _,λl0' t' e'=>?_⟩,λs hs=>?_⟩
  ·obtain ⟨rfl,rfl⟩:=zca e'
   exact ⟨hold,t.file.length,hnew,λj _ _ _=>zex _ _⟩
  ·rcases List.mem_append.1 hs with hs|hs
   ·exact hold s hs
   ·simp only [List.mem_cons,List.not_mem_nil,or_false] at hs
    subst hs;exact hnew
theorem z8x.begin {pre:ByteArray} {l:List SegA} {s:SegA} {D:DiskA} {n:Nat} (h:z8x pre l D n) (hc:Cpl pre l D) (hsegs:z0h 0 (l++[s])) (hall:∀ t ∈ l,z06 D.fs (zo pre t.base zw)=some (t.file,t.file.length)) (ha:(z09 D (zo pre s.base zw) s.file).1=0):z8x pre (l++[s]) (z09 D (zo pre s.base zw) s.file).2 n:=by
 obtain ⟨-,-,-,-,-,-,h7⟩:=za7 hc.ok ha
 obtain ⟨f1,f2,f3,f4⟩:=hsegs.front
 have hn:=h.1
 have hnone:z06 D.fs (zo pre s.base zw)=none:=by
  cases hq:z06 D.fs (zo pre s.base zw) with
  | none=>rfl
  | some q =>
   obtain ⟨t,ht,e⟩:=hc.only _ (by rw [hq];rfl) (z4v pre s.base zw)
   exact absurd e (z7k f2 (f1.mem t ht).1 (by have:=(f4 t ht).2;omega))
 refine ⟨by rw [z34,List.length_append];omega,λl0' t' e'=>?_⟩
 obtain ⟨rfl,rfl⟩:=zca e'
 refine ⟨λt ht=>?_,0,?_,λj j1 j2 j3=>?_⟩
 ·rw [h7,if_neg (z7k (f1.mem t ht).1 f2 (by have:=(f4 t ht).2;omega))]
  exact hall t ht
 ·rw [h7,if_pos rfl,hnone]
  rfl
 ·omega
theorem z8x.app {pre:ByteArray} {seg:Int} {l:List SegA} {D:DiskA} {bs:List BatM} {n:Nat} (hp:z17 pre=true) (h:z8x pre l D n) (hc:Cpl pre l D):z8x pre (z0e pre seg l D bs).2.1 (z0e pre seg l D bs).2.2 n:=by
 have hsegs:=zak (seg:=seg) (bs:=bs) hc.segs
 unfold z0e
 unfold z0y at hsegs
 split
 ·exact h
 rename_i hb
 rw [if_neg hb] at hsegs
 split
 ·exact h
 rename_i hpl
 rw [if_neg hpl] at hsegs
 simp only at hsegs
 split
 ·rename_i hr
  have hne:l≠[]:=by rintro rfl;cases hr
  obtain ⟨l0,t,rfl⟩:=z3a hne
  rw [zbn]
  split
  ·rename_i he
   simp only
   rw [z92 he];exact h
  ·rename_i he
   have he:=Decidable.not_not.1 he
   simp only
   rw [z45]
   obtain ⟨h1,k,h2,h3⟩:=h.2 l0 t rfl
   obtain ⟨-,-,-,-,-,-,h7⟩:=za7 hc.ok he
   obtain ⟨f1,f2,f3,f4⟩:=hc.segs.front
   have hn:=h.1
   rw [z34,List.length_append] at hn
   refine ⟨by rw [z34,List.length_append];simp only [SegA.add,List.length_append];omega,λl0' t' e'=>?_⟩
   obtain ⟨rfl,rfl⟩:=zca e'
   refine ⟨λs hs=>?_,k,?_,λj j1 j2 j3=>?_⟩
   ·rw [h7,if_neg (z7k (f1.mem s hs).1 f2 (by have:=(f4 s hs).2;omega))]
    exact h1 s hs
   ·show z06 _ (zo pre t.base zw)=_
    rw [h7,if_pos rfl,h2,z7b]
    rfl
   ·have hj:j<=t.bs.length:=by omega
    have e:(t.add (zx (zh (l0++[t])) bs).2).cut j=t.cut j:=by
     unfold SegA.cut SegA.add
     simp only
     rw [List.take_append_of_le_length hj]
    rw [e]
    exact h3 j j1 hj j3
 ·rename_i hr
  obtain ⟨hs1,hs2⟩:=h.sync hc
  split
  ·exact hs1
  rename_i hse
  have hse:=Decidable.not_not.1 hse
  split
  ·rename_i he
   simp only
   rw [z92 he];exact hs1
  ·rename_i he
   have he:=Decidable.not_not.1 he
   rw [if_neg hr] at hsegs
   simp only
   obtain ⟨hs3,hs4⟩:=hs2 hse
   rw [<- zgf] at he ⊢
   exact hs1.begin (s:=SegA.add ⟨zh l,0,[]⟩ (zx (zh l) bs).2) (z40 hc).1 hsegs hs4 he
structure CutP (pre:ByteArray) (l0:List SegA) (t:SegA) (k:Nat) (D:DiskA):Prop where
 ok:okA D
 segs:z0h 0 (l0++[t])
 old:∀ s ∈ l0,z06 D.fs (zo pre s.base zw)=some (s.file,s.file.length)
 last:z06 D.fs (zo pre t.base zw)=some (t.file.take k,k)
 le:k<=t.file.length
 only:∀ n,(z06 D.fs n).isSome=true->(bl (z16 pre)).isPrefixOf (bl n)=true->∃ s ∈ l0++[t],n=zo pre s.base zw
theorem CutP.fs {pre:ByteArray} {l0:List SegA} {t:SegA} {k:Nat} {D D':DiskA} (h:CutP pre l0 t k D) (hok:okA D') (e:D'.fs=D.fs):CutP pre l0 t k D' :=
 ⟨hok,h.segs,by rw [e];exact h.old,by rw [e];exact h.last,h.le,by rw [e];exact h.only⟩
theorem zzm {pre:ByteArray} {l:List SegA} {D:DiskA} (hok:okA D) (hsegs:z0h 0 l) (hex:∀ s ∈ l,(z06 D.fs (zo pre s.base zw)).isSome=true) (only:∀ n,(z06 D.fs n).isSome=true->(bl (z16 pre)).isPrefixOf (bl n)=true->∃ s ∈ l,n=zo pre s.base zw):z13 (z16 pre) D.fs=l.map λs=>zo pre s.base zw:=by
 refine zds (zdh hok _) (zay pre hsegs) λn=>?_
 rw [zjt]
 constructor
 ·rintro ⟨h1,h2⟩
  obtain ⟨s,hs,rfl⟩:=only n h1 h2
  exact List.mem_map.2 ⟨s,hs,rfl⟩
 ·intro hn
  obtain ⟨s,hs,rfl⟩:=List.mem_map.1 hn
  exact ⟨hex s hs,z4v pre s.base zw⟩
theorem zj0 {l1 l:List SegA} {s:SegA} (hok:z0h 0 (l1++s::l)):¬ s.base<zh l1:=by
 have hs:SegOk s:=(hok.mem s (by simp)).1
 have:=hs.base
 by_cases h0:l1=[]
 ·subst h0;show ¬ s.base<0;omega
 ·obtain ⟨l0,t,rfl⟩:=z3a h0
  rw [z3f]
  have h1:=hok.skip l0.length (l0.length+1) (by simp) (by omega)
  have e1:(l0++[t]++s::l)[l0.length]'(by simp)=t:=by simp
  have e2:(l0++[t]++s::l)[l0.length+1]'(by simp)=s:=by
   rw [List.getElem_append_right (by simp)];simp
  rw [e1,e2] at h1
  omega
theorem zjx {pre:ByteArray} {D:DiskA} {rest:List Int}:∀ {l l1:List SegA},z0h 0 (l1++l)->(∀ s ∈ l,∃ k,z06 D.fs (zo pre s.base zw)=some (s.file,k))->z28 pre (l.map SegA.base++rest) l1 D=z28 pre rest (l1++l) D
 | [],l1,_,_=>by simp
 | s::l,l1,hok,hh=>by
  rw [List.map_cons,List.cons_append]
  have hok2:z0h 0 ((l1++[s])++l):=by rwa [List.append_assoc]
  have hs:SegOk s:=(hok.mem s (by simp)).1
  obtain ⟨k,hk⟩:=hh s (List.mem_cons_self ..)
  have hsc:z1t pre l1 D s.base=((true,0),l1++[s],D):=by
   unfold z1t
   rw [hk]
   simp only
   rw [zk6 hs]
   simp only
   rw [if_pos trivial]
  have e:z28 pre (s.base::(l.map SegA.base++rest)) l1 D=z28 pre (l.map SegA.base++rest) (l1++[s]) D:=by
   rw [z28]
   rw [if_neg (zj0 hok),hsc,if_neg (by simp),if_pos rfl]
  rw [e,zjx hok2 λt ht=>hh t (List.mem_cons_of_mem _ ht),List.append_assoc]
  rfl
theorem zfm {g:FileA->FileA} (hg:∀ f,(g f).b.length<=f.b.length):∀ fs:List FileA,used (fs.map g)<=used fs
 | []=>Nat.le_refl _
 | f::fs=>by
  have:=zfm hg fs
  have:=hg f
  rw [List.map_cons,z1m,z1m]
  omega
theorem zyq (A:DiskA) (n:ByteArray) (k:Int):used (cutA' A n k).2.fs<=used A.fs:=by
 unfold cutA'
 split
 ·exact Nat.le_refl _
 split
 ·exact Nat.le_refl _
 split
 ·exact Nat.le_refl _
 ·show used (z2k _).fs<=_
  rw [z3m]
  refine zfm (λf=>?_) _
  unfold z1x
  split
  ·show (f.b.take _).length<=_;rw [List.length_take];omega
  ·exact Nat.le_refl _
theorem zyp {D:DiskA} (h:Calm D) (n:ByteArray) (k:Int):Calm (cutA' D n k).2:=by
 unfold cutA'
 split
 ·exact h
 split
 ·exact h
 split
 ·exact h
 ·show Calm (z2k _)
  rw [za8 (by exact h.left)]
  exact ⟨h.gone,h.left⟩
theorem zxd {t:SegA} (ht:SegOk t) (j:Nat):(t.cut j).reach<=t.reach:=by
 unfold SegA.reach SegA.cut
 simp only
 have h:z0i (t.bs.take j)<=max (max t.base t.fin) (z0i t.bs):=by
  by_cases h0:t.bs.take j=[]
  ·rw [h0];have:=ht.base;show (0:Int)<=_;omega
  ·obtain ⟨l,b,hb⟩:=z3a h0
   rw [hb,z3x]
   have hm:b ∈ t.bs:=List.mem_of_mem_take (by rw [hb];simp)
   have:=ht.bs.le_next hm
   omega
 omega
structure OpnP (pre:ByteArray) (l:List SegA) (n:Nat) (D:DiskA) (l1:List SegA) (D3:DiskA):Prop where
 cpl:Cpl pre l1 D3
 room:D3.room=D.room
 used:used D3.fs<=used D.fs
 len:D3.fs.length<=D.fs.length
 calm:Calm D->Calm D3
 sure:n<=(z04 l1).length
 le:(z04 l1).length<=(z04 l).length
 part:z04 l1=(z04 l).take (z04 l1).length
 next:zh l1<=zh l
theorem z0h.cutLast {n:Int} {l0:List SegA} {t:SegA} (h:z0h n (l0++[t])) (j:Nat):z0h n (l0++[t.cut j]):=by
 obtain ⟨h1,h2,h3,h4⟩:=h.front
 exact h1.snoc (h2.cut j) h3 h4
theorem CutP.opened {pre:ByteArray} {l0:List SegA} {t:SegA} {k n:Nat} {D:DiskA} (h:CutP pre l0 t k D) (hg:D.gone=false) (hn0:n<=(z04 (l0++[t])).length) (hn:∀ j,1<=j->j<=t.bs.length->(z04 l0).length+j<=n->(t.cut j).file.length<=k) :
  ∃ l1 D3,z4r pre D=(0,l1,D3)/\OpnP pre (l0++[t]) n D l1 D3:=by
 have hex:∀ s ∈ l0++[t],(z06 D.fs (zo pre s.base zw)).isSome=true:=λs hs=>by
  rcases List.mem_append.1 hs with hs|hs
  ·rw [h.old s hs];rfl
  ·simp only [List.mem_cons,List.not_mem_nil,or_false] at hs
   subst hs;rw [h.last];rfl
 have hnm:=zzm h.ok h.segs hex h.only
 obtain ⟨f1,f2,f3,f4⟩:=h.segs.front
 have hstart:z4r pre D=z28 pre [t.base] l0 D:=by
  unfold z4r
  rw [hnm,zbt pre D λs hs=>(h.segs.mem s hs).1,if_neg (by simp)]
  simp only
  rw [List.map_append]
  have:=zjx (pre:=pre) (D:=D) (rest:=[t].map SegA.base) (l:=l0) (l1:=[]) f1 λs hs=>⟨_,h.old s hs⟩
  rw [this]
  rfl
 rw [hstart]
 rw [z34,List.length_append] at hn0
 have hne:∀ s ∈ l0,zo pre s.base zw≠zo pre t.base zw:=λs hs=>z7k (f1.mem s hs).1 f2 (by have:=(f4 s hs).2;omega)
 have hb:=zj0 (l:=[]) h.segs
 have hisS:(z06 D.fs (zo pre t.base zw)).isSome=true:=by rw [h.last];rfl
 rcases z00j f2 k with ⟨c1,c2⟩|⟨j,c1,c2,c3,c4⟩
 ·have hsc:z1t pre l0 D t.base=((false,(z19 D (zo pre t.base zw)).1),l0,(z19 D (zo pre t.base zw)).2):=by
   unfold z1t
   rw [h.last]
   simp only
   rw [c2]
  have hr:(z19 D (zo pre t.base zw)).1=0:=by
   rcases zxg hisS with ⟨r1,-⟩|⟨-,r2,-⟩
   ·exact r1
   ·rw [hg] at r2;cases r2
  refine ⟨l0,(z19 D (zo pre t.base zw)).2,?_,?_⟩
  ·rw [z28,if_neg hb,hsc,hr]
   rfl
  ·obtain ⟨-,r1,r2,r3,r4,-,r6⟩:=z06z h.ok hr
   have hnl:n<=(z04 l0).length:=by
    apply Nat.le_of_not_lt
    intro hlt
    have h1:=hn 1 (Nat.le_refl _) (by omega) (by omega)
    rw [z2r] at h1
    have:(shL (t.cut 1).base (t.cut 1).fin).length=(shL t.base t.fin).length:=rfl
    omega
   refine ⟨⟨r1,f1,λs hs=>⟨s.file.length,?_⟩,λm hm hp=>?_⟩,r2,r3,r4,λhc=>z00e hc _,hnl,?_,?_,?_⟩
   ·rw [r6,if_neg (hne s hs)];exact h.old s hs
   ·rw [r6] at hm
    by_cases hmt:m=zo pre t.base zw
    ·rw [if_pos hmt] at hm;cases hm
    ·rw [if_neg hmt] at hm
     obtain ⟨s,hs,rfl⟩:=h.only m hm hp
     rcases List.mem_append.1 hs with hs|hs
     ·exact ⟨s,hs,rfl⟩
     ·simp only [List.mem_cons,List.not_mem_nil,or_false] at hs
      subst hs;exact absurd rfl hmt
   ·rw [z34,List.length_append];omega
   ·rw [z34,List.take_left]
   ·rw [z3f]
    have:=(z5v f2).1
    omega
 ·have hprefix:z04 (l0++[t.cut j])=(z04 (l0++[t])).take (z04 (l0++[t.cut j])).length/\(z04 (l0++[t.cut j])).length=(z04 l0).length+j:=by
   have e:(t.cut j).bs=t.bs.take j:=rfl
   rw [z34,z34,e,List.length_append,List.length_take,Nat.min_eq_left c1,List.take_append,List.take_of_length_le (Nat.le_add_right _ _),Nat.add_sub_cancel_left]
   exact ⟨rfl,rfl⟩
  have hnl:n<=(z04 (l0++[t.cut j])).length:=by
   rw [hprefix.2]
   apply Nat.le_of_not_lt
   intro hlt
   have h1:=hn (n-(z04 l0).length) (by omega) (by omega) (by omega)
   have h2:=c4 (n-(z04 l0).length) (by omega) h1
   omega
  have hle:(z04 (l0++[t.cut j])).length<=(z04 (l0++[t])).length:=by rw [hprefix.2,z34,List.length_append];omega
  have hnx:zh (l0++[t.cut j])<=zh (l0++[t]):=by rw [z3f,z3f];exact zxd f2 j
  have hkl:(t.file.take k).length=k:=by rw [List.length_take,Nat.min_eq_left h.le]
  have hraw:=(zn0 c3).2.2.1
  by_cases hk:(t.cut j).file.length=k
  ·have hsc:z1t pre l0 D t.base=((true,0),l0++[t.cut j],D):=by
    unfold z1t
    rw [h.last]
    simp only
    rw [c3]
    simp only
    rw [if_pos (by rw [hkl];exact hk)]
   refine ⟨l0++[t.cut j],D,?_,?_⟩
   ·rw [z28,if_neg hb,hsc,if_neg (by simp),if_pos rfl]
    rfl
   ·refine ⟨⟨h.ok,h.segs.cutLast j,λs hs=>?_,λm hm hp=>?_⟩,rfl,Nat.le_refl _,Nat.le_refl _,id,hnl,hle,hprefix.1,hnx⟩
    ·rcases List.mem_append.1 hs with hs|hs
     ·exact ⟨_,h.old s hs⟩
     ·simp only [List.mem_cons,List.not_mem_nil,or_false] at hs
      subst hs
      refine ⟨k,?_⟩
      show z06 D.fs (zo pre t.base zw)=_
      rw [h.last,<- hraw,hk,List.take_take,Nat.min_self]
    ·obtain ⟨s,hs,rfl⟩:=h.only m hm hp
     rcases List.mem_append.1 hs with hs|hs
     ·exact ⟨s,by simp [hs],rfl⟩
     ·simp only [List.mem_cons,List.not_mem_nil,or_false] at hs
      subst hs;exact ⟨s.cut j,by simp,rfl⟩
  ·have hsc:z1t pre l0 D t.base=((false,(cutA' D (zo pre t.base zw) ((t.cut j).file.length:Nat)).1),l0++[t.cut j],(cutA' D (zo pre t.base zw) ((t.cut j).file.length:Nat)).2):=by
    unfold z1t
    rw [h.last]
    simp only
    rw [c3]
    simp only
    rw [if_neg (by rw [hkl];exact hk)]
   have hr:(cutA' D (zo pre t.base zw) ((t.cut j).file.length:Nat)).1=0:=by
    rcases zw9 (A:=D) (k:=((t.cut j).file.length:Nat)) h.last (by rw [hkl];omega) with ⟨r1,-⟩|⟨-,r2,-⟩
    ·exact r1
    ·rw [hg] at r2;cases r2
   refine ⟨l0++[t.cut j],(cutA' D (zo pre t.base zw) ((t.cut j).file.length:Nat)).2,?_,?_⟩
   ·rw [z28,if_neg hb,hsc,hr]
    rfl
   ·obtain ⟨-,r1,r2,r3,r4⟩:=z060 h.ok hr
    refine ⟨⟨r1,h.segs.cutLast j,λs hs=>?_,λm hm hp=>?_⟩,r2,zyq _ _ _,by omega,λhc=>zyp hc _ _,hnl,hle,hprefix.1,hnx⟩
    ·rcases List.mem_append.1 hs with hs|hs
     ·rw [r4,if_neg (hne s hs)];exact ⟨_,h.old s hs⟩
     ·simp only [List.mem_cons,List.not_mem_nil,or_false] at hs
      subst hs
      refine ⟨min k (t.cut j).file.length,?_⟩
      show z06 _ (zo pre t.base zw)=_
      rw [r4,if_pos rfl,h.last]
      show some ((t.file.take k).take _,_)=_
      rw [Int.toNat_natCast,hraw]
    ·rw [r4] at hm
     have hm2:(z06 D.fs m).isSome=true:=by
      by_cases hmt:m=zo pre t.base zw
      ·rw [hmt];exact hisS
      ·rw [if_neg hmt] at hm;exact hm
     obtain ⟨s,hs,rfl⟩:=h.only m hm2 hp
     rcases List.mem_append.1 hs with hs|hs
     ·exact ⟨s,by simp [hs],rfl⟩
     ·simp only [List.mem_cons,List.not_mem_nil,or_false] at hs
      subst hs;exact ⟨s.cut j,by simp,rfl⟩
def CrP (pre:ByteArray) (l:List SegA) (n:Nat) (D:DiskA):Prop:=(l=[]/\n=0/\Cpl pre [] D)\/∃ l0 t k,l=l0++[t]/\n<=(z04 l).length/\CutP pre l0 t k D/\∀ j,1<=j->j<=t.bs.length->(z04 l0).length+j<=n->(t.cut j).file.length<=k
theorem CrP.ok {pre:ByteArray} {l:List SegA} {D:DiskA} {n:Nat} (h:CrP pre l n D):okA D:=by
 rcases h with ⟨h1,h2,h3⟩|⟨l0,t,k,h1,h2,h3,h4⟩
 ·exact h3.ok
 ·exact h3.ok
theorem CrP.opened {pre:ByteArray} {l:List SegA} {D:DiskA} {n:Nat} (h:CrP pre l n D) (hg:D.gone=false):∃ l1 D3,z4r pre D=(0,l1,D3)/\OpnP pre l n D l1 D3:=by
 rcases h with ⟨rfl,rfl,h3⟩|⟨l0,t,k,rfl,h2,h3,h4⟩
 ·exact ⟨[],D,h3.opened,h3,rfl,Nat.le_refl _,Nat.le_refl _,id,Nat.zero_le _,Nat.le_refl _,rfl,Int.le_refl _⟩
 ·exact h3.opened hg h2 h4
theorem zb1:∀ {n:Int} {l:List SegA},0<=n->z0h n l->z1p n (z04 l)
 | _,[],_,_=>trivial
 | n,s::l,hn,⟨h1,h2,h3⟩=>by
  have e1:z04 (s::l)=s.bs++z04 l:=by simp [z04]
  have hr:=z5v h2
  have hb:=h2.base
  rw [e1]
  refine z1p.append hn (h2.bs.mono h1) ((zb1 (by omega) h3).mono ?_)
  omega
section
variable {w:World} {l r:List HP} {lg d:Nat} {D:DiskA} {A:LogA}
theorem z05u (b:BatM) (x:Sl) {r1:List HP} [hf:Fo l lgP lg A r1] [hf2:Fo r1 dk A.d D r] (hlen:A.l.length<=1000000) (hok:z0h 0 A.l) (hfl:∀ s ∈ A.l,s.file.length<=500000000)
  (hx:FocR r x 7 ([b].flatMap z00)) (hb:FocR r b.x 4 (b.rs.flatMap zu)) (hs:Sat w l) :
  Ret P F.a110 #[.pointer (some ⟨lg,0,none⟩),x.v] w λvs w'=>vs=[.int .i64 (z0e A.pre A.seg A.l D [b]).1.1,.int .i64 (z0e A.pre A.seg A.l D [b]).1.2] /\
   Sat w' (lgP lg (A.set (z0e A.pre A.seg A.l D [b]).2.1)::dk A.d (z0e A.pre A.seg A.l D [b]).2.2::r) :=
 zwu x [b] hlen hok hfl (by show 1<=900;omega) hx (λc hc=>by
  simp only [List.mem_cons,List.not_mem_nil,or_false] at hc
  subst hc
  exact hb) hs
end
def InP (pool:List BatM) (R:RefM):Prop:=∀ b ∈ R.bs,∃ c ∈ pool,b.x=c.x/\b.rs=c.rs
structure Grw (pre:ByteArray) (D:DiskA) (l':List SegA) (D':DiskA):Prop where
 cpl:Cpl pre l' D'
 fr:Fr pre D D'
 calm:Calm D'
 used:used D'.fs<=used D.fs+705
 len:D'.fs.length<=D.fs.length+1
theorem InP.rd {pool:List BatM} {R:RefM} {l:List HP} (h:InP pool R):∀ b ∈ R.bs,FocR (z1n pool::l) b.x 4 (b.rs.flatMap zu):=λb hb=>by
 obtain ⟨c,hc,e1,e2⟩:=h b hb
 rw [e1,e2]
 exact zb3 hc
theorem InP.more {pool:List BatM} {R:RefM} (h:InP pool R) (x:BatM):InP (pool++[x]) R:=λb hb=>by
 obtain ⟨c,hc,e⟩:=h b hb
 exact ⟨c,List.mem_append_left _ hc,e⟩
theorem InP.app {pool:List BatM} {R R':RefM} {b0:BatM} {z:Sl} (h:InP pool R) (hR:∀ b ∈ R'.bs,b ∈ R.bs\/(b.x=z/\b.rs=(z0a b0).rs)):InP (pool++[(z0a b0).at z]) R':=λb hb=>by
 rcases hR b hb with h1|⟨h1,h2⟩
 ·exact h.more _ b h1
 ·exact ⟨(z0a b0).at z,by simp,h1,h2⟩
abbrev qP:ByteArray:=ByteArray.mk #[113]
abbrev qqP:ByteArray:=ByteArray.mk #[113,113]
theorem ze8:z17 qP=true:=by kernel_rfl
theorem zxc:z17 qqP=true:=by kernel_rfl
theorem z06y:qP≠qqP:=λh=>by have:=congrArg ByteArray.size h;cases this
structure ApP (s:Int) (k:Nat) (D:DiskA) (R S:RefM) (pool:List BatM):Prop where
 rs:R.seg=s
 ss:S.seg=s
 c1:Cpl qP R.l D
 c2:Cpl qqP S.l D
 calm:Calm D
 room:D.room=1048576
 used:used D.fs<=705*k
 len:D.fs.length<=k
 in1:InP pool R
 in2:InP pool S
theorem ApP.left {s:Int} {k:Nat} {D D':DiskA} {R R' S:RefM} {pool:List BatM} {b0:BatM} {z:Sl} (h:ApP s k D R S pool) (hg:Grw qP D R'.l D') (h1:R'.seg=R.seg) (hR:∀ b ∈ R'.bs,b ∈ R.bs\/(b.x=z/\b.rs=(z0a b0).rs)):ApP s (k+1) D' R' S (pool++[(z0a b0).at z]) :=
 ⟨h1.trans h.rs,h.ss,hg.cpl,h.c2.frame hg.cpl.ok ze8 zxc z06y hg.fr,hg.calm,hg.fr.room.trans h.room,by have:=hg.used;have:=h.used;omega,by have:=hg.len;have:=h.len;omega,h.in1.app hR,h.in2.more _⟩
theorem ApP.right {s:Int} {k:Nat} {D D':DiskA} {R S S':RefM} {pool:List BatM} {b0:BatM} {z:Sl} (h:ApP s k D R S pool) (hg:Grw qqP D S'.l D') (h1:S'.seg=S.seg) (hR:∀ b ∈ S'.bs,b ∈ S.bs\/(b.x=z/\b.rs=(z0a b0).rs)):ApP s (k+1) D' R S' (pool++[(z0a b0).at z]) :=
 ⟨h.rs,h1.trans h.ss,h.c1.frame hg.cpl.ok zxc ze8 z06y.symm hg.fr,hg.cpl,hg.calm,hg.fr.room.trans h.room,by have:=hg.used;have:=h.used;omega,by have:=hg.len;have:=h.len;omega,h.in1.more _,h.in2.app hR⟩
theorem ApP.wk {s:Int} {k:Nat} {D:DiskA} {R S:RefM} {pool:List BatM} (h:ApP s k D R S pool) {k':Nat} (hk:k<=k'):ApP s k' D R S pool :=
 ⟨h.rs,h.ss,h.c1,h.c2,h.calm,h.room,by have:=h.used;omega,by have:=h.len;omega,h.in1,h.in2⟩
theorem ApP.free {s:Int} {k:Nat} {D:DiskA} {R S:RefM} {pool:List BatM} (h:ApP s k D R S pool) (hk:k<=100):705<=D.free:=by
 have:=h.used
 have:=h.room
 unfold DiskA.free
 omega
def zsb (b:Bool):List Value:=[.bool b]
instance:Enc1 zsb .bool (λb=>b):=⟨λ_=>rfl⟩
instance:EncN zsb 1:=⟨λ_=>rfl,by decide,by simp [zsb,Value.oneCell']⟩
section
variable {w:World} {l r:List HP} {lg a:Nat} {A:LogA} {D:DiskA} {R:RefM}
theorem zzj {r1:List HP} [hf:Fo l lgP lg A r1] [hf2:Fo r1 dk A.d D r] (hlen:A.l.length<=1000000000) (hok:z0h 0 A.l) (hs:Sat w l) :
  Ret P F.a116 #[.pointer (some ⟨lg,0,none⟩)] w λvs w'=>vs=[.int .i64 (z0f A.pre A.l D).1]/\Sat w' (lgP lg A::dk A.d (z0f A.pre A.l D).2::r):=by
 have hs:=hs.perm (hf.perm.trans (.cons _ hf2.perm))
 clear hf hf2
 obtain ⟨M,rfl,hs⟩:=z86 hs
 have hll:M.l.length=M.SM.length:=List.length_map ..
 have hMl:M.A.l=M.l:=rfl
 rw [hMl] at hlen hok
 have hs:Sat w (lgQ lg M::dk M.d D::r):=hs
 refine (zqt (lg:=lg) (M:=M) (D:=D) (by omega) hok hs).mono λvs w' h=>?_
 obtain ⟨h1,h2⟩:=h
 exact ⟨h1,z4p M h2⟩
structure FilI (s:Int) (k:Nat) (D:DiskA) (l:List SegA) (R:RefM) (pool:List BatM) (n:Nat) (C:Prop):Prop where
 cpl:Cpl qP l D
 syn:z8x qP l D n
 rseg:R.seg=4194304
 segs:z0h 0 R.l
 srl:R.SR.length<=k
 brl:R.bs.length<=k
 all:R.bs.map BatM.p=z04 l
 next:zh R.l=zh l
 rep:l=z9t s (z04 l)
 room:D.room=1048576
 used:used D.fs<=705*k
 len:D.fs.length<=k
 in1:InP pool R
 calm:C->Calm D
structure FilE (s:Int) (D:DiskA) (l:List SegA) (outs pool:List BatM) (n:Nat) (C:Prop):Prop where
 cpl:Cpl qP l D
 syn:z8x qP l D n
 told:outs.map BatM.p=z04 l\/(D.gone=true/\∃ b,outs.map BatM.p=z04 l++[b])
 rep:l=z9t s (z04 l)
 room:D.room=1048576
 used:used D.fs<=14805
 len:D.fs.length<=21
 num:outs.length<=21
 in1:∀ b ∈ outs,∃ c ∈ pool,b.x=c.x/\b.rs=c.rs
 calm:C->Calm D/\outs.map BatM.p=z04 l
theorem FilI.free {s:Int} {k n:Nat} {l:List SegA} {pool:List BatM} {C:Prop} (h:FilI s k D l R pool n C) (hk:k<=100):705<=D.free:=by
 have:=h.used
 have:=h.room
 unfold DiskA.free
 omega
theorem FilI.done {s:Int} {k n:Nat} {l:List SegA} {pool:List BatM} {C:Prop} (h:FilI s k D l R pool n C) (hk:k<=20):FilE s D l R.bs pool n C :=
 ⟨h.cpl,h.syn,.inl h.all,h.rep,h.room,by have:=h.used;omega,by have:=h.len;omega,by have:=h.brl;omega,h.in1,λc=>⟨h.calm c,h.all⟩⟩
theorem FilI.step {s:Int} {k n:Nat} {l:List SegA} {pool:List BatM} {C:Prop} {R':RefM} {b0:BatM} {z z':Sl} (h:FilI s k D l R pool n C) (hk:k<=100)
  (h1:(z0e qP s l D [(z0a b0).at z]).1=(z0y s l [(z0a b0).at z]).1) (h2:(z0e qP s l D [(z0a b0).at z]).2.1=(z0y s l [(z0a b0).at z]).2)
  (r1:R'.seg=R.seg) (r2:R'.l=(z0y R.seg R.l [(z0a b0).at z']).2) (r3:R'.SR.length<=R.SR.length+1) (r4:R'.bs.length<=R.bs.length+1) (r5:∀ b ∈ R'.bs,b ∈ R.bs\/(b.x=z'/\b.rs=(z0a b0).rs)) :
  FilI s (k+1) (z0e qP s l D [(z0a b0).at z]).2.2 (z0e qP s l D [(z0a b0).at z]).2.1 R' (pool++[(z0a b0).at z']) n C:=by
 have hst:=z6j s [(z0a b0).at z] ze8 h.cpl
 have hsy:=h.syn.app (seg:=s) (bs:=[(z0a b0).at z]) ze8 h.cpl
 have hsum:=zn7 (seg:=s) (l:=l) (bs:=[(z0a b0).at z])
 have hsm:=zfc b0 z (zh l)
 have hsl:=zef (zh l) 0
 have hR:R'.bs.map BatM.p=z04 R'.l:=by rw [zgl]
 have hRR:R.bs.map BatM.p=z04 R.l:=by rw [zgl]
 have hrall:z04 R.l=z04 l:=hRR.symm.trans h.all
 have er:z0y R.seg R.l [(z0a b0).at z']=z0y R.seg R.l [(z0a b0).at z]:=zt8 _ _ _ _ _
 rw [er] at r2
 have hsegR:z0h 0 R'.l:=by rw [r2];exact zak h.segs
 have hallN:z04 R'.l=z04 (z0y s l [(z0a b0).at z]).2/\zh R'.l=zh (z0y s l [(z0a b0).at z]).2/\(z0y s l [(z0a b0).at z]).2=z9t s (z04 (z0y s l [(z0a b0).at z]).2):=by
  by_cases hp:(zx (zh l) [(z0a b0).at z]).1=0
  ·obtain ⟨g1,g2⟩:=zc6 (seg:=s) h.cpl.segs (by simp) hp
   obtain ⟨g3,g4⟩:=zc6 (seg:=R.seg) (bs:=[(z0a b0).at z]) h.segs (by simp) (by rw [h.next];exact hp)
   rw [h.next] at g3 g4
   rw [r2]
   refine ⟨by rw [g1,g3,hrall],by rw [g2,g4],?_⟩
   rw [g1,zjz _ _ hp]
   show _=z9t s (z04 l++[(((z0a b0).at z).to (zh l)).p])
   rw [znu,<- h.rep,z04w]
  ·obtain ⟨g1,-⟩:=zg9 (seg:=s) (l:=l) (bs:=[(z0a b0).at z]) (.inr hp)
   obtain ⟨g3,-⟩:=zg9 (seg:=R.seg) (l:=R.l) (bs:=[(z0a b0).at z]) (.inr (by rw [h.next];exact hp))
   rw [r2,g1,g3]
   exact ⟨hrall,h.next,h.rep⟩
 rw [h2] at hst hsy ⊢
 have hu:=hst.2.2.1
 have hl:=hst.2.2.2.1
 have hll:(z0y s l [(z0a b0).at z]).2.length<=l.length+1:=by
  unfold z0y
  split
  ·simp
  split
  ·simp
  ·simp only
   split
   ·rename_i hr
    have hne:l≠[]:=by rintro rfl;cases hr
    obtain ⟨l0,t,rfl⟩:=z3a hne
    rw [z45];simp
   ·simp
 have hlen2:(z0e qP s l D [(z0a b0).at z]).2.2.fs.length<=D.fs.length+1:=by
  unfold z0e
  split
  ·simp only;omega
  split
  ·simp only;omega
  split
  ·split <;> exact z4m.1
  ·obtain ⟨-,-,-,s4,-⟩:=z40 h.cpl
   split
   ·simp only;omega
   split
   ·simp only
    have:=(z4m (A:=(z0f qP l D).2) (n:=zo qP (zh l) zw) (bs:=shL (zh l) 0++(zx (zh l) [(z0a b0).at z]).2.flatMap frL)).1
    omega
   ·simp only
    have:=(z4m (A:=(z0f qP l D).2) (n:=zo qP (zh l) zw) (bs:=shL (zh l) 0++(zx (zh l) [(z0a b0).at z]).2.flatMap frL)).1
    omega
 exact ⟨hst.1,hsy,r1.trans h.rseg,hsegR,by have:=h.srl;omega,by have:=h.brl;omega,by rw [hR];exact hallN.1,hallN.2.1,hallN.2.2,hst.2.1.room.trans h.room,by have:=h.used;omega,by have:=h.len;omega,h.in1.app r5,λc=>hst.2.2.2.2 (h.calm c)⟩
theorem FilI.fail {s:Int} {k n:Nat} {l:List SegA} {pool:List BatM} {C:Prop} {R':RefM} {b0:BatM} {z z':Sl} (h:FilI s k D l R pool n C) (hk:k<20)
  (h1:(z0e qP s l D [(z0a b0).at z]).2.1=l) (h2:(z0e qP s l D [(z0a b0).at z]).2.2.gone=true)
  (r2:R'.l=(z0y R.seg R.l [(z0a b0).at z']).2) (r4:R'.bs.length<=R.bs.length+1) (r5:∀ b ∈ R'.bs,b ∈ R.bs\/(b.x=z'/\b.rs=(z0a b0).rs)) :
  FilE s (z0e qP s l D [(z0a b0).at z]).2.2 l R'.bs (pool++[(z0a b0).at z']) n C:=by
 have hst:=z6j s [(z0a b0).at z] ze8 h.cpl
 have hsy:=h.syn.app (seg:=s) (bs:=[(z0a b0).at z]) ze8 h.cpl
 rw [h1] at hst hsy
 have hR:R'.bs.map BatM.p=z04 R'.l:=by rw [zgl]
 have hRR:R.bs.map BatM.p=z04 R.l:=by rw [zgl]
 have hrall:z04 R.l=z04 l:=hRR.symm.trans h.all
 have hu:=hst.2.2.1
 have hl:=hst.2.2.2.1
 refine ⟨hst.1,hsy,?_,h.rep,hst.2.1.room.trans h.room,by have:=h.used;omega,by have:=h.len;omega,by have:=h.brl;omega,h.in1.app r5,λc=>?_⟩
 ·by_cases hp:(zx (zh R.l) [(z0a b0).at z']).1=0
  ·obtain ⟨g3,-⟩:=zc6 (seg:=R.seg) (bs:=[(z0a b0).at z']) h.segs (by simp) hp
   refine .inr ⟨h2,?_⟩
   rw [hR,r2,g3,zjz _ _ hp,hrall]
   exact ⟨_,rfl⟩
  ·obtain ⟨g3,-⟩:=zg9 (seg:=R.seg) (l:=R.l) (bs:=[(z0a b0).at z']) (.inr hp)
   refine .inl ?_
   rw [hR,r2,g3,hrall]
 ·have:=(hst.2.2.2.2 (h.calm c)).gone
  rw [this] at h2;cases h2
set_option maxHeartbeats 1000000 in
end
abbrev cP (b:BatM) (k:Nat) (q:Int) (z:Sl):Array Value:=#[.int .i64 (b.base+(k:Int)),.int .i64 b.pid,.int .i64 b.epoch,.int .i64 q,.int .i64 b.kind,.int .i64 b.time,.slice z.a z.len z.cap]
def InB (pool bs:List BatM):Prop:=∀ b ∈ bs,∃ c ∈ pool,b.x=c.x/\b.rs=c.rs
theorem InB.rd {pool bs:List BatM} {l:List HP} (h:InB pool bs):∀ b ∈ bs,FocR (z1n pool::l) b.x 4 (b.rs.flatMap zu):=λb hb=>by
 obtain ⟨c,hc,e1,e2⟩:=h b hb
 rw [e1,e2]
 exact zb3 hc
theorem InB.more {pool bs:List BatM} (h:InB pool bs) (q:List BatM):InB (pool++q) bs:=λb hb=>by
 obtain ⟨c,hc,e⟩:=h b hb
 exact ⟨c,List.mem_append_left _ hc,e⟩
theorem InB.app {pool a b:List BatM} (h1:InB pool a) (h2:InB pool b):InB pool (a++b):=λx hx=>by
 rcases List.mem_append.1 hx with hx|hx
 ·exact h1 x hx
 ·exact h2 x hx
section
variable {w:World} {l r:List HP} {lg:Nat} {A:LogA}
theorem zzh [hf:Fo l lgP lg A r] (hlen:A.l.length<=1000000000) (hs:Sat w l):Ret P F.a112 #[.pointer (some ⟨lg,0,none⟩)] w λvs w'=>vs=[.int .i64 (zh A.l)]/\Sat w' (lgP lg A::r):=by
 have hs:=hs.perm hf.perm
 clear hf
 obtain ⟨M,hM,hsn⟩:=z86 hs
 clear hs
 subst hM
 have hll:M.l.length=M.SM.length:=List.length_map ..
 have hMl:M.A.l=M.l:=rfl
 rw [hMl] at hlen
 refine (zbf (lg:=lg) (M:=M) (by omega) hsn).mono λvs w' h=>?_
 obtain ⟨h1,h2⟩:=h
 exact ⟨h1,z4p M h2⟩
set_option maxHeartbeats 1000000 in
end
structure PartA where
 L:LogA
 most:Int
 T:TabA
 V:ViewA
def paP (p:Nat) (A:PartA):HP:=HP.ex λM:Nat × Nat × Nat=>HP.star (pt p (.cells #[.pointer (some ⟨M.1,0,none⟩),.pointer (some ⟨A.L.d,0,none⟩),.string A.L.pre,.int .i64 A.most,.pointer (some ⟨M.2.1,0,none⟩),.pointer (some ⟨M.2.2,0,none⟩)] T.a34))
 (HP.star (lgP M.1 A.L) (HP.star (tb M.2.1 A.T) (vw M.2.2 A.V)))
def z5h (A:PartA):Int:=if A.V.op.length=0 then zh A.L.l else max (z5g A.V) (z14 A.L.l)
section
variable {w:World} {l r r1 r2 r3 r4 l':List HP} {p lg t v:Nat} {A:PartA} {D:DiskA}
theorem z5e (hs:Sat w (paP p A::l)):∃ lg t v:Nat,Sat w (pt p (.cells #[.pointer (some ⟨lg,0,none⟩),.pointer (some ⟨A.L.d,0,none⟩),.string A.L.pre,.int .i64 A.most,.pointer (some ⟨t,0,none⟩),.pointer (some ⟨v,0,none⟩)] T.a34)::lgP lg A.L::tb t A.T::vw v A.V::l):=by
 obtain ⟨⟨lg,t,v⟩,hs⟩:=hs.ex
 have hs:=hs.star
 have hs:=(hs.pick [1]).star
 have hs:=(hs.pick [1]).star
 exact ⟨lg,t,v,hs.pick [3,2,0]⟩
theorem z0a9 (lg t v:Nat) (hs:Sat w (pt p (.cells #[.pointer (some ⟨lg,0,none⟩),.pointer (some ⟨A.L.d,0,none⟩),.string A.L.pre,.int .i64 A.most,.pointer (some ⟨t,0,none⟩),.pointer (some ⟨v,0,none⟩)] T.a34)::lgP lg A.L::tb t A.T::vw v A.V::l)):Sat w (paP p A::l):=by
 have h1:=(hs.pick [2,2]).star_mk
 have h2:=(h1.pick [2,0]).star_mk
 exact .ex_mk (lg,t,v) ((h2.pick [1]).star_mk)
theorem z2s (A:PartA) (hs:Sat w l) [h1:FocB l p (.cells [.pointer (some ⟨lg,0,none⟩),.pointer (some ⟨A.L.d,0,none⟩),.string A.L.pre,.int .i64 A.most,.pointer (some ⟨t,0,none⟩),.pointer (some ⟨v,0,none⟩)].toArray T.a34) r1] [h2:Fo r1 lgP lg A.L r2] [h3:Fo r2 tb t A.T r3] [h4:Fo r3 vw v A.V r4] [h5:Sub r4 l']:Sat w (paP p A::l'):=by
 have hs:=hs.perm (h1.perm.trans (.cons _ (h2.perm.trans (.cons _ (h3.perm.trans (.cons _ h4.perm))))))
 have hs:Sat w (paP p A::r4):=z0a9 lg t v hs
 exact hs.sub
theorem zr5 [hf:Fo l paP p A r] (hlen:A.L.l.length<=1000000000) (hs:Sat w l):Ret P F.a81 #[.pointer (some ⟨p,0,none⟩)] w λvs w'=>vs=[.int .i64 (zh A.L.l)]/\Sat w' (paP p A::r) :=
 zvd _ <| by
  delta z09c AA AB AY Aa Af Ah Aj Ak
  obtain ⟨lg,t,v,hs⟩:=z5e (hs.perm hf.perm)
  refine z03 ?_ (by simp)
  refine zi ?_
  refine zb hs ?_
  refine z8 (zzh (lg:=lg) (A:=A.L) hlen hs) λ_ w' hs=>?_
  obtain ⟨rfl,hs⟩:=hs
  refine zd ?_
  refine wp_lt ?_
  exact ⟨rfl,rfl,z2s A hs⟩
theorem zmk [hf:Fo l paP p A r] (hs:Sat w l):Ret P F.a80 #[.pointer (some ⟨p,0,none⟩)] w λvs w'=>vs=[.int .i64 (z14 A.L.l)]/\Sat w' (paP p A::r) :=
 zvc _ <| by
  delta z09b AA AB AY Aa Af Ah Aj Ak
  obtain ⟨lg,t,v,hs⟩:=z5e (hs.perm hf.perm)
  refine z03 ?_ (by simp)
  refine zi ?_
  refine zb hs ?_
  obtain ⟨M,hM,hsl⟩:=z86 (hs.pick [1])
  refine z8 (zi4 (lg:=lg) hsl) λ_ w' hs=>?_
  obtain ⟨rfl,hs⟩:=hs
  refine zd ?_
  refine wp_lt ?_
  have hMl:M.l=A.L.l:=congrArg LogA.l hM
  have hs:=z4p M hs
  rw [hM] at hs
  rw [hMl]
  exact ⟨rfl,rfl,z2s A hs⟩
def zgk (A:PartA):Prop:=∀ {w:World} {l r:List HP} {p:Nat},Fo l paP p A r->A.L.l.length<=1000000000->Sat w l->Ret P F.a83 #[.pointer (some ⟨p,0,none⟩)] w λvs w'=>vs=[.int .i64 (z5h A)]/\Sat w' (paP p A::r)
end
def z7a (A:PartA) (b:BatM):VerA × Int:=if (z1g A.T b).2≠0\/(z1g A.T b).1.again=true then z1g A.T b else ((z1g A.T b).1,z4a A.V b)
def z4z (A:PartA) (b:BatM):PartA:=⟨A.L,A.most,(zkz A.T b).2,(z81 A.V b).2⟩
def PartA.log (A:PartA) (l:List SegA):PartA:=⟨A.L.set l,A.most,A.T,A.V⟩
def zbl (A:PartA) (D:DiskA) (c:BatM):(Int × Bool × Int) × PartA × DiskA :=
 if (z0e A.L.pre A.L.seg A.L.l D [c]).1.2≠0 then ((0,false,(z0e A.L.pre A.L.seg A.L.l D [c]).1.2),A.log (z0e A.L.pre A.L.seg A.L.l D [c]).2.1,(z0e A.L.pre A.L.seg A.L.l D [c]).2.2) else
 if (z0f A.L.pre (z0e A.L.pre A.L.seg A.L.l D [c]).2.1 (z0e A.L.pre A.L.seg A.L.l D [c]).2.2).1≠0 then ((0,false,(z0f A.L.pre (z0e A.L.pre A.L.seg A.L.l D [c]).2.1 (z0e A.L.pre A.L.seg A.L.l D [c]).2.2).1),A.log (z0e A.L.pre A.L.seg A.L.l D [c]).2.1,(z0f A.L.pre (z0e A.L.pre A.L.seg A.L.l D [c]).2.1 (z0e A.L.pre A.L.seg A.L.l D [c]).2.2).2) else
 (((z0e A.L.pre A.L.seg A.L.l D [c]).1.1,false,0),z4z (A.log (z0e A.L.pre A.L.seg A.L.l D [c]).2.1) (c.to (z0e A.L.pre A.L.seg A.L.l D [c]).1.1),(z0f A.L.pre (z0e A.L.pre A.L.seg A.L.l D [c]).2.1 (z0e A.L.pre A.L.seg A.L.l D [c]).2.2).2)
def z0j (A:PartA) (D:DiskA) (b:BatM):(Int × Bool × Int) × PartA × DiskA :=
 if (z7a A (b.to (zh A.L.l))).2≠0\/(z7a A (b.to (zh A.L.l))).1.again=true then (((z7a A (b.to (zh A.L.l))).1.base,(z7a A (b.to (zh A.L.l))).1.again,(z7a A (b.to (zh A.L.l))).2),A,D)
 else zbl A D (b.to (zh A.L.l))
instance {n k:Int} {b:Bool}:IsR (.tup [.one (.int .i64),.one .bool,.one (.int .i64)]) [.int .i64 n,.bool b,.int .i64 k] (n,b,k,()):=⟨rfl⟩
section
variable {w:World} {l r r1 r2 r3 r4 l':List HP} {p lg t v:Nat} {A:PartA} {D:DiskA}
theorem zr9 (b:BatM) [hf:Fo l paP p A r] [hb:FocR r b.x 4 (b.rs.flatMap zu)] (hs:Sat w l):Ret P F.a88 #[.pointer (some ⟨p,0,none⟩),.agg (z00 b).toArray] w λvs w'=>vs=[]/\Sat w' (paP p (z4z A b)::r) :=
 zvk _ b.base b.pid b.epoch b.seq b.kind b.time b.x <| by
  delta z09j AA AB AC AG AY Ah Ai Ak Ba Bb
  obtain ⟨lg,t,v,hs⟩:=z5e (hs.perm hf.perm)
  refine zr hs λa0 w' hs=>?_
  refine z02 hs λw' hs=>?_
  refine zi ?_
  refine zb hs ?_
  refine zj hs ?_
  refine z8 (z05c (t:=t) (A:=A.T) b hs) λ_ _ hs=>?_
  obtain ⟨rfl,hs⟩:=hs
  refine zd ?_
  refine ze ?_
  refine z02 hs λw' hs=>?_
  refine zi ?_
  refine zb hs ?_
  refine zj hs ?_
  refine z8 (z04b (v:=v) (A:=A.V) b hs) λ_ _ hs=>?_
  obtain ⟨rfl,hs⟩:=hs
  refine zd ?_
  refine ze ?_
  exact ⟨rfl,rfl,z2s (lg:=lg) (t:=t) (v:=v) (z4z A b) hs⟩
theorem z04p (b:BatM) (hs:Sat w l):Ret P F.a91 #[.agg (z00 b).toArray] w λvs w'=>vs=[.bool (z0b b)]/\Sat w' l :=
 zvn b.base b.pid b.epoch b.seq b.kind b.time b.x <| by
  delta z09m AP Ai Ak Ao Ax Ba
  refine zr hs λa0 w' hs=>?_
  refine zb hs ?_
  refine zb hs ?_
  refine wp_lt ?_
  refine ⟨rfl,?_,hs.tail⟩
  unfold z0b
  rfl
theorem z06v (b:BatM) [hf:Fo l paP p A r] [hb:FocR r b.x 4 (b.rs.flatMap zu)] (hs:Sat w l):Ret P F.a84 #[.pointer (some ⟨p,0,none⟩),.agg (z00 b).toArray] w λvs w'=>vs=[.agg (zgv (z7a A b).1).toArray,.int .i64 (z7a A b).2]/\Sat w' (paP p A::r) :=
 zvg _ b.base b.pid b.epoch b.seq b.kind b.time b.x <| by
  delta z09f AA AB AC AG AX AY Aa Ab Ac Af Ah Ai Aj Ak Ar Ay BA Ba Bb Bc By Bz;unfold z7a
  obtain ⟨lg,t,v,hs⟩:=z5e (hs.perm hf.perm)
  refine zr hs λa0 w' hs=>?_
  refine zt hs λa1 w' hs=>?_
  refine zm (λq w'=>∃ a:Nat,q=(⟨a,0,none⟩,(z1g A.T b).2,())/\Sat w' (pt a (.cells #[.bool (z1g A.T b).1.again,.int .i64 (z1g A.T b).1.base] T.a7)::pt a1 (.cells #[.bool false,.int .i64 0] T.a7)::pt a0 (.cells #[.int .i64 b.base,.int .i64 b.pid,.int .i64 b.epoch,.int .i64 b.seq,.int .i64 b.kind,.int .i64 b.time,.slice b.x.a b.x.len b.x.cap] T.a0)::paP p A::r)) ?_ ?_
  ·refine z02 hs λw' hs=>?_
   refine zi ?_
   refine z0s hs ?_
   refine zht hs ?_
   refine ⟨?_,?_⟩
   ·refine ze ?_
    refine z8 (zgh (t:=t) (A:=A.T) b hs) λ_ _ hs=>?_
    obtain ⟨rfl,hs⟩:=hs
    refine zd ?_
    refine zt hs λa15 w' hs=>?_
    refine zv hs λw' hs=>?_
    refine wp_lt ?_
    refine ze ?_
    have hs:Sat w' (pt a15 (.cells #[.bool (z1g A.T b).1.again,.int .i64 (z1g A.T b).1.base] T.a7)::_):=hs
    refine zg ⟨a15,rfl,?_⟩
    have hs:Sat w' (paP p A::pt a15 (.cells #[.bool (z1g A.T b).1.again,.int .i64 (z1g A.T b).1.base] T.a7)::pt a1 (.cells #[.bool false,.int .i64 0] T.a7)::pt a0 (.cells #[.int .i64 b.base,.int .i64 b.pid,.int .i64 b.epoch,.int .i64 b.seq,.int .i64 b.kind,.int .i64 b.time,.slice b.x.a b.x.len b.x.cap] T.a0)::r):=z2s (lg:=lg) (t:=t) (v:=v) A hs
    exact hs.pick [1,1,1,0]
   ·refine zt hs λa17 w' hs=>?_
    refine ze ?_
    refine z8 (zgh (t:=t) (A:=A.T) b hs) λ_ _ hs=>?_
    obtain ⟨rfl,hs⟩:=hs
    refine zd ?_
    refine zv hs λw' hs=>?_
    refine wp_lt ?_
    refine ze ?_
    refine zg ⟨a17,rfl,?_⟩
    have hs:Sat w' (paP p A::pt a17 (.cells #[.bool (z1g A.T b).1.again,.int .i64 (z1g A.T b).1.base] T.a7)::pt a1 (.cells #[.bool false,.int .i64 0] T.a7)::pt a0 (.cells #[.int .i64 b.base,.int .i64 b.pid,.int .i64 b.epoch,.int .i64 b.seq,.int .i64 b.kind,.int .i64 b.time,.slice b.x.a b.x.len b.x.cap] T.a0)::r):=z2s (lg:=lg) (t:=t) (v:=v) A hs
    exact hs.pick [1,1,1,0]
  clear hs
  rintro _ w ⟨a,rfl,hs⟩
  refine z1v _ _ ?_
  generalize z1g A.T b=j at *
  obtain ⟨v0,e⟩:=j
  simp only at hs ⊢
  refine zb hs ?_
  refine zf (λh=>?_) λh=>?_
  ·rw [if_pos h]
   refine zj hs ?_
   refine zv hs λw' hs=>?_
   refine wp_lt ?_
   refine zj hs ?_
   exact ⟨rfl,rfl,hs.sub⟩
  rw [if_neg h]
  refine zm (λq w'=>q=(z4a A.V b,())/\Sat w' (pt a1 (.cells #[.bool v0.again,.int .i64 v0.base] T.a7)::paP p A::r)) ?_ ?_
  ·refine z02 hs λw' hs=>?_
   refine zht hs ?_
   obtain ⟨lg,t,v,hs⟩:=z5e (hs.pick [3])
   refine zi ?_
   refine zb hs ?_
   refine zj hs ?_
   refine z8 (zwp (v:=v) (A:=A.V) b hs) λ_ w' hs=>?_
   obtain ⟨rfl,hs⟩:=hs
   refine zd ?_ (by first|trivial|(repeat (first|exact trivial|exact λ_=>z07 hs|exact λ_=>z0d hs|refine And.intro ?_ ?_)))
   refine ze ?_
   refine zv hs λw' hs=>?_
   refine wp_lt ?_
   refine ze ?_
   refine zg ⟨rfl,?_⟩
   have hs:Sat w' (paP p A::pt a1 (.cells #[.bool v0.again,.int .i64 v0.base] T.a7)::r):=z2s (lg:=lg) (t:=t) (v:=v) A hs
   exact hs.pick [1]
  clear hs
  rintro _ w ⟨rfl,hs⟩
  refine zl ?_
  refine zj hs ?_
  exact ⟨rfl,rfl,hs.sub⟩
theorem zzc (pre:ByteArray) (seg:Int) (l:List SegA) (D:DiskA) (bs:List BatM):(z0e pre seg l D bs).2.1.length<=l.length+1:=by
 unfold z0e
 split
 ·exact Nat.le_succ _
 split
 ·exact Nat.le_succ _
 split
 ·split
  ·exact Nat.le_succ _
  ·unfold z4j
   split <;> simp
 split
 ·exact Nat.le_succ _
 split
 ·exact Nat.le_succ _
 ·simp
set_option maxHeartbeats 1000000 in
theorem z06w (b:BatM) {r1:List HP} [hf:Fo l paP p A r1] [hf2:Fo r1 dk A.L.d D r] (hb:FocR r b.x 4 (b.rs.flatMap zu)) (hlen:A.L.l.length<=100000) (hok:z0h 0 A.L.l) (hfl:∀ s ∈ A.L.l,s.file.length<=500000000) (hr:b.rs.length<=1000000) (hs:Sat w l) :
  Ret P F.a86 #[.pointer (some ⟨p,0,none⟩),.agg (z00 b).toArray] w λvs w'=>vs=[.int .i64 (z0j A D b).1.1,.bool (z0j A D b).1.2.1,.int .i64 (z0j A D b).1.2.2]/\Sat w' (paP p (z0j A D b).2.1::dk A.L.d (z0j A D b).2.2::r) :=
 zvi _ b.base b.pid b.epoch b.seq b.kind b.time b.x <| by
  delta z09h AA AB AC AG AH AO AP AQ AX AY Aa Ab Ac Af Ah Ai Aj Ak As Ax Ay B0 Ba Bb Bc Bh Bp By Bz;unfold z0j
  have hs:=hs.perm (hf.perm.trans (.cons _ hf2.perm))
  clear hf hf2
  have hb':FocR r (b.to (zh A.L.l)).x 4 ((b.to (zh A.L.l)).rs.flatMap zu):=hb
  have hr':(b.to (zh A.L.l)).rs.length<=1000000:=hr
  refine zr hs λa0 w' hs=>?_
  refine z8 (zr5 (p:=p) (A:=A) (by omega) hs) λ_ w' hs=>?_
  obtain ⟨rfl,hs⟩:=hs
  refine zd ?_
  refine z08 hs λw' hs=>?_
  have hs:Sat w' (pt a0 (.cells (z00 (b.to (zh A.L.l))).toArray T.a0)::paP p A::dk A.L.d D::r):=hs
  generalize b.to (zh A.L.l)=c at *
  have hs:Sat w' (pt a0 (.cells #[.int .i64 c.base,.int .i64 c.pid,.int .i64 c.epoch,.int .i64 c.seq,.int .i64 c.kind,.int .i64 c.time,.slice c.x.a c.x.len c.x.cap] T.a0)::paP p A::dk A.L.d D::r):=hs
  refine zj hs ?_
  refine z8 (z06v (p:=p) (A:=A) c hs) λ_ w' hs=>?_
  obtain ⟨rfl,hs⟩:=hs
  refine zd ?_
  refine zt hs λa12 w' hs=>?_
  refine zv hs λw' hs=>?_
  refine wp_lt ?_
  refine zb hs ?_
  refine zf (λh=>?_) λh=>?_
  ·rw [if_pos h]
   refine z02 hs λw' hs=>?_
   refine zb hs ?_
   refine zb hs ?_
   refine wp_lt ?_
   refine wp_lt ?_
   refine wp_lt ?_
   refine ze ?_
   exact ⟨rfl,rfl,hs.sub⟩
  rw [if_neg h]
  have hs:Sat w' (pt a0 (.cells #[.int .i64 c.base,.int .i64 c.pid,.int .i64 c.epoch,.int .i64 c.seq,.int .i64 c.kind,.int .i64 c.time,.slice c.x.a c.x.len c.x.cap] T.a0)::paP p A::dk A.L.d D::r):=hs.sub
  unfold zbl
  have hlsg:=zwt (pre:=A.L.pre) (seg:=A.L.seg) (D:=D) (bs:=[c]) hok
  have hlln:=zzc A.L.pre A.L.seg A.L.l D [c]
  generalize hla:z0e A.L.pre A.L.seg A.L.l D [c]=la at *
  refine zm (λq w'=>q=(la.1.2,la.1.1,())/\Sat w' (pt a0 (.cells #[.int .i64 c.base,.int .i64 c.pid,.int .i64 c.epoch,.int .i64 c.seq,.int .i64 c.kind,.int .i64 c.time,.slice c.x.a c.x.len c.x.cap] T.a0)::paP p (A.log la.2.1)::dk A.L.d la.2.2::r)) ?_ ?_
  ·refine z02 hs λw' hs=>?_
   obtain ⟨lg,t,v,hs⟩:=z5e (hs.pick [1])
   refine zi ?_
   refine z0s hs ?_
   refine zj hs ?_
   refine z61 hs (enc:=z00) [c] λy w' hs=>⟨(by first|trivial|(repeat (first|exact trivial|exact λ_=>z07 hs|exact λ_=>z0d hs|refine And.intro ?_ ?_))),?_⟩
   refine ze ?_
   refine z8 (z05u (lg:=lg) (A:=A.L) (D:=D) c y (by omega) hok hfl inferInstance inferInstance hs) λ_ w' hs=>?_
   obtain ⟨rfl,hs⟩:=hs
   rw [hla] at hs ⊢
   refine ⟨(la.1.1,la.1.2,()),rfl,trivial,z1v _ _ ?_⟩
   refine wp_lt ?_
   refine wp_lt ?_
   refine ze ?_
   refine zg ⟨rfl,?_⟩
   have hs:Sat w' (lgP lg (A.log la.2.1).L::_):=hs
   have hs:Sat w' (paP p (A.log la.2.1)::dk A.L.d la.2.2::pt a0 (.cells #[.int .i64 c.base,.int .i64 c.pid,.int .i64 c.epoch,.int .i64 c.seq,.int .i64 c.kind,.int .i64 c.time,.slice c.x.a c.x.len c.x.cap] T.a0)::r):=z2s (lg:=lg) (t:=t) (v:=v) (A.log la.2.1) hs
   exact hs.pick [2]
  clear hs
  rintro _ w ⟨rfl,hs⟩
  refine z1v _ _ ?_
  obtain ⟨⟨at_,e⟩,l',D'⟩:=la
  simp only at hs hlsg hlln ⊢
  refine zm (λq w'=>q=((if e≠0 then e else (z0f A.L.pre l' D').1),())/\Sat w' (pt a0 (.cells #[.int .i64 c.base,.int .i64 c.pid,.int .i64 c.epoch,.int .i64 c.seq,.int .i64 c.kind,.int .i64 c.time,.slice c.x.a c.x.len c.x.cap] T.a0)::paP p (A.log l')::dk A.L.d (if e≠0 then D' else (z0f A.L.pre l' D').2)::r)) ?_ ?_
  ·refine zf (λh1=>?_) λh1=>?_
   ·have hs:Sat w (paP p (A.log l')::pt a0 (.cells #[.int .i64 c.base,.int .i64 c.pid,.int .i64 c.epoch,.int .i64 c.seq,.int .i64 c.kind,.int .i64 c.time,.slice c.x.a c.x.len c.x.cap] T.a0)::dk (A.log l').L.d D'::r):=hs.pick [1]
    obtain ⟨lg,t,v,hs⟩:=z5e hs
    refine zi ?_
    refine zb hs ?_
    refine z8 (zzj (lg:=lg) (A:=(A.log l').L) (D:=D') (by show l'.length<=_;omega) hlsg hs) λ_ w' hs=>?_
    obtain ⟨rfl,hs⟩:=hs
    refine zd ?_
    refine wp_lt ?_
    refine zg ⟨?_,?_⟩
    ·rw [if_neg (by simpa using h1)];rfl
    ·rw [if_neg (by simpa using h1)]
     have hs:Sat w' (lgP lg (A.log l').L::dk A.L.d (z0f A.L.pre l' D').2::_):=hs
     have hs:Sat w' (paP p (A.log l')::dk A.L.d (z0f A.L.pre l' D').2::pt a0 (.cells #[.int .i64 c.base,.int .i64 c.pid,.int .i64 c.epoch,.int .i64 c.seq,.int .i64 c.kind,.int .i64 c.time,.slice c.x.a c.x.len c.x.cap] T.a0)::r):=z2s (lg:=lg) (t:=t) (v:=v) (A.log l') hs
     exact hs.pick [2]
   ·refine zg ⟨?_,?_⟩
    ·rw [if_pos (by simpa using h1)]
    ·rw [if_pos (by simpa using h1)];exact hs
  clear hs
  rintro _ w ⟨rfl,hs⟩
  refine zl ?_
  by_cases he:e≠0
  ·rw [if_pos he] at hs ⊢
   rw [if_pos he]
   refine z0u ?_ (by simpa using he)
   refine wp_lt ?_
   exact ⟨rfl,rfl,hs.sub⟩
  rw [if_neg he] at hs ⊢
  rw [if_neg he]
  refine zf (λh2=>?_) λh2=>?_
  ·rw [if_pos h2]
   refine wp_lt ?_
   exact ⟨rfl,rfl,hs.sub⟩
  rw [if_neg h2]
  refine z08 hs λw' hs=>?_
  refine zj hs ?_
  have hb2:FocR r (c.to at_).x 4 ((c.to at_).rs.flatMap zu):=hb'
  refine z8 (zra (c.to at_) hr' hs) λ_ w' hs=>?_
  obtain ⟨z,rfl,hs⟩:=hs
  refine ⟨(at_,c.pid,c.epoch,c.seq,c.kind,c.time,z,()),rfl,trivial,ztl _ _ _ _ _ _ _ ?_⟩
  have hb3:FocR (slc T.a2 4 z ((c.to at_).rs.flatMap zu)::dk A.L.d (z0f A.L.pre l' D').2::r) ((c.to at_).at z).x 4 (((c.to at_).at z).rs.flatMap zu):=(FocR.head:FocR (slc T.a2 4 z ((c.to at_).rs.flatMap zu)::_) z 4 ((c.to at_).rs.flatMap zu))
  have hs:Sat w' (paP p (A.log l')::slc T.a2 4 z ((c.to at_).rs.flatMap zu)::dk A.L.d (z0f A.L.pre l' D').2::r):=hs.sub
  refine z8 (zr9 (p:=p) (A:=A.log l') ((c.to at_).at z) hs) λ_ w' hs=>?_
  obtain ⟨rfl,hs⟩:=hs
  refine zd ?_
  refine wp_lt ?_
  have hs:Sat w' (paP p (z4z (A.log l') (c.to at_))::_):=hs
  exact ⟨rfl,rfl,hs.sub⟩
theorem zx8 (b:BatM) {r1:List HP} [hf:Fo l paP p A r1] [hf2:Fo r1 dk A.L.d D r] (hb:FocR r b.x 4 (b.rs.flatMap zu)) (hlen:A.L.l.length<=100000) (hok:z0h 0 A.L.l) (hfl:∀ s ∈ A.L.l,s.file.length<=500000000) (hr:b.rs.length<=1000000) (hm:z0b b=false) (hs:Sat w l) :
  Ret P F.a78 #[.pointer (some ⟨p,0,none⟩),.agg (z00 b).toArray] w λvs w'=>vs=[.int .i64 (z0j A D b).1.1,.bool (z0j A D b).1.2.1,.int .i64 (z0j A D b).1.2.2]/\Sat w' (paP p (z0j A D b).2.1::dk A.L.d (z0j A D b).2.2::r) :=
 zva _ b.base b.pid b.epoch b.seq b.kind b.time b.x <| by
  delta z099 AS Aa Af Ah Ai Ak Av Ax Ba Bb
  have hs:=hs.perm (hf.perm.trans (.cons _ hf2.perm))
  clear hf hf2
  refine zr hs λa0 w' hs=>?_
  refine wp_lt ?_
  refine z03 ?_ (by simp)
  refine zj hs ?_
  refine z8 (z04p b hs) λ_ w' hs=>?_
  obtain ⟨rfl,hs⟩:=hs
  refine zd ?_
  refine wp_lt ?_
  refine z03 ?_ (by rw [hm];simp)
  refine zj hs ?_
  have hs:=hs.pick [1,1]
  refine z8 (z06w (p:=p) (A:=A) (D:=D) b inferInstance hlen hok hfl hr hs) λ_ w' hs=>?_
  obtain ⟨rfl,hs⟩:=hs
  refine zd ?_
  refine wp_lt ?_
  refine wp_lt ?_
  refine wp_lt ?_
  exact ⟨rfl,rfl,hs.sub⟩
end
def z30 (A:PartA) (c:Bool):Int->List BatM->List AtM × Int
 | n,[]=>([],n)
 | n,b::bs=>if c=true/\b.base>=z5h A then ([],n) else ((if c=false\/z5r A.V b=1 then z0r b else [])++(z30 A c (z1s b) bs).1,(z30 A c (z1s b) bs).2)
def z32 (A:PartA) (off most:Int) (c:Bool):(List AtM × Int) × Int:=if (z58 A.L.l off most).1≠0 then (([],0),(z58 A.L.l off most).1) else (z30 A c off (z58 A.L.l off most).2,0)
theorem zr2 (A:PartA) (c:Bool):∀ (bs:List BatM) (n:Int),z30 A c n (bs.map BatM.p)=z30 A c n bs
 | [],n=>rfl
 | b::bs,n=>by
  have ih:=zr2 A c bs (z1s b)
  show (if c=true/\b.base>=z5h A then (([]:List AtM),n) else ((if c=false\/z5r A.V b=1 then z0r b else [])++(z30 A c (z1s b) (bs.map BatM.p)).1,(z30 A c (z1s b) (bs.map BatM.p)).2))=_
  rw [ih]
  rfl
theorem zx9 {A:PartA} {c:Bool} {n:Int} {b:BatM} {bs:List BatM} (h:c=true/\b.base>=z5h A):z30 A c n (b::bs)=([],n):=if_pos h
theorem zr3 {A:PartA} {c:Bool} {n:Int} {b:BatM} {bs:List BatM} (h:¬ (c=true/\b.base>=z5h A)):z30 A c n (b::bs)=((if c=false\/z5r A.V b=1 then z0r b else [])++(z30 A c (z1s b) bs).1,(z30 A c (z1s b) bs).2):=if_neg h
theorem zxe (l:List SegA) (off most:Int):(z58 l off most).2.length<=(z04 l).length:=by
 unfold z58
 split
 ·exact Nat.zero_le _
 split
 ·exact Nat.zero_le _
 ·simp only [List.length_take]
  exact Nat.le_trans (Nat.min_le_right _ _) (List.length_filterMap_le ..)
theorem z00b {l:List SegA} {off most:Int} {b:BatM} (hok:z0h 0 l) (h:b ∈ (z58 l off most).2):b.rs.length<=64:=by
 unfold z58 at h
 split at h
 ·cases h
 split at h
 ·cases h
 ·obtain ⟨c,hc,hf⟩:=List.mem_filterMap.1 (List.mem_of_mem_take h)
  have hv:=((zb1 (Int.le_refl 0) hok).valid c hc).1
  have h64:=(z2e hv).1
  unfold z0t at hf
  split at hf
  ·cases hf
  split at hf
  ·cases hf;exact h64
  ·cases hf
   show (c.rs.drop _).length<=64
   rw [List.length_drop];omega
section
variable {w:World} {l r:List HP} {p:Nat} {A:PartA} {D:DiskA}
set_option maxHeartbeats 1000000 in
theorem z04s (hst:zgk A) (off most:Int) (c:Bool) (ho : -9223372036854775808<=off/\off<9223372036854775808) (hmo:most<9223372036854775808) {r1:List HP} [hf:Fo l paP p A r1] [hf2:Fo r1 dk A.L.d D r] (hok:z0h 0 A.L.l) (hhas:zl2 A.L.pre A.L.l D) (hlen:A.L.l.length<=1000000) (hall:(z04 A.L.l).length<=1000000) (hs:Sat w l) :
  Ret P F.a82 #[.pointer (some ⟨p,0,none⟩),.int .i64 off,.int .i64 most,.bool c] w λvs w'=>∃ z:Sl,vs=[z.v,.int .i64 (z32 A off most c).1.2,.int .i64 (z32 A off most c).2]/\Sat w' (slc T.a35 5 z ((z32 A off most c).1.1.flatMap zq)::paP p A::dk A.L.d D::r) :=
 zve _ off most c <| by
  delta z09d AA AB AC AG AJ AO AT AY Aa Ab Ac Af Ah Aj Ak An Au Aw Ba Bb Be Bi Bj Bk Bl;unfold z32
  have hs:=hs.perm (hf.perm.trans (.cons _ hf2.perm))
  clear hf hf2
  obtain ⟨lg,t,v,hs⟩:=z5e hs
  refine z03 ?_ (by simp)
  refine zi ?_
  refine zb hs ?_
  refine z8 (zqs (lg:=lg) (A:=A.L) (D:=D) off most ho hmo hok hhas hlen hall hs) λ_ w' hs=>?_
  obtain ⟨y,outs,rfl,hmap,hs⟩:=hs
  refine ⟨(y,(z58 A.L.l off most).1,()),rfl,trivial,z1v _ _ ?_⟩
  have hs:Sat w' (slc T.a0 7 y (outs.flatMap z00)::z1n outs::paP p A::dk A.L.d D::r):=by
   have hs:Sat w' (paP p A::slc T.a0 7 y (outs.flatMap z00)::z1n outs::dk A.L.d D::r):=z2s (lg:=lg) (t:=t) (v:=v) A hs
   exact hs.pick [1,1]
  refine wp_lt ?_
  refine zf (λh=>?_) λh=>?_
  ·rw [if_pos h]
   refine wp_lt ?_
   have hs:Sat w' (slc T.a35 5 ⟨none,0,0⟩ (([]:List AtM).flatMap zq)::_):=hs.slc_nil
   exact ⟨rfl,⟨none,0,0⟩,rfl,hs.sub⟩
  rw [if_neg h,<- hmap,zr2]
  have hol:outs.length<=1000000:=by
   have:=congrArg List.length hmap
   rw [List.length_map] at this
   rw [this]
   exact Nat.le_trans (zxe _ _ _) hall
  have hov:∀ b ∈ outs,b.rs.length<=64:=λb hb=>by
   have h1:b.p ∈ (z58 A.L.l off most).2:=by rw [<- hmap];exact List.mem_map.2 ⟨b,hb,rfl⟩
   have h2:=z00b hok h1
   exact h2
  have hly:=hs.slen y (xs:=outs) (enc:=z00)
  refine wp_lt ?_
  refine zm (λq w'=>∃ z:Sl,q=(z,(z30 A c off outs).2,())/\Sat w' (slc T.a35 5 z ((z30 A c off outs).1.flatMap zq)::paP p A::dk A.L.d D::r)) ?_ ?_
  rotate_left
  ·rintro _ w2 ⟨z,rfl,hs⟩
   refine z1v _ _ ?_
   refine wp_lt ?_
   exact ⟨rfl,z,rfl,hs⟩
  have hs:Sat w' (slc T.a35 5 ⟨none,0,0⟩ (([]:List AtM).flatMap zq)::slc T.a0 7 y (outs.flatMap z00)::z1n outs::paP p A::dk A.L.d D::r):=hs.slc_nil
  refine z0c (λm q w=>∃ (i:Nat) (z:Sl) (n:Int) (done:List AtM),q=(z,n,(i:Int),())/\i<=outs.length/\outs.length-i=m/\done.length<=64*i /\
   z30 A c off outs=(done++(z30 A c n (outs.drop i)).1,(z30 A c n (outs.drop i)).2) /\
   Sat w (slc T.a35 5 z (done.flatMap zq)::slc T.a0 7 y (outs.flatMap z00)::z1n outs::paP p A::dk A.L.d D::r)) outs.length
   ⟨0,⟨none,0,0⟩,off,[],rfl,by omega,rfl,by simp,by simp,hs⟩ ?_
  clear hs
  rintro m _ w ⟨i,z,n,done,rfl,hi,hm,hdl,hq,hs⟩
  refine zek _ _ _ ?_
  refine zf (λhc=>?_) λhc=>?_
  rotate_left
  ·have e:outs.drop i=[]:=List.drop_eq_nil_of_le (by omega)
   rw [e] at hq
   have hq:z30 A c off outs=(done++[],n):=hq
   rw [List.append_nil] at hq
   refine zn (zg ⟨z,by rw [hq],?_⟩)
   rw [hq]
   exact hs.sub
  have hil:i<outs.length:=by omega
  have hdrop:outs.drop i=outs[i]::outs.drop (i+1):=List.drop_eq_getElem_cons hil
  rw [hdrop] at hq
  have hrl:outs[i].rs.length<=64:=hov _ (List.getElem_mem hil)
  generalize hb:outs[i]=b at *
  have hbm:b ∈ outs:=by rw [<- hb];exact List.getElem_mem hil
  refine z2v hs i hil ?_
  rw [hb]
  refine zt hs λa w' hs=>?_
  refine zv hs λw' hs=>?_
  have hbr:FocR (z1n outs::paP p A::dk A.L.d D::r) b.x 4 (b.rs.flatMap zu):=zb3 hbm
  have hs:Sat w' (pt a (.cells #[.int .i64 b.base,.int .i64 b.pid,.int .i64 b.epoch,.int .i64 b.seq,.int .i64 b.kind,.int .i64 b.time,.slice b.x.a b.x.len b.x.cap] T.a0)::slc T.a35 5 z (done.flatMap zq)::slc T.a0 7 y (outs.flatMap z00)::z1n outs::paP p A::dk A.L.d D::r):=hs
  refine zm (λq w'=>q=(decide (c=true/\b.base>=z5h A),())/\Sat w' (pt a (.cells #[.int .i64 b.base,.int .i64 b.pid,.int .i64 b.epoch,.int .i64 b.seq,.int .i64 b.kind,.int .i64 b.time,.slice b.x.a b.x.len b.x.cap] T.a0)::slc T.a35 5 z (done.flatMap zq)::slc T.a0 7 y (outs.flatMap z00)::z1n outs::paP p A::dk A.L.d D::r)) ?_ ?_
  ·refine z02 hs λw' hs=>?_
   refine z0s hs ?_
   cases c with
   | false =>
    refine z03 ?_ (by simp)
    refine ze ?_
    exact zg ⟨by simp,hs⟩
   | true =>
    refine z0u ?_ (by simp)
    refine z8 (hst (p:=p) inferInstance (by omega) hs) λ_ w' hs=>?_
    obtain ⟨rfl,hs⟩:=hs
    refine zd ?_ (by first|trivial|(repeat (first|exact trivial|exact λ_=>z07 hs|exact λ_=>z0d hs|refine And.intro ?_ ?_)))
    refine ze ?_
    exact zg ⟨by simp,hs.pick [1,1,1,1]⟩
  clear hs
  rintro _ w ⟨rfl,hs⟩
  refine zl ?_
  by_cases hstop:c=true/\b.base>=z5h A
  ·refine z0u ?_ (by simpa using hstop)
   have hq:z30 A c off outs=(done++[],n):=by
    rw [hq,zx9 hstop]
   rw [List.append_nil] at hq
   refine zn (zg ⟨z,by rw [hq],?_⟩)
   rw [hq]
   exact hs.sub
  refine z03 ?_ (by simpa using hstop)
  have hq:z30 A c off outs=(done++((if c=false\/z5r A.V b=1 then z0r b else [])++(z30 A c (z1s b) (outs.drop (i+1))).1),(z30 A c (z1s b) (outs.drop (i+1))).2):=by
   rw [hq,zr3 hstop]
  refine zm (λq w'=>q=(decide (c=false\/z5r A.V b=1),())/\Sat w' (pt a (.cells #[.int .i64 b.base,.int .i64 b.pid,.int .i64 b.epoch,.int .i64 b.seq,.int .i64 b.kind,.int .i64 b.time,.slice b.x.a b.x.len b.x.cap] T.a0)::slc T.a35 5 z (done.flatMap zq)::slc T.a0 7 y (outs.flatMap z00)::z1n outs::paP p A::dk A.L.d D::r)) ?_ ?_
  ·refine z02 hs λw' hs=>?_
   obtain ⟨lg,t,v,hs⟩:=z5e (hs.pick [4])
   refine z0n ?_
   refine zb hs ?_
   refine zj hs ?_
   cases c with
   | false =>
    refine z0u ?_ (by simp)
    refine ze ?_
    refine zg ⟨by simp,?_⟩
    have hs:Sat w' (paP p A::pt a (.cells #[.int .i64 b.base,.int .i64 b.pid,.int .i64 b.epoch,.int .i64 b.seq,.int .i64 b.kind,.int .i64 b.time,.slice b.x.a b.x.len b.x.cap] T.a0)::slc T.a35 5 z (done.flatMap zq)::slc T.a0 7 y (outs.flatMap z00)::z1n outs::dk A.L.d D::r):=z2s (lg:=lg) (t:=t) (v:=v) A hs
    exact hs.pick [1,1,1,1]
   | true =>
    refine z03 ?_ (by simp)
    refine z8 (z04a (v:=v) (A:=A.V) b hs) λ_ w' hs=>?_
    obtain ⟨rfl,hs⟩:=hs
    refine zd ?_
    refine ze ?_
    refine zg ⟨?_,?_⟩
    ·have:(z5r A.V b == 1)=decide (true=false\/z5r A.V b=1):=by rw [Bool.eq_iff_iff];simp
     rw [this]
    have hs:Sat w' (paP p A::pt a (.cells #[.int .i64 b.base,.int .i64 b.pid,.int .i64 b.epoch,.int .i64 b.seq,.int .i64 b.kind,.int .i64 b.time,.slice b.x.a b.x.len b.x.cap] T.a0)::slc T.a35 5 z (done.flatMap zq)::slc T.a0 7 y (outs.flatMap z00)::z1n outs::dk A.L.d D::r):=z2s (lg:=lg) (t:=t) (v:=v) A hs
    exact hs.pick [1,1,1,1]
  clear hs
  rintro _ w ⟨rfl,hs⟩
  refine zl ?_
  have hfl:=zab b
  refine zm (λq w'=>∃ z':Sl,q=(z',())/\Sat w' (pt a (.cells #[.int .i64 b.base,.int .i64 b.pid,.int .i64 b.epoch,.int .i64 b.seq,.int .i64 b.kind,.int .i64 b.time,.slice b.x.a b.x.len b.x.cap] T.a0)::slc T.a35 5 z' ((done++(if c=false\/z5r A.V b=1 then z0r b else [])).flatMap zq)::slc T.a0 7 y (outs.flatMap z00)::z1n outs::paP p A::dk A.L.d D::r)) ?_ ?_
  ·by_cases hd:c=false\/z5r A.V b=1
   ·refine z0u ?_ (by simpa using hd)
    rw [if_pos hd]
    refine zj hs ?_
    refine zei hs (enc:=z00) [b] λx1 w' hs=>?_
    refine z8 (zwj x1 [b] (λb' hb'=>by rw [List.mem_singleton.1 hb'];infer_instance) (by simp) (λb' hb'=>by rw [List.mem_singleton.1 hb'];omega) hs) λ_ w' hs=>?_
    obtain ⟨z2,rfl,hs⟩:=hs
    refine zd ?_
    have e:z18 [b]=z0r b:=by simp [z18]
    rw [e] at hs
    refine wp_app' (xs:=done) (ys:=z0r b) (enc:=zq) hs (λz3 w' hs=>?_) (by omega)
    refine zg ⟨z3,rfl,?_⟩
    exact hs.sub
   ·refine z03 ?_ (by simpa using hd)
    rw [if_neg hd,List.append_nil]
    exact zg ⟨z,rfl,hs⟩
  clear hs
  rintro _ w ⟨z',rfl,hs⟩
  refine zl ?_
  refine zj hs ?_
  refine z8 (z9d b hs) λ_ w' hs=>?_
  obtain ⟨rfl,hs⟩:=hs
  refine zd ?_
  refine wp_lt ?_
  refine z29 (us':=[z'.v,.int .i64 (z1s b),.int .i64 ((i+1:Nat):Int)]) (by (try simp (disch:=omega) only [w64]);first|rfl|(congr;omega)) ?_
  refine z0z (outs.length-(i+1)) ⟨i+1,z',z1s b,done++(if c=false\/z5r A.V b=1 then z0r b else []),rfl,by omega,rfl,?_,?_,hs.sub⟩
  ·rw [List.length_append]
   split
   ·omega
   ·simp only [List.length_nil];omega
  ·rw [hq,List.append_assoc]
end
section
variable {w:World} {l r:List HP}
theorem z044 (x:Sl) (bs:List UInt8) [hx:FocR l x 1 (bs.flatMap zk)] (hcap:x.len<=x.cap) (hn:bs.length<=1000000000) (hs:Sat w l) :
  Ret P F.a41 #[x.v] w λvs w'=>∃ z:Sl,vs=[z.v,.bool (zkt bs).isSome]/\Sat w' (slc T.a52 1 z (((zkt bs).getD []).flatMap zk)::l) :=
 zug x <| by
  delta z08h Af Aj Ak An Ax BO
  have hl:=hs.slen x (xs:=bs) (enc:=zk)
  refine z8 (zbs x bs hcap hn hs) λ_ _ hs=>?_
  obtain ⟨z,rfl,hs⟩:=hs
  refine zd ?_
  refine wp_lt ?_
  refine wp_lt ?_
  unfold zkt
  cases hf:z12 bs with
  | none =>
   refine z0u ?_ (by simp)
   exact ⟨rfl,⟨none,0,0⟩,rfl,(hs.tail).slc_nil⟩
  | some q =>
   obtain ⟨body,n⟩:=q
   rw [hf] at hs
   dsimp only
   refine zf (λh=>?_) λh=>?_
   ·rw [if_neg (by simp at h;omega)]
    exact ⟨rfl,⟨none,0,0⟩,rfl,(hs.tail).slc_nil⟩
   ·rw [if_pos (by simp at h;omega)]
    exact ⟨rfl,z,rfl,hs⟩
end
def zao (pre:ByteArray):ByteArray:=pre++ByteArray.mk #[46,115,110,97,112]
def zaq (pre:ByteArray):ByteArray:=pre++ByteArray.mk #[46,116,109,112]
def z75 (L:LogA) (most:Int):PartA:=⟨L,most,⟨most,0,[]⟩,⟨0,[],[]⟩⟩
def z26 (L:LogA) (most:Int):PartA:=(z04 L.l).foldl z4z (z75 L most)
theorem z079 (A:PartA) (b:BatM):z4z A b.p=z4z A b:=rfl
theorem zrp:∀ (bs:List BatM) (A:PartA),(bs.map BatM.p).foldl z4z A=bs.foldl z4z A
 | [],A=>rfl
 | b::bs,A=>by
  rw [List.map_cons,List.foldl_cons,List.foldl_cons,z079]
  exact zrp bs _
section
variable {w:World} {l r:List HP} {p d lg t v:Nat} {A:PartA} {D:DiskA} {c1 c2 c3 c4 c5:Value}
theorem z04t (pre:ByteArray) (hp:pre.size<=100) [hf:FocB l p (.cells [c1,c2,.string pre,c3,c4,c5].toArray T.a34) r] (hs:Sat w l):Ret P F.a87 #[.pointer (some ⟨p,0,none⟩)] w λvs w'=>vs=[.string (zao pre)]/\Sat w' l :=
 zvj _ <| by
  delta z09i AD AU AY Ak
  refine zi ?_
  refine zb hs ?_
  refine wp_must (by omega) ?_
  refine wp_lt ?_
  exact ⟨rfl,rfl,hs⟩
theorem zr7 (pre:ByteArray) (hp:pre.size<=100) [hf:FocB l p (.cells [c1,c2,.string pre,c3,c4,c5].toArray T.a34) r] (hs:Sat w l):Ret P F.a89 #[.pointer (some ⟨p,0,none⟩)] w λvs w'=>vs=[.string (zaq pre)]/\Sat w' l :=
 zvl _ <| by
  delta z09k AD AU AY Ak
  refine zi ?_
  refine zb hs ?_
  refine wp_must (by omega) ?_
  refine wp_lt ?_
  exact ⟨rfl,rfl,hs⟩
theorem z04o (n:ByteArray) (hno:∀ f ∈ D.fs,f.name≠n) [hf:Fo l dk d D r] (hs:Sat w l):Ret P F.a90 #[.pointer (some ⟨d,0,none⟩),.string n] w λvs w'=>vs=[.bool false]/\Sat w' (dk d D::r) :=
 zvm _ n <| by
  delta z09l Af Ah Ak Ax Bi
  refine z8 (zhh (d:=d) (A:=D) n hs) λ_ w' h=>?_
  rcases h with ⟨f,hf1,hf2,-⟩|⟨-,rfl,hs⟩
  ·exact absurd hf2 (hno f hf1)
  refine ⟨(⟨none,0,0⟩,3,()),rfl,trivial,z1v _ _ ?_⟩
  refine wp_lt ?_
  refine wp_lt ?_
  exact ⟨rfl,rfl,hs⟩
theorem zzz (pre:ByteArray) (most:Int) (hp:pre.size<=100) (hm:1<=most/\most<=4096) (hno:∀ f ∈ D.fs,f.name≠zao pre) (hs:Sat w (pt p (.cells #[c1,.pointer (some ⟨d,0,none⟩),.string pre,.int .i64 most,c2,c3] T.a34)::dk d D::r)) :
  Ret P F.a85 #[.pointer (some ⟨p,0,none⟩)] w λvs w'=>vs=[.int .i64 0]/\∃ t v:Nat,Sat w' (pt p (.cells #[c1,.pointer (some ⟨d,0,none⟩),.string pre,.int .i64 most,.pointer (some ⟨t,0,none⟩),.pointer (some ⟨v,0,none⟩)] T.a34)::tb t ⟨most,0,[]⟩::vw v ⟨0,[],[]⟩::dk d D::r) :=
 zvh _ <| by
  delta z09g AA AC AF AG AH AJ AO AP AU AY Aa Ae Af Ah Aj Ak Au Aw Ax Az Bc Bi Bs Bt
  refine zi ?_
  refine zb hs ?_
  refine z8 (z07a most hs) λ_ w' h=>?_
  rcases h with ⟨-,-,t,rfl,hs⟩|⟨h,-⟩
  rotate_left
  ·omega
  refine ⟨(some ⟨t,0,none⟩,0,()),rfl,trivial,z1v _ _ ?_⟩
  refine zi ?_
  refine z08 hs λw' hs=>?_
  refine z8 (z07d hs) λ_ w' hs=>?_
  obtain ⟨v,rfl,hs⟩:=hs
  refine zd ?_
  refine zi ?_
  refine z08 hs λw' hs=>?_
  refine zm (λq w'=>q=(⟨none,0,0⟩,())/\Sat w' (pt p (.cells #[c1,.pointer (some ⟨d,0,none⟩),.string pre,.int .i64 most,.pointer (some ⟨t,0,none⟩),.pointer (some ⟨v,0,none⟩)] T.a34)::tb t ⟨most,0,[]⟩::vw v ⟨0,[],[]⟩::dk d D::r)) ?_ ?_
  ·refine z02 hs λw' hs=>?_
   refine zi ?_
   refine z0s hs ?_
   refine z8 (z04t (p:=p) pre hp hs) λ_ w' hs=>?_
   obtain ⟨rfl,hs⟩:=hs
   refine zd ?_ (by first|trivial|(repeat (first|exact trivial|exact λ_=>z07 hs|exact λ_=>z0d hs|refine And.intro ?_ ?_)))
   refine ze ?_
   refine z8 (zhh (d:=d) (A:=D) (zao pre) hs) λ_ w' h=>?_
   rcases h with ⟨f,hf1,hf2,-⟩|⟨-,rfl,hs⟩
   ·exact absurd hf2 (hno f hf1)
   refine ⟨(⟨none,0,0⟩,3,()),rfl,trivial,z1v _ _ ?_⟩
   refine wp_lt ?_
   refine ze ?_
   refine zg ⟨rfl,?_⟩
   exact hs.sub
  clear hs
  rintro _ w ⟨rfl,hs⟩
  refine zl ?_
  have hs:Sat w (slc T.a52 1 ⟨none,0,0⟩ (([]:List UInt8).flatMap zk)::_):=hs.slc_nil
  refine z8 (z044 ⟨none,0,0⟩ [] (Nat.le_refl _) (Nat.zero_le _) hs) λ_ w' hs=>?_
  obtain ⟨z,rfl,hs⟩:=hs
  have e:(zkt []).isSome=false:=by kernel_rfl
  rw [e]
  refine ⟨(z,false,()),rfl,trivial,z1v _ _ ?_⟩
  refine wp_lt ?_
  refine z0u ?_ (by simp)
  exact ⟨rfl,rfl,t,v,hs.tail.tail⟩
theorem zyx {fs:List FileA} {n:ByteArray} (hno:∀ f ∈ fs,f.name≠n):(z98 fs n).1=0:=by rw [z98,zd4 hno]
set_option maxHeartbeats 1000000 in
theorem z000 (pre:ByteArray) (seg gap most:Int) (hp:z17 pre=true) (hc:ze7 seg gap) (hm:1<=most/\most<=1024) (hg:D.gone=false) (S:List SegA) (D':DiskA) (ho:z4r pre D=(0,S,D')) (hno:∀ f ∈ D'.fs,f.name≠zao pre/\f.name≠zaq pre)
  (hok:z0h 0 S) (hhas:zl2 pre S D') (hlen:S.length<=1000000) (hall:(z04 S).length<=1000000) [hf:Fo l dk d D r] (hs:Sat w l) :
  Ret P F.a77 #[.pointer (some ⟨d,0,none⟩),.string pre,.agg #[.int .i64 seg,.int .i64 gap,.int .i64 most]] w λvs w'=>∃ p:Nat,vs=[.pointer (some ⟨p,0,none⟩),.int .i64 0]/\Sat w' (paP p (z26 ⟨d,pre,seg,gap,S⟩ most)::dk d D'::r) :=
 zv9 _ pre seg gap most <| by
  delta z098 AA AF AP AT Aa Ab Ac Ad Ae Af Ah Ai Aj Ak Al Am An Ao Ar Au Av Aw Ba Bb Be Bf Bg Bh
  have hs:=hs.perm hf.perm
  clear hf
  have hps:pre.size<=100:=by
   unfold z17 at hp
   rw [Bool.and_eq_true,decide_eq_true_eq] at hp
   omega
  refine zr hs λa0 w' hs=>?_
  refine zb hs ?_
  refine zb hs ?_
  refine z03 ?_ (by simp;omega)
  refine znf hs (seg,gap,()) ?_
  refine z8 (z04k (d:=d) (D:=D) pre seg gap hp hc hg hs) λ_ w' hs=>?_
  rw [ho] at hs
  rcases hs with ⟨he,-,-⟩|⟨-,lg,rfl,hs⟩
  ·exact absurd rfl he
  refine ⟨(some ⟨lg,0,none⟩,0,()),rfl,trivial,z1v _ _ ?_⟩
  refine wp_lt ?_
  refine z03 ?_ (by simp)
  refine zb hs ?_
  refine zr hs λa10 w' hs=>?_
  have hs:Sat w' (pt a10 (.cells #[.pointer (some ⟨lg,0,none⟩),.pointer (some ⟨d,0,none⟩),.string pre,.int .i64 most,.pointer none,.pointer none] T.a34)::dk d D'::lgP lg ⟨d,pre,seg,gap,S⟩::r):=hs.sub
  refine zm (λq w'=>q=(false,())/\Sat w' (pt a10 (.cells #[.pointer (some ⟨lg,0,none⟩),.pointer (some ⟨d,0,none⟩),.string pre,.int .i64 most,.pointer none,.pointer none] T.a34)::dk d D'::lgP lg ⟨d,pre,seg,gap,S⟩::r)) ?_ ?_
  ·refine z8 (zr7 (p:=a10) pre hps hs) λ_ w' hs=>?_
   obtain ⟨rfl,hs⟩:=hs
   refine zd ?_
   refine z8 (z076 (d:=d) (A:=D') (zaq pre) hs) λ_ w' hs=>?_
   obtain ⟨rfl,hs⟩:=hs
   refine zd ?_
   rw [zyx λf hf=>(hno f hf).2]
   refine z03 ?_ (by simp)
   refine z8 (zr7 (p:=a10) pre hps hs) λ_ w' hs=>?_
   obtain ⟨rfl,hs⟩:=hs
   refine zd ?_
   refine z8 (z04o (d:=d) (D:=D') (zaq pre) (λf hf=>(hno f hf).2) hs) λ_ w' hs=>?_
   obtain ⟨rfl,hs⟩:=hs
   refine zd ?_
   exact zg ⟨rfl,hs.sub⟩
  clear hs
  rintro _ w ⟨rfl,hs⟩
  refine zl ?_
  refine zm (λq w'=>Sat w' (pt a10 (.cells #[.pointer (some ⟨lg,0,none⟩),.pointer (some ⟨d,0,none⟩),.string pre,.int .i64 most,.pointer none,.pointer none] T.a34)::dk d D'::lgP lg ⟨d,pre,seg,gap,S⟩::r)) ?_ ?_
  ·refine z03 ?_ (by simp)
   exact zg hs
  clear hs
  rintro _ w hs
  refine zl ?_
  refine z8 (zzz (p:=a10) (d:=d) (D:=D') pre most hps (by omega) (λf hf=>(hno f hf).1) hs) λ_ w' hs=>?_
  obtain ⟨rfl,t,v,hs⟩:=hs
  refine zd ?_
  refine wp_lt ?_
  refine z8 (zws (lg:=lg) (A:=⟨d,pre,seg,gap,S⟩) (D:=D') hok hhas hlen hall hs) λ_ w' hs=>?_
  obtain ⟨y,outs,rfl,hmap,hs⟩:=hs
  refine zd ?_
  have hmap:outs.map BatM.p=z04 S:=hmap
  have hs:Sat w' (paP a10 (z75 ⟨d,pre,seg,gap,S⟩ most)::slc T.a0 7 y (outs.flatMap z00)::z1n outs::dk d D'::r):=by
   have hs:Sat w' (slc T.a0 7 y (outs.flatMap z00)::z1n outs::lgP lg (z75 ⟨d,pre,seg,gap,S⟩ most).L::dk d D'::pt a10 (.cells #[.pointer (some ⟨lg,0,none⟩),.pointer (some ⟨(z75 ⟨d,pre,seg,gap,S⟩ most).L.d,0,none⟩),.string (z75 ⟨d,pre,seg,gap,S⟩ most).L.pre,.int .i64 (z75 ⟨d,pre,seg,gap,S⟩ most).most,.pointer (some ⟨t,0,none⟩),.pointer (some ⟨v,0,none⟩)] T.a34)::tb t (z75 ⟨d,pre,seg,gap,S⟩ most).T::vw v (z75 ⟨d,pre,seg,gap,S⟩ most).V::r):=hs
   exact z2s (lg:=lg) (t:=t) (v:=v) (z75 ⟨d,pre,seg,gap,S⟩ most) hs
  have hlo:=congrArg List.length hmap
  rw [List.length_map] at hlo
  have hly:=hs.slen y (xs:=outs) (enc:=z00)
  have hov:∀ b ∈ outs,0<=b.base:=λb hb=>by
   have h1:b.p ∈ z04 S:=by rw [<- hmap];exact List.mem_map.2 ⟨b,hb,rfl⟩
   have hv:zy b=0:=((zb1 (Int.le_refl 0) hok).valid _ h1).1
   exact (z15 b hv).2.2.1.2.1.1
  have hop:z26 ⟨d,pre,seg,gap,S⟩ most=outs.foldl z4z (z75 ⟨d,pre,seg,gap,S⟩ most):=by
   unfold z26
   show (z04 S).foldl z4z _=_
   rw [<- hmap,zrp]
  rw [hop]
  generalize z75 ⟨d,pre,seg,gap,S⟩ most=A0 at *
  refine zm (λq w'=>Sat w' (paP a10 (outs.foldl z4z A0)::dk d D'::r)) ?_ ?_
  rotate_left
  ·rintro _ w2 hs
   refine zl ?_
   exact ⟨rfl,a10,rfl,hs⟩
  refine z0c (λm q w=>∃ i:Nat,q=((i:Int),())/\i<=outs.length/\outs.length-i=m/\Sat w (paP a10 ((outs.take i).foldl z4z A0)::slc T.a0 7 y (outs.flatMap z00)::z1n outs::dk d D'::r)) outs.length ⟨0,rfl,by omega,rfl,hs⟩ ?_
  clear hs
  rintro m _ w ⟨i,rfl,hi,hm2,hs⟩
  refine zl ?_
  refine zf (λhc2=>?_) λhc2=>?_
  rotate_left
  ·rw [List.take_of_length_le (by omega)] at hs
   refine zn (zg ?_)
   exact hs.sub
  have hil:i<outs.length:=by omega
  have hb0:=hov _ (List.getElem_mem hil)
  have hbr:FocR (z1n outs::dk d D'::r) outs[i].x 4 (outs[i].rs.flatMap zu):=zb3 (List.getElem_mem hil)
  have htk:outs.take (i+1)=outs.take i++[outs[i]]:=by rw [List.take_add_one,List.getElem?_eq_getElem hil,Option.toList_some]
  refine z2v hs i hil ?_
  refine zt hs λa33 w' hs=>?_
  refine zv hs λw' hs=>?_
  refine zb hs ?_
  refine zm (λq w'=>Sat w' (paP a10 ((outs.take (i+1)).foldl z4z A0)::slc T.a0 7 y (outs.flatMap z00)::z1n outs::dk d D'::r)) ?_ ?_
  ·refine z0u ?_ (by simpa using hb0)
   refine zj hs ?_
   refine z8 (zr9 (p:=a10) (A:=(outs.take i).foldl z4z A0) outs[i] hs) λ_ w' hs=>?_
   obtain ⟨rfl,hs⟩:=hs
   refine zd ?_
   refine zg ?_
   rw [htk,List.foldl_append,List.foldl_cons,List.foldl_nil]
   exact hs.sub
  clear hs
  rintro _ w hs
  refine zl ?_
  refine z29 (us':=[.int .i64 ((i+1:Nat):Int)]) (by (try simp (disch:=omega) only [w64]);first|rfl|(congr;omega)) ?_
  exact z0z (outs.length-(i+1)) ⟨i+1,rfl,by omega,rfl,hs⟩
end
theorem z01b (A:PartA) (D:DiskA) (b:BatM):(z0j A D b).2.1.L.d=A.L.d/\(z0j A D b).2.1.L.pre=A.L.pre/\(z0j A D b).2.1.L.seg=A.L.seg/\(z0j A D b).2.1.L.gap=A.L.gap/\(z0j A D b).2.1.most=A.most:=by
 unfold z0j
 split
 ·exact ⟨rfl,rfl,rfl,rfl,rfl⟩
 unfold zbl
 split
 ·exact ⟨rfl,rfl,rfl,rfl,rfl⟩
 split
 ·exact ⟨rfl,rfl,rfl,rfl,rfl⟩
 ·exact ⟨rfl,rfl,rfl,rfl,rfl⟩
theorem z04u {A:PartA} {D:DiskA} (b:BatM) (hp:z17 A.L.pre=true) (h:Cpl A.L.pre A.L.l D):Cpl A.L.pre (z0j A D b).2.1.L.l (z0j A D b).2.2:=by
 unfold z0j
 split
 ·exact h
 have h1:=(z6j A.L.seg [b.to (zh A.L.l)] hp h).1
 unfold zbl
 split
 ·exact h1
 split
 ·exact (z40 h1).1
 ·exact (z40 h1).1
section
variable {w:World} {l r:List HP} {p d:Nat} {A:PartA} {D:DiskA}
theorem z06t (b:BatM) {r1:List HP} [hf:Fo l paP p A r1] [hf2:Fo r1 dk A.L.d D r] (hb:FocR r b.x 4 (b.rs.flatMap zu)) (h:Cpl A.L.pre A.L.l D) (hr:b.rs.length<=1000000) (hm:z0b b=false) (hs:Sat w l) :
  Ret P F.a78 #[.pointer (some ⟨p,0,none⟩),.agg (z00 b).toArray] w λvs w'=>vs=[.int .i64 (z0j A D b).1.1,.bool (z0j A D b).1.2.1,.int .i64 (z0j A D b).1.2.2]/\Sat w' (paP p (z0j A D b).2.1::dk A.L.d (z0j A D b).2.2::r):=by
 obtain ⟨h1,h2,h3⟩:=h.len
 exact zx8 b hb (by omega) h.segs (λs hs=>by have:=h3 s hs;omega) hr hm hs
theorem z004 (hst:zgk A) (off most:Int) (c:Bool) (ho : -9223372036854775808<=off/\off<9223372036854775808) (hmo:most<9223372036854775808) {r1:List HP} [hf:Fo l paP p A r1] [hf2:Fo r1 dk A.L.d D r] (h:Cpl A.L.pre A.L.l D) (hs:Sat w l) :
  Ret P F.a82 #[.pointer (some ⟨p,0,none⟩),.int .i64 off,.int .i64 most,.bool c] w λvs w'=>∃ z:Sl,vs=[z.v,.int .i64 (z32 A off most c).1.2,.int .i64 (z32 A off most c).2]/\Sat w' (slc T.a35 5 z ((z32 A off most c).1.1.flatMap zq)::paP p A::dk A.L.d D::r):=by
 obtain ⟨h1,h2,h3⟩:=h.len
 exact z04s hst off most c ho hmo h.segs h.has (by omega) (by omega) hs
theorem z04q (pre:ByteArray) (seg gap most:Int) (hp:z17 pre=true) (hc:ze7 seg gap) (hm:1<=most/\most<=1024) (hg:D.gone=false) {S:List SegA} (h:Cpl pre S D) (hno:∀ f ∈ D.fs,f.name≠zao pre/\f.name≠zaq pre) [hf:Fo l dk d D r] (hs:Sat w l) :
  Ret P F.a77 #[.pointer (some ⟨d,0,none⟩),.string pre,.agg #[.int .i64 seg,.int .i64 gap,.int .i64 most]] w λvs w'=>∃ p:Nat,vs=[.pointer (some ⟨p,0,none⟩),.int .i64 0]/\Sat w' (paP p (z26 ⟨d,pre,seg,gap,S⟩ most)::dk d D::r):=by
 obtain ⟨h1,h2,h3⟩:=h.len
 exact z000 pre seg gap most hp hc hm hg S D h.opened hno h.segs h.has (by omega) (by omega) hs
end
def kR:List RecM:=[⟨ByteArray.mk #[107],ByteArray.mk #[],false,0⟩]
def kB (x:Sl):BatM:=⟨0,3,0,0,1,0,x,kR⟩
def kA (d:Nat):PartA:=z75 ⟨d,aP,100,9,[]⟩ 4
def kD:DiskA:=⟨10000,-1,false,[]⟩
theorem k1 (d:Nat) (x:Sl):(z0j (kA d) kD (kB x)).1=(0,false,0):=by kernel_rfl
section
variable {d:Nat} {x:Sl} {S U:PartA × DiskA}
theorem k2 (h:S=(z0j (kA d) kD (kB x)).2):z0j S.1 S.2 (kB x)=((0,true,0),S):=by subst h;kernel_rfl
theorem k3 (h:S=(z0j (kA d) kD (kB x)).2):z32 S.1 0 9 true=(([],0),0):=by subst h;kernel_rfl
theorem k4 (h:S=(z0j (kA d) kD (kB x)).2):((z32 S.1 0 9 false).1.1.length,(z32 S.1 0 9 false).1.2,(z32 S.1 0 9 false).2)=(1,1,0):=by subst h;kernel_rfl
end
section
variable {w:World} {l r:List HP} {p d a:Nat} {A:PartA} {D:DiskA} {R:RefM}
theorem zt2 {r1:List HP} [hf:Fo l paP p A r1] [hf2:Fo r1 dk A.L.d D r] (h:Cpl A.L.pre A.L.l D) (hs:Sat w l) :
  Ret P F.a79 #[.pointer (some ⟨p,0,none⟩)] w λvs w'=>∃ (z:Sl) (outs:List BatM),vs=[z.v]/\outs.map BatM.p=z04 A.L.l/\Sat w' (slc T.a0 7 z (outs.flatMap z00)::z1n outs::paP p A::dk A.L.d D::r) :=
 zvb _ <| by
  delta z09a AB AT AY Ah Aj Ak
  obtain ⟨h1,h2,h3⟩:=h.len
  obtain ⟨lg,t,v,hs⟩:=z5e (hs.perm (hf.perm.trans (.cons _ hf2.perm)))
  refine z03 ?_ (by simp)
  refine zi ?_
  refine zb hs ?_
  refine z8 (zws (lg:=lg) (A:=A.L) (D:=D) h.segs h.has (by omega) (by omega) hs) λ_ w' hs=>?_
  obtain ⟨z,outs,rfl,hm,hs⟩:=hs
  refine zd ?_
  have hs:Sat w' (paP p A::slc T.a0 7 z (outs.flatMap z00)::z1n outs::dk A.L.d D::r):=z2s (lg:=lg) (t:=t) (v:=v) A hs
  exact ⟨rfl,z,outs,rfl,hm,hs.pick [1,1]⟩
end
instance {b:Nat}:AddrIs ((Addr.add ⟨b,0,none⟩ 1).add 1) b 2:=⟨rfl⟩
instance {b:Nat}:AddrIs ((Addr.add ⟨b,0,none⟩ 1).add 2) b 3:=⟨rfl⟩
section
variable {P:Program} {w:World} {l r:List HP} {Q:Post} {S:World->Prop} {T:TypeId} {sz:Nat} {x y:Sl} {cs ds:List Value}
theorem Sat.slc_pre {n:Nat} (hs:Sat w (slc T sz x cs::l)) (hn:n<=x.len):Sat w (slc T sz ⟨x.a,n,x.cap⟩ (cs.take (n*sz))::l):=by
 refine hs.imp λp hp=>?_
 rcases hp with ⟨h1,h2,h3,rfl⟩|⟨b,off,arr,fr,ha,hb,hlen,hle,hsz,hc,hf⟩
 ·exact .inl ⟨h1,by dsimp only;omega,h3,by simp⟩
 ·have hnl:n*sz<=x.len*sz:=Nat.mul_le_mul_right _ hn
  refine .inr ⟨b,off,arr,fr,ha,hb,?_,by dsimp only;omega,hsz,λi hi=>?_,hf⟩
  ·rw [List.length_take,hlen];dsimp only;omega
  ·rw [List.length_take] at hi
   rw [hc i (by omega),List.getElem?_take,if_pos (by omega)]
theorem zkb {b off o:Nat} {vs:List Value} (hs:Sat w (slc T sz x cs::l)) (ha:x.a=some ⟨b,off,none⟩) (ho:o+vs.length<=x.cap*sz) (h1:∀ v ∈ vs,v.oneCell'=true) :
  ∃ w',(storeCells ⟨b,off+o,none⟩ vs).run P w=.ok () w'/\(cs.length<=o->Sat w' (slc T sz x cs::l))/\(o+vs.length<=cs.length->Sat w' (slc T sz x (cs.take o++vs++cs.drop (o+vs.length))::l)):=by
 obtain ⟨p1,p2,q1,q2,hd,hA,hl⟩:=hs
 rcases hA with ⟨ha',_,_,_⟩|⟨b',off',arr,fr,ha',hb,hlen,hle,hsz,hcs,hf⟩
 ·rw [ha] at ha';cases ha'
 rw [ha] at ha'
 obtain ⟨rfl,rfl⟩:b=b'/\off=off':=by cases ha';exact ⟨rfl,rfl⟩
 have hbw:w.heap[b]? = some (.cells arr T fr):=q1 b _ hb
 have hset:Sat w (pt b (.cells arr T fr)::l):=⟨p1,p2,q1,q2,hd,hb,hl⟩
 refine ⟨_,z8d (P:=P) vs (off:=off+o) (i:=0) hbw (by omega) (λi h1 h2=>hf i (by omega) (by omega)) h1,λh=>?_,λh=>?_⟩
 ·refine hset.set.imp λp hp=>.inr ⟨b,off,_,fr,ha,hp,hlen,hle,by rw [z4l];exact hsz,λi hi=>?_,hf⟩
  rw [getElem?_putCells vs (by omega),if_neg (by omega),hcs i hi]
 ·refine hset.set.imp λp hp=>.inr ⟨b,off,_,fr,ha,hp,?_,hle,by rw [z4l];exact hsz,λi hi=>?_,hf⟩
  ·rw [List.length_append,List.length_append,List.length_take,List.length_drop];omega
  ·rw [List.length_append,List.length_append,List.length_take,List.length_drop] at hi
   rw [getElem?_putCells vs (by omega)]
   by_cases h2:i<o
   ·rw [if_neg (by omega),hcs i (by omega),List.getElem?_append_left (by simp;omega),List.getElem?_append_left (by simp;omega),List.getElem?_take,if_pos h2]
   by_cases h3:i<o+vs.length
   ·rw [if_pos (by omega),List.getElem?_append_left (by simp;omega),List.getElem?_append_right (by simp;omega),List.length_take]
    congr 1;omega
   ·rw [if_neg (by omega),hcs i (by omega),List.getElem?_append_right (by simp;omega),List.getElem?_drop,List.length_append,List.length_take]
    congr 1;omega
theorem zyf {t tx ty:TypeId} {i:TypeInfo} (ht:P.underlying t=some (.slice T)) (hi:P.info? T=some i)
  (hs:Sat w (slc T i.size x cs::l)) {v:Value} {n:Nat} (hsrc:Src P i.size tx v n ds w) (hroom:x.len+n<=x.cap) :
  ∃ w',(app t tx ty x.v v).run P w=.ok (Sl.mk x.a (x.len+n) x.cap).v w'/\Sat w' (slc T i.size ⟨x.a,x.len+n,x.cap⟩ (cs++ds)::l):=by
 have hs':=hs
 obtain ⟨p1,p2,h1,h2,hd,hA,hl⟩:=hs
 rcases hA with ⟨ha,hl0,hc0,rfl⟩|⟨b,off,arr,fr,ha,hb,hlen,hle,hsz,hcs,hf⟩
 ·have hn0:n=0:=by omega
  subst hn0
  have hds:ds=[]:=List.length_eq_zero_iff.1 (by rw [hsrc.newsLen,Nat.zero_mul])
  subst hds
  obtain ⟨a,ln,cp⟩:=x
  simp only at ha hl0 hc0
  subst ha hl0 hc0
  refine ⟨w,?_,hs'⟩
  rcases hsrc.kind with ⟨e',hk⟩|hk <;>
   simp [app,Builtin.append_,run_underlying ht,run_underlying hk,sizeOf,typeInfo,hi,hsrc.len,hsrc.cells]
 ·have hbw:w.heap[b]? = some (.cells arr T fr):=h1 b _ hb
  obtain ⟨a,ln,cp⟩:=x
  simp only at ha hlen hle hsz hf hroom
  subst ha
  have hfit:off+ln*i.size+ds.length<=arr.size:=by
   rw [hsrc.newsLen,Nat.add_assoc,<- Nat.add_mul]
   exact Nat.le_trans (Nat.add_le_add_left (Nat.mul_le_mul_right _ hroom) _) hsz
  have hrun:=run_append_room_src (P:=P) w t tx ty T i ht hi b off ln cp v n ds hsrc hroom
   (λj hj=>by rw [z33 hbw];simp;omega)
   (λj hj=>by
    have h3:ln*i.size+ds.length<=cp*i.size:=by rw [hsrc.newsLen,<- Nat.add_mul];exact Nat.mul_le_mul_right _ hroom
    have:=hf (off+ln*i.size+j) (by omega) (by omega)
    simp only [World.frozen?,hbw]
    simpa using this)
  rw [zaz ds hbw] at hrun
  refine ⟨_,hrun,?_⟩
  have hset:Sat w (pt b (.cells arr T fr)::l):=⟨p1,p2,h1,h2,hd,hb,hl⟩
  refine hset.set.imp λp hp=>.inr ⟨b,off,_,fr,rfl,hp,?_,hroom,?_,λj hj=>?_,hf⟩
  ·rw [List.length_append,hlen,hsrc.newsLen,Nat.add_mul]
  ·rw [z4l];exact hsz
  ·rw [List.length_append,hlen] at hj
   rw [getElem?_putCells ds hfit]
   by_cases hjl:j<ln*i.size
   ·rw [if_neg (by omega),hcs j (by omega),List.getElem?_append_left (by omega)]
   ·rw [if_pos (by omega),List.getElem?_append_right (by omega),hlen]
    congr 1;omega
theorem z05h {α:Type} {enc:α->List Value} {xs ys:List α} {tx ty el el':TypeId} {t:TypeId} {bytes sz' bytes':Nat} {k:Sl->Prog} (hs:Sat w (slc el sz x (xs.flatMap enc)::r)) [ht:SlT P t el sz bytes] [htx:SlT P tx el' sz' bytes'] (hy:Rd w sz y (ys.flatMap enc)) [hE:EncN enc sz]
  (hroom:x.len+y.len<=x.cap) (h:∀ w',Sat w' (slc el sz ⟨x.a,x.len+y.len,x.cap⟩ ((xs++ys).flatMap enc)::r)->(k ⟨x.a,x.len+y.len,x.cap⟩).wp P S w' Q) (hS:∀ w',S w':=by exact λ_=>trivial) :
  (Prog.act (app t tx ty (.slice x.a x.len x.cap) (.slice y.a y.len y.cap)) sL (u1 k)).wp P S w Q:=by
 obtain ⟨i,z,hi,rfl,rfl,hz,hzs⟩:=ht.parts
 obtain ⟨w',hrun,hs'⟩:=zyf (ty:=ty) ht.ok.1 hi hs (zxn ⟨_,htx.ok.1⟩ hy λu hu=>by
  obtain ⟨a,-,hu⟩:=List.mem_flatMap.1 hu
  exact hE.one a u hu) hroom
 rw [<- List.flatMap_append] at hs'
 exact ⟨(⟨x.a,x.len+y.len,x.cap⟩,()),w',hrun,hS _,h w' hs'⟩
theorem zmg {z:Array Value} (h:∀ v ∈ z.toList,v.oneCell'=true) {n:Nat}:∀ v ∈ (Builtin.zeroCells z n).toList,v.oneCell'=true:=λv hv=>by
 unfold Builtin.zeroCells at hv
 simp only [Array.toList_map,List.mem_map,Array.mem_toList_iff,Array.mem_range] at hv
 obtain ⟨i,hi,rfl⟩:=hv
 have hp:0<z.size:=by
  rcases Nat.eq_zero_or_pos z.size with h0|h0
  ·rw [h0,Nat.mul_zero] at hi;omega
  ·exact h0
 have hm:=Nat.mod_lt i hp
 rw [getElem!_pos z _ hm]
 exact h _ (by simp)
theorem z052 {t ty:TypeId} {i:TypeInfo} {z:Value} (ht:P.underlying t=some (.slice T)) (hi:P.info? T=some i) (hz:i.zero=some z) (hzs:z.cells.size=sz) (h1:∀ v ∈ z.cells.toList,v.oneCell'=true)
  (hs:Sat w (slc T sz x cs::l)) {n m c:Nat} (hn:x.len<=n) (hm:n+m<=x.cap) :
  ∃ w',(Builtin.clear_ #[t] ty #[.slice (x.a.map λa=>a.add (n*sz)) m c]).run P w=.ok (.tuple #[]) w'/\Sat w' (slc T sz x cs::l):=by
 have hlen:=hs.rd.1
 cases ha:x.a with
 | none=>exact ⟨w,by simp [Builtin.clear_,run_underlying ht],hs⟩
 | some a =>
  obtain ⟨b,off,s⟩:=a
  have hs2:=hs
  obtain ⟨p1,p2,q1,q2,hd,hA,hl⟩:=hs2
  have hsn:s=none:=by
   rcases hA with ⟨ha',_,_,_⟩|⟨b',off',arr,fr,ha',hb,hlen,hle,hsz,hcs,hf⟩
   ·rw [ha] at ha';cases ha'
   ·rw [ha] at ha';cases ha';rfl
  subst hsn
  cases m with
  | zero=>exact ⟨w,by simp [Builtin.clear_,run_underlying ht],hs⟩
  | succ m =>
   have hle:(n+(m+1))*sz<=x.cap*sz:=Nat.mul_le_mul_right _ hm
   rw [Nat.add_mul] at hle
   have hnl:x.len*sz<=n*sz:=Nat.mul_le_mul_right _ hn
   obtain ⟨w',hrun,hsat,-⟩:=zkb (P:=P) (o:=n*sz) (vs:=(Builtin.zeroCells z.cells (m+1)).toList) hs ha (by rw [Array.length_toList,size_zeroCells,hzs];exact hle) (zmg h1)
   refine ⟨w',?_,hsat (by omega)⟩
   have e:((⟨b,off,none⟩:Addr).add (n*sz))=⟨b,off+n*sz,none⟩:=z23 _ _ _
   simp [Builtin.clear_,run_underlying ht,zeroValue,typeInfo,hi,hz,e,hrun]
theorem z07j {t ty el:TypeId} {bytes:Nat} {k:Prog} [ht:SlT P t el sz bytes] (hs:Sat w (slc el sz x cs::l)) {n m c:Nat} (hn:x.len<=n) (hm:n+m<=x.cap)
  (h:∀ w',Sat w' (slc el sz x cs::l)->k.wp P S w' Q) (h1:((P.info? el).bind (·.zero)).all (λz=>z.cells.toList.all (·.oneCell'))=true:=by kernel_rfl) (hS:∀ w',S w':=by exact λ_=>trivial) :
  (Prog.act (Builtin.clear_ #[t] ty #[.slice (z0w x.a sz n x.cap) m c]) (.tup []) (u0 k)).wp P S w Q:=by
 obtain ⟨i,z,hi,rfl,rfl,hz,hzs⟩:=ht.parts
 rw [hi] at h1
 have h1:z.cells.toList.all (·.oneCell')=true:=by
  have h2:(i.zero).all (λz=>z.cells.toList.all (·.oneCell'))=true:=h1
  rw [hz] at h2;exact h2
 rw [List.all_eq_true] at h1
 by_cases hc:x.cap=n
 ·have hm0:m=0:=by omega
  subst hm0
  refine ⟨(),w,?_,hS _,h _ hs⟩
  cases ha:z0w x.a i.size n x.cap with
  | none=>simp [Builtin.clear_,run_underlying ht.ok.1,Sh.mk]
  | some a=>simp [Builtin.clear_,run_underlying ht.ok.1,Sh.mk]
 ·obtain ⟨w',hrun,hs'⟩:=z052 (ty:=ty) ht.ok.1 hi hz hzs h1 hs hn hm (c:=c)
  refine ⟨(),w',?_,hS _,h _ hs'⟩
  unfold z0w
  rw [if_neg hc]
  exact hrun
end
section
variable {P:Program} {w:World} {l r:List HP} {Q:Post} {S:World->Prop} {T:TypeId} {sz:Nat} {x y:Sl} {cs ds:List Value}
theorem zbi {b off:Nat} (hs:Sat w (slc T sz x cs::l)) (ha:x.a=some ⟨b,off,none⟩):∃ arr fr,w.heap[b]? = some (.cells arr T fr)/\cs.length=x.len*sz/\x.len<=x.cap/\off+x.cap*sz<=arr.size/\∀ i,i<cs.length->arr[off+i]? = cs[i]? := by
 obtain ⟨p1,p2,q1,q2,hd,hA,hl⟩:=hs
 rcases hA with ⟨ha',_,_,_⟩|⟨b',off',arr,fr,ha',hb,hlen,hle,hsz,hcs,hf⟩
 ·rw [ha] at ha';cases ha'
 ·rw [ha] at ha'
  obtain ⟨rfl,rfl⟩:b=b'/\off=off':=by cases ha';exact ⟨rfl,rfl⟩
  exact ⟨arr,fr,q1 b _ hb,hlen,hle,hsz,hcs⟩
theorem z00l (hs:Sat w (slc T sz x cs::l)) (h:x.len≠0):∃ b off,x.a=some ⟨b,off,none⟩:=by
 obtain ⟨p1,p2,q1,q2,hd,hA,hl⟩:=hs
 rcases hA with ⟨_,h0,_,_⟩|⟨b,off,arr,fr,ha,_⟩
 ·exact absurd h0 h
 ·exact ⟨b,off,ha⟩
theorem z077 {b off c:Nat} {o:Obj} (hs:Sat w (slc T sz x cs::pt c o::l)) (ha:x.a=some ⟨b,off,none⟩):b≠c:=by
 obtain ⟨p1,p2,q1,q2,hd,hA,hl⟩:=hs
 rcases hA with ⟨ha',_,_,_⟩|⟨b',off',arr,fr,ha',hb,hlen,hle,hsz,hcs,hf⟩
 ·rw [ha] at ha';cases ha'
 ·rw [ha] at ha'
  obtain ⟨rfl,rfl⟩:b=b'/\off=off':=by cases ha';exact ⟨rfl,rfl⟩
  obtain ⟨p3,p4,q3,q4,hd2,hB,hl2⟩:=hl
  intro e
  subst e
  have h2:p2 b=some o:=q3 b _ hB
  rcases hd b with h|h
  ·rw [hb] at h;cases h
  ·rw [h2] at h;cases h
theorem Sat.slc_ext {b off n:Nat} (hs:Sat w (slc T sz x cs::l)) (ha:x.a=some ⟨b,off,none⟩) (h1:x.len<=n) (h2:n<=x.cap):∃ t:List Value,t.length=(n-x.len)*sz/\Sat w (slc T sz ⟨x.a,n,x.cap⟩ (cs++t)::l):=by
 obtain ⟨p1,p2,q1,q2,hd,hA,hl⟩:=hs
 rcases hA with ⟨ha',_,_,_⟩|⟨b',off',arr,fr,ha',hb,hlen,hle,hsz,hcs,hf⟩
 ·rw [ha] at ha';cases ha'
 rw [ha] at ha'
 obtain ⟨rfl,rfl⟩:b=b'/\off=off':=by cases ha';exact ⟨rfl,rfl⟩
 have hset:Sat w (pt b (.cells arr T fr)::l):=⟨p1,p2,q1,q2,hd,hb,hl⟩
 have hns:n*sz<=x.cap*sz:=Nat.mul_le_mul_right _ h2
 have hxs:x.len*sz<=n*sz:=Nat.mul_le_mul_right _ h1
 have hsub:(n-x.len)*sz=n*sz-x.len*sz:=Nat.sub_mul ..
 have hasz:arr.toList.length=arr.size:=by simp
 have htl:((arr.toList.drop (off+cs.length)).take ((n-x.len)*sz)).length=(n-x.len)*sz:=by
  rw [List.length_take,List.length_drop,hasz];omega
 refine ⟨(arr.toList.drop (off+cs.length)).take ((n-x.len)*sz),htl,?_⟩
 refine hset.imp λp hp=>.inr ⟨b,off,arr,fr,ha,hp,?_,h2,hsz,λi hi=>?_,hf⟩
 ·rw [List.length_append,htl,hlen];show _=n*sz;omega
 ·rw [List.length_append,htl] at hi
  by_cases hic:i<cs.length
  ·rw [hcs i hic,List.getElem?_append_left hic]
  ·rw [List.getElem?_append_right (by omega),List.getElem?_take,if_pos (by omega),List.getElem?_drop,Array.getElem?_toList]
   congr 1;omega
theorem zeb {t t' ty:TypeId} {i:TypeInfo} (ht:P.underlying t=some (.slice T)) (hi:P.info? T=some i) (hsz:i.size=sz) (hs:Sat w (slc T sz x cs::l)) {b off o n dl dc sl sc:Nat} {sa:Option Addr} (ha:x.a=some ⟨b,off,none⟩)
  (hn:n=min sl dl) (hsrc:(Builtin.firstCells sz n (.slice sa sl sc)).run P w=.ok ds.toArray w) (h1:∀ v ∈ ds,v.oneCell'=true) (ho:o+ds.length<=cs.length) :
  ∃ w',(Builtin.copy_ #[t,t'] ty #[.slice (some ⟨b,off+o,none⟩) dl dc,.slice sa sl sc]).run P w=.ok (.int .i64 n) w'/\Sat w' (slc T sz x (cs.take o++ds++cs.drop (o+ds.length))::l):=by
 obtain ⟨arr,fr,hb,hlen,hle,hcap,hcs⟩:=zbi hs ha
 have hle':x.len*sz<=x.cap*sz:=Nat.mul_le_mul_right _ hle
 obtain ⟨w',hrun,-,h2⟩:=zkb (P:=P) (o:=o) (vs:=ds) hs ha (by omega) h1
 refine ⟨w',?_,h2 ho⟩
 subst hn hsz
 have hm:Nat.min sl dl=min sl dl:=rfl
 simp [Builtin.copy_,run_underlying ht,Builtin.lenOf,sizeOf,typeInfo,hi,hm,hsrc,hrun,goInt]
theorem zyg {t tn ty:TypeId} {i:TypeInfo} {z:Value} (ht:P.underlying t=some (.slice T)) (htn:P.underlying tn=some (.int .i64)) (hi:P.info? T=some i) (hz:i.zero=some z) (hzs:z.cells.size=i.size) (hpos:0<i.size)
  (hs:Sat w (slc T i.size x cs::l)) {n k:Nat} (hn:n<=x.len) (h0:0<k) (hg:x.cap<n+k) (hb:(n+k)*i.bytes<=140737488355328) (h63:n+k<=9223372036854775807) :
  ∃ (c a:Nat) (zs:List Value) (w':World),(app t tn ty (.slice x.a n x.cap) (.int .i64 k)).run P w=.ok (.slice (some ⟨a,0,none⟩) (n+k) c) w'/\n+k<=c/\zs.length=k*i.size /\
   Sat w' (slc T i.size ⟨some ⟨a,0,none⟩,n+k,c⟩ (cs.take (n*i.size)++zs)::slc T i.size x cs::l):=by
 have hlen:=hs.rd.1
 have hnl:n*i.size<=x.len*i.size:=Nat.mul_le_mul_right _ hn
 have hold:(Builtin.firstCells i.size n (.slice x.a n x.cap)).run P w.drew=.ok (cs.take (n*i.size)).toArray w.drew:=by
  cases ha:x.a with
  | none =>
   obtain ⟨p1,p2,q1,q2,hd,hA,hl⟩:=hs
   rcases hA with ⟨_,hl0,_,rfl⟩|⟨b,off,arr,fr,ha',_⟩
   ·simp [Builtin.firstCells]
   ·rw [ha] at ha';cases ha'
  | some a =>
   have hn1:∃ b off,x.a=some ⟨b,off,none⟩:=by
    obtain ⟨p1,p2,q1,q2,hd,hA,hl⟩:=hs
    rcases hA with ⟨ha',_⟩|⟨b,off,arr,fr,ha',_⟩
    ·rw [ha] at ha';cases ha'
    ·exact ⟨b,off,ha'⟩
   obtain ⟨b,off,hab⟩:=hn1
   rw [ha] at hab
   obtain rfl:=Option.some.inj hab
   obtain ⟨arr,fr,hbk,hlen,hle,hcap,hcs⟩:=zbi hs ha
   refine run_firstCells_some (P:=P) w.drew i.size n ⟨b,off,none⟩ n x.cap _ (by rw [List.length_take];omega) (λj u hj=>?_)
   have hj2:j<(cs.take (n*i.size)).length:=(List.getElem?_eq_some_iff.1 hj).1
   rw [List.length_take] at hj2
   rw [List.getElem?_take,if_pos (by omega)] at hj
   have hbk':w.drew.heap[b]? = some (.cells arr T fr):=hbk
   rw [z23,z33 hbk',hcs j (by omega),hj]
 have hrun:=Lib.run_append_grow_zeros (P:=P) w t tn ty T i z .i64 .i64 ht htn hi hz x.a n x.cap _ hold k h0 hpos hg (by omega) (Nat.le_trans (Nat.mul_le_mul_right _ (Nat.le_add_left k n)) (by omega)) (growslice_fits (by omega) hb)
 have hge:=grownCap_ge w (n+k) x.cap T
 have hzl:(Builtin.zeroCells z.cells k).toList.length=k*i.size:=by rw [Array.length_toList,size_zeroCells,hzs]
 refine ⟨_,w.heap.size,(Builtin.zeroCells z.cells k).toList,_,hrun,hge,hzl,?_⟩
 have hp:=hs.push (w':=w.drew.alloc (.cells ((cs.take (n*i.size)).toArray++Builtin.zeroCells z.cells k++Builtin.zeroCells z.cells (grownCap w (n+k) x.cap T-(n+k))) T)) (o:=.cells ((cs.take (n*i.size)).toArray++Builtin.zeroCells z.cells k++Builtin.zeroCells z.cells (grownCap w (n+k) x.cap T-(n+k))) T) rfl
 have htl:(cs.take (n*i.size)).length=n*i.size:=by rw [List.length_take];omega
 refine hp.imp λp hp=>.inr ⟨w.heap.size,0,_,(0,0),rfl,hp,?_,hge,?_,λj hj=>?_,z2o _ _⟩
 ·rw [List.length_append,hzl,htl,<- Nat.add_mul]
 ·simp only [Array.size_append,List.size_toArray,size_zeroCells,hzs,htl,Nat.zero_add]
  rw [<- Nat.add_mul,<- Nat.add_mul]
  exact Nat.mul_le_mul_right _ (by omega)
 ·rw [Nat.zero_add]
  rw [List.length_append,hzl,htl] at hj
  rw [Array.getElem?_append_left (by simp only [Array.size_append,List.size_toArray,size_zeroCells,hzs,htl];omega)]
  by_cases hj1:j<n*i.size
  ·rw [Array.getElem?_append_left (by simp only [List.size_toArray,htl];exact hj1),List.getElem?_append_left (by rw [htl];exact hj1)]
   simp
  ·rw [Array.getElem?_append_right (by simp only [List.size_toArray,htl];omega),List.getElem?_append_right (by rw [htl];omega),Array.getElem?_toList]
   simp only [List.size_toArray]
theorem z07i {t:TypeId} {n:Nat} {ps:Array (Nat × Value)} {el:TypeId} {cells:Array Value} {k:Sl->Prog} (hs:Sat w l)
  (h:∀ b w',Sat w' (pt b (.cells cells el)::l)->S w'/\(k ⟨some ⟨b,0,none⟩,n,n⟩).wp P S w' Q) (hc:z42 P t n ps=some (el,cells):=by kernel_rfl):(Prog.act (Instr.buildSlice t n ps) sL (u1 k)).wp P S w Q:=by
 have h':=h _ _ (hs.push (o:=.cells cells el) (w':=w.alloc (.cells cells el)) rfl)
 exact ⟨(⟨some ⟨w.heap.size,0,none⟩,n,n⟩,()),_,zhk hc,h'.1,h'.2⟩
end
end Go.Dec
