/- What the claim of this folder leans on: our own texts, joined, without what it does not use. -/
import Derived.Test.YtogdpmpccmpekaaGreatQHold5
set_option linter.unusedVariables false
set_option linter.unusedSimpArgs false
namespace Go.Dec
def z5g (l:List SegA):Int:=match l.getLast? with
 | none=>0
 | some s=>s.base
def z6o (l:List SegA) (bs:List BatM):List SegA:=match l.getLast? with
 | none=>l
 | some s=>l.dropLast++[s.add bs]
def z13 (pre:ByteArray) (seg:Int) (l:List SegA) (D:DiskA) (bs:List BatM):(Int × Int) × List SegA × DiskA :=
 if bs=[] then ((0,3),l,D) else
 if (z05 (zy l) bs).1≠0 then ((0,(z05 (zy l) bs).1),l,D) else
 if z7b seg l ((z05 (zy l) bs).2.flatMap frL).length then
  if (z0a D (zw pre (z5g l) z06) ((z05 (zy l) bs).2.flatMap frL)).1≠0 then ((0,(z0a D (zw pre (z5g l) z06) ((z05 (zy l) bs).2.flatMap frL)).1),l,(z0a D (zw pre (z5g l) z06) ((z05 (zy l) bs).2.flatMap frL)).2)
  else ((zy l,0),z6o l (z05 (zy l) bs).2,(z0a D (zw pre (z5g l) z06) ((z05 (zy l) bs).2.flatMap frL)).2)
 else
  if (z0y pre l D).1≠0 then ((0,(z0y pre l D).1),l,(z0y pre l D).2) else
  if (z0a (z0y pre l D).2 (zw pre (zy l) z06) (shL (zy l) 0++(z05 (zy l) bs).2.flatMap frL)).1≠0 then ((0,(z0a (z0y pre l D).2 (zw pre (zy l) z06) (shL (zy l) 0++(z05 (zy l) bs).2.flatMap frL)).1),l,(z0a (z0y pre l D).2 (zw pre (zy l) z06) (shL (zy l) 0++(z05 (zy l) bs).2.flatMap frL)).2)
  else ((zy l,0),l++[(⟨zy l,0,[]⟩:SegA).add (z05 (zy l) bs).2],(z0a (z0y pre l D).2 (zw pre (zy l) z06) (shL (zy l) 0++(z05 (zy l) bs).2.flatMap frL)).2)
def LogA.set (A:LogA) (l:List SegA):LogA:=⟨A.d,A.pre,A.seg,A.gap,l⟩
theorem z0s.next:∀ {n:Int} {l:List SegA},0<=n->z0s n l->0<=zy l/\zy l<=1099511627777
 | _,[],_,_=>⟨by decide,by decide⟩
 | n,[s],hn,⟨h1,h2,_⟩=>by
  have:=z6i h2
  have:=h2.base
  show 0<=s.reach/\s.reach<=_
  omega
 | n,s::t::l,hn,⟨h1,h2,h3⟩=>by
  have:=h2.base
  have:=z0s.next (by omega) h3
  exact this
instance:EncF zp 0 (.int .i64) (λb=>b.base):=⟨λ_=>rfl⟩
section
variable {w:World} {l r:List HP} {lg:Nat} {M:LogM} {A:LogA} {D:DiskA} {gap:Int} {a:Nat} {t:SegM}
theorem zcq {SM0:List (Nat × SegM)} (h:M.SM=SM0++[(a,t)]) (hs:Sat w (lgQ lg M::l)):okM M.gap M.seg M.pre /\
  Sat w (z0o M.gap a t::pt lg (.cells #[.pointer (some ⟨M.d,0,none⟩),.string M.pre,.int .i64 M.seg,.int .i64 M.gap,.slice M.z.a M.z.len M.z.cap] T.a52)::slc T.a34 1 M.z ((SM0.map Prod.fst++[a]).flatMap z1o)::HP.all (SM0.map λt=>z0o M.gap t.1 t.2)::l):=by
 obtain ⟨hok,hs⟩:=z2y hs
 rw [h] at hs
 have h1:=(hs.pick [2]).all_perm ((List.perm_append_comm (l₁:=SM0) (l₂:=[(a,t)])).map λt=>z0o M.gap t.1 t.2)
 have h2:Sat w (z0o M.gap a t::HP.all (SM0.map λt=>z0o M.gap t.1 t.2)::_):=h1.all_cons
 rw [List.map_append] at h2
 exact ⟨hok,h2.pick [0,1,1]⟩
theorem zbf (M:LogM) {SM0:List (Nat × SegM)} (hok:okM M.gap M.seg M.pre) (hs:Sat w (z0o M.gap a t::pt lg (.cells #[.pointer (some ⟨M.d,0,none⟩),.string M.pre,.int .i64 M.seg,.int .i64 M.gap,.slice M.z.a M.z.len M.z.cap] T.a52)::slc T.a34 1 M.z ((SM0.map Prod.fst++[a]).flatMap z1o)::HP.all (SM0.map λt=>z0o M.gap t.1 t.2)::l)) :
  Sat w (lgQ lg { M with SM:=SM0++[(a,t)] }::l):=by
 have h1:Sat w (HP.all (((a,t)::SM0).map λt=>z0o M.gap t.1 t.2)::_):=(hs.pick [0,2]).all_put
 have h2:=h1.all_perm ((List.perm_append_comm (l₁:=[(a,t)]) (l₂:=SM0)).map λt=>z0o M.gap t.1 t.2)
 refine z1n { M with SM:=SM0++[(a,t)] } hok ?_
 show Sat w (pt lg _::slc T.a34 1 M.z (((SM0++[(a,t)]).map Prod.fst).flatMap z1o)::HP.all ((SM0++[(a,t)]).map λt=>z0o M.gap t.1 t.2)::l)
 rw [List.map_append]
 exact h2.pick [1,1]
theorem z7p {α:Type} {l:List α} (h:l≠[]):∃ (l0:List α) (x:α),l=l0++[x]:=⟨l.dropLast,l.getLast h,(List.dropLast_concat_getLast h).symm⟩
theorem zmi {fs:List (Sl × List UInt8)} (h:∀ p ∈ fs,FocR l p.1 1 (p.2.flatMap zi)):zah l (fs.map Prod.fst) (fs.map Prod.snd):=zmj (fs:=fs) h
theorem okM.size {g s:Int} {p:ByteArray} (h:okM g s p):p.size<=100:=by
 have:=h.pre
 unfold z5n at this
 rw [Bool.and_eq_true,decide_eq_true_eq] at this
 omega
set_option maxHeartbeats 1000000 in
theorem zwj (x:Sl) (bs:List BatM) {r1:List HP} [hf:Fo l lgP lg A r1] [hf2:Fo r1 dk A.d D r] (hlen:A.l.length<=1000000) (hok:z0s 0 A.l) (hfl:∀ s ∈ A.l,s.file.length<=500000000) (hbl:bs.length<=900)
  (hx:FocR r x 7 (bs.flatMap zp)) (hbs:∀ b ∈ bs,FocR r b.x 4 (b.rs.flatMap z01)) (hs:Sat w l) :
  Ret P F.a115 #[.pointer (some ⟨lg,0,none⟩),x.v] w λvs w'=>vs=[.int .i64 (z13 A.pre A.seg A.l D bs).1.1,.int .i64 (z13 A.pre A.seg A.l D bs).1.2] /\
   Sat w' (lgP lg (A.set (z13 A.pre A.seg A.l D bs).2.1)::dk A.d (z13 A.pre A.seg A.l D bs).2.2::r) :=
 znz _ x <| by
  delta z01r AA AB AC AD AI AJ AK AL AM AR AX Aa Ab Ac Ad Ae Af Ag Ai Aj Ak Al Am Ao Ap Aq Aw Bb Bh Bk
  have hs:=hs.perm (hf.perm.trans (.cons _ hf2.perm))
  clear hf hf2
  obtain ⟨M,rfl,hs⟩:=z8d hs
  have hlxs:=hs.slen x (xs:=bs) (enc:=zp)
  have hMl:M.A.l=M.l:=rfl
  have hMpre:M.A.pre=M.pre:=rfl
  have hMseg:M.A.seg=M.seg:=rfl
  have hMd:M.A.d=M.d:=rfl
  rw [hMl] at hlen hok hfl ⊢
  rw [hMpre,hMseg,hMd]
  rw [hMd] at hs
  have hll:M.l.length=M.SM.length:=List.length_map ..
  have hnx:=hok.next (Int.le_refl 0)
  have hsame:∀ {w:World} {D':DiskA},Sat w (lgQ lg M::dk M.d D'::r)->Sat w (lgP lg (M.A.set M.l)::dk M.d D'::r):=λhs=>z4p M hs
  unfold z13
  refine zu ?_ (by simp)
  refine zh (λh=>?_) λh=>?_
  ·have:bs=[]:=List.length_eq_zero_iff.1 (by omega)
   rw [if_pos this]
   exact ⟨rfl,rfl,hsame hs⟩
  rw [if_neg (by rintro rfl;simp at hlxs;omega)]
  have hx':FocR (dk M.d D::r) x 7 (bs.flatMap zp):=inferInstance
  refine zb (zzp (lg:=lg) x bs (by omega) (by omega) inferInstance (λb hb=>by have:=hbs b hb;infer_instance) hs) λ_ w' hs=>?_
  have hplo:=zdm (bs:=bs) (n:=zy M.l)
  rcases hs with ⟨he,rfl,hs⟩|⟨he,z1,z2,fs,rfl,hfs,hs⟩
  ·refine zd ?_
   refine wp_lt ?_
   refine z0p ?_ he
   refine wp_lt ?_
   rw [if_pos he]
   exact ⟨rfl,rfl,hsame hs⟩
  refine zd ?_
  refine wp_lt ?_
  refine zu ?_ (by simp)
  rw [if_neg (by rw [he];simp)]
  obtain ⟨hp1,hp2,hp3⟩:=hplo he
  have hbl0:0<bs.length:=by
   apply Nat.pos_of_ne_zero
   intro h0
   rw [h0] at hlxs
   omega
  generalize hn0:zy M.l=n0 at *
  generalize hPL:z05 n0 bs=PL at *
  obtain ⟨e0,q⟩:=PL
  have he:e0=0:=he
  subst he
  dsimp only at hp1 hp2 hp3 hfs hs ⊢
  have hsum:=zpx λb hb=>(hp2 b hb).1
  have hfsl:fs.length=q.length:=by have:=congrArg List.length hfs;simpa using this
  have hfl1:=hs.slen z2 (xs:=fs.map Prod.fst) (enc:=z0c)
  rw [List.length_map] at hfl1
  have hfget:∀ (i:Nat) (h:i<fs.length),fs[i].2=frL (q[i]'(by omega)):=λi h=>by
   have:=List.getElem_of_eq hfs (i:=i) (by rw [List.length_map];exact h)
   simpa using this
  have hfsum:∀ i,((q.take i).flatMap frL).length<=(q.flatMap frL).length:=λi=>by
   have:(q.flatMap frL)=(q.take i).flatMap frL++(q.drop i).flatMap frL:=by rw [<- List.flatMap_append,List.take_append_drop]
   rw [this,List.length_append];omega
  refine zl (λv w'=>v=(((q.flatMap frL).length:Int),())/\Sat w' (slc T.a0 7 z1 (q.flatMap zp)::slc T.a50 1 z2 ((fs.map Prod.fst).flatMap z0c)::HP.all (fs.map frP)::lgQ lg M::dk M.d D::r)) ?_ ?_
  ·refine z03 (λm v w=>∃ i:Nat,v=((((q.take i).flatMap frL).length:Int),((i:Int),()))/\i<=q.length/\q.length-i=m/\Sat w (slc T.a0 7 z1 (q.flatMap zp)::slc T.a50 1 z2 ((fs.map Prod.fst).flatMap z0c)::HP.all (fs.map frP)::lgQ lg M::dk M.d D::r)) q.length ⟨0,rfl,by omega,rfl,hs⟩ ?_
   clear hs
   rintro m _ w ⟨i,rfl,hi,hm,hs⟩
   refine zk ?_
   refine zh (λhc=>?_) λhc=>?_
   rotate_left
   ·refine zo (zf ⟨?_,hs⟩)
    rw [List.take_of_length_le (by omega)]
   have hil:i<q.length:=by omega
   have hil2:i<fs.length:=by omega
   refine z1z hs (xs:=fs.map Prod.fst) (enc:=z0c) i (by rw [List.length_map];omega) ?_
   have e1:(fs.map Prod.fst)[i]'(by rw [List.length_map];omega)=fs[i].1:=by simp
   rw [e1]
   have hR:FocR (HP.all (fs.map frP)::lgQ lg M::dk M.d D::r) fs[i].1 1 (fs[i].2.flatMap zi):=zg6 (List.getElem_mem hil2)
   have hl2:=hs.slen fs[i].1 (xs:=fs[i].2) (enc:=zi)
   rw [hfget i hil2] at hl2
   have hfi:((q.take (i+1)).flatMap frL).length=((q.take i).flatMap frL).length+(frL q[i]).length:=by
    rw [List.take_succ_eq_append_getElem hil,List.flatMap_append,List.length_append];simp
   have:=hfsum (i+1)
   rw [hl2,w64 (by omega) (by omega)]
   refine wp_lt ?_
   rw [wS (i:=i) (by omega)]
   have ec:(((q.take i).flatMap frL).length:Int)+((frL q[i]).length:Nat)=(((q.take (i+1)).flatMap frL).length:Int):=by rw [hfi];omega
   rw [ec]
   exact z0l (q.length-(i+1)) ⟨i+1,rfl,by omega,rfl,hs⟩
  clear hs
  rintro _ w ⟨rfl,hs⟩
  refine zk ?_
  refine zb (zgs (lg:=lg) (by omega) hs) λ_ w' hs=>?_
  obtain ⟨rfl,hs⟩:=hs
  refine zd ?_
  refine zb (z06f (lg:=lg) (q.flatMap frL).length (by omega) (by omega) (λs hs'=>by have:=hfl s hs';omega) hs) λ_ w' hs=>?_
  obtain ⟨rfl,hs⟩:=hs
  refine zd ?_
  generalize hF:q.flatMap frL=Fr at *
  have hbsl:fs.map Prod.snd=q.map frL:=hfs
  have hflat:(fs.map Prod.snd).flatten=Fr:=by rw [hfs,<- hF,List.flatMap]
  have hlbound:∀ p ∈ fs,p.2.length<=262152:=λp hp=>by
   obtain ⟨i,hi,rfl⟩:=List.mem_iff_getElem.1 hp
   rw [hfget i hi]
   have:=z6r (hp2 _ (List.getElem_mem (show i<q.length by omega))).1
   have:=z7d (hp2 _ (List.getElem_mem (show i<q.length by omega))).1
   omega
  refine zl (λv w'=>∃ (M1:LogM) (SM0:List (Nat × SegM)) (a:Nat) (t:SegM) (D1:DiskA),v=(some ⟨a,0,none⟩,())/\M1.SM=SM0++[(a,t)]/\t.s.file.length<=600000000 /\
    (if z7b M.seg M.l Fr.length then
     if (z0a D (zw M.pre (z5g M.l) z06) Fr).1≠0 then ((0,(z0a D (zw M.pre (z5g M.l) z06) Fr).1),M.l,(z0a D (zw M.pre (z5g M.l) z06) Fr).2)
     else ((n0,(0:Int)),z6o M.l q,(z0a D (zw M.pre (z5g M.l) z06) Fr).2)
    else
     if (z0y M.pre M.l D).1≠0 then ((0,(z0y M.pre M.l D).1),M.l,(z0y M.pre M.l D).2) else
     if (z0a (z0y M.pre M.l D).2 (zw M.pre n0 z06) (shL n0 0++Fr)).1≠0 then ((0,(z0a (z0y M.pre M.l D).2 (zw M.pre n0 z06) (shL n0 0++Fr)).1),M.l,(z0a (z0y M.pre M.l D).2 (zw M.pre n0 z06) (shL n0 0++Fr)).2)
     else ((n0,0),M.l++[(⟨n0,0,[]⟩:SegA).add q],(z0a (z0y M.pre M.l D).2 (zw M.pre n0 z06) (shL n0 0++Fr)).2))=((n0,0),(SM0.map λt=>t.2.s)++[t.s.add q],D1) /\
    (M1.d=M.d/\M1.pre=M.pre/\M1.seg=M.seg/\M1.gap=M.gap) /\
    Sat w' (lgQ lg M1::dk M.d D1::slc T.a0 7 z1 (q.flatMap zp)::slc T.a50 1 z2 ((fs.map Prod.fst).flatMap z0c)::HP.all (fs.map frP)::r)) ?_ ?_
  ·refine zh (λhr=>?_) λhr=>?_
   ·
    have hr:z7b M.seg M.l Fr.length=false:=by simpa using hr
    rw [if_neg (by rw [hr];simp)]
    have hs:Sat w' (lgQ lg M::slc T.a0 7 z1 (q.flatMap zp)::slc T.a50 1 z2 ((fs.map Prod.fst).flatMap z0c)::HP.all (fs.map frP)::dk M.d D::r):=hs
    refine zb (zqk (lg:=lg) (D:=D) (by omega) hok hs) λ_ w' hs=>?_
    obtain ⟨rfl,hs⟩:=hs
    refine zd ?_
    refine wp_lt ?_
    refine zh (λh2=>?_) λh2=>?_
    ·refine wp_lt ?_
     rw [if_pos h2]
     refine zo ⟨rfl,rfl,hsame hs.sub⟩
    rw [if_neg h2]
    generalize (z0y M.pre M.l D).2=D1 at *
    refine zb (zbg (lg:=lg) (by omega) hs) λ_ w' hs=>?_
    obtain ⟨rfl,hs⟩:=hs
    refine zd ?_
    rw [hn0]
    refine zb (zm4 (lg:=lg) n0 0 (by omega) (by omega) hs) λ_ w' hs=>?_
    obtain ⟨a,ix,rfl,hs⟩:=hs
    refine zd ?_
    have hshl:=z05f n0 0
    refine zl (λv w'=>v=((z0a D1 (zw M.pre n0 z06) (shL n0 0++Fr)).1,())/\Sat w' (z0o M.gap a ⟨ix,⟨n0,0,[]⟩⟩::lgQ lg M::dk M.d (z0a D1 (zw M.pre n0 z06) (shL n0 0++Fr)).2::slc T.a0 7 z1 (q.flatMap zp)::slc T.a50 1 z2 ((fs.map Prod.fst).flatMap z0c)::HP.all (fs.map frP)::r)) ?_ ?_
    ·obtain ⟨hokm,hs⟩:=z2y (hs.pick [1])
     have hs:=z4b (hs.pick [3])
     refine zv hs λw' hs=>?_
     refine zj ?_
     refine z14 hs ?_
     refine zj ?_
     refine z8 hs ?_
     refine zj ?_
     refine z14 hs ?_
     refine zb (z8f (lg:=lg) n0 (by omega) (ByteArray.mk #[46,108,111,103]) (by decide) M.pre hokm.size hs) λ_ w' hs=>?_
     obtain ⟨rfl,hs⟩:=hs
     refine zd ?_ (by first|trivial|(repeat (first|exact trivial|exact λ_=>z08 hs|exact λ_=>z0f hs|refine And.intro ?_ ?_)))
     refine zb (zlt n0 0 (by omega) (by omega) hs) λ_ w' hs=>?_
     obtain ⟨y,rfl,hs⟩:=hs
     refine zd ?_ (by first|trivial|(repeat (first|exact trivial|exact λ_=>z08 hs|exact λ_=>z0f hs|refine And.intro ?_ ?_)))
     refine z7r hs (enc:=z0c) [y] λy2 w' hs=>⟨(by first|trivial|(repeat (first|exact trivial|exact λ_=>z08 hs|exact λ_=>z0f hs|refine And.intro ?_ ?_))),?_⟩
     refine z05o (xs:=[y]) (ys:=fs.map Prod.fst) (enc:=z0c) hs (λy3 w' hs=>⟨(by first|trivial|(repeat (first|exact trivial|exact λ_=>z08 hs|exact λ_=>z0f hs|refine And.intro ?_ ?_))),?_⟩) (by rw [List.length_map];simp only [List.length_cons,List.length_nil];omega)
     refine ze ?_
     have hs:Sat w' (dk M.d D1::slc T.a50 1 y3 (([y]++fs.map Prod.fst).flatMap z0c)::slc T.a58 1 y ((shL n0 0).flatMap zi)::HP.all (fs.map frP)::pt a (.cells #[.pointer (some ⟨ix,0,none⟩),.int .i64 n0,.int .i64 0,.int .i64 (z0n []),.int .i64 (z1g (-1) []),.int .i64 ((SegA.file ⟨n0,0,[]⟩).length:Nat)] T.a53)::z2n ix ((SegA.mk n0 0 []).idx M.gap)::pt lg (.cells #[.pointer (some ⟨M.d,0,none⟩),.string M.pre,.int .i64 M.seg,.int .i64 M.gap,.slice M.z.a M.z.len M.z.cap] T.a52)::slc T.a34 1 M.z ((M.SM.map Prod.fst).flatMap z1o)::HP.all (M.SM.map λt=>z0o M.gap t.1 t.2)::slc T.a0 7 z1 (q.flatMap zp)::slc T.a50 1 z2 ((fs.map Prod.fst).flatMap z0c)::r):=hs.sub
     have hall:∀ p ∈ ((y,shL n0 0)::fs),FocR (slc T.a50 1 y3 (([y]++fs.map Prod.fst).flatMap z0c)::slc T.a58 1 y ((shL n0 0).flatMap zi)::HP.all (fs.map frP)::pt a (.cells #[.pointer (some ⟨ix,0,none⟩),.int .i64 n0,.int .i64 0,.int .i64 (z0n []),.int .i64 (z1g (-1) []),.int .i64 ((SegA.file ⟨n0,0,[]⟩).length:Nat)] T.a53)::z2n ix ((SegA.mk n0 0 []).idx M.gap)::pt lg (.cells #[.pointer (some ⟨M.d,0,none⟩),.string M.pre,.int .i64 M.seg,.int .i64 M.gap,.slice M.z.a M.z.len M.z.cap] T.a52)::slc T.a34 1 M.z ((M.SM.map Prod.fst).flatMap z1o)::HP.all (M.SM.map λt=>z0o M.gap t.1 t.2)::slc T.a0 7 z1 (q.flatMap zp)::slc T.a50 1 z2 ((fs.map Prod.fst).flatMap z0c)::r) p.1 1 (p.2.flatMap zi):=λp hp=>by
      rcases List.mem_cons.1 hp with rfl|hp
      ·infer_instance
      ·have:FocR (HP.all (fs.map frP)::pt a (.cells #[.pointer (some ⟨ix,0,none⟩),.int .i64 n0,.int .i64 0,.int .i64 (z0n []),.int .i64 (z1g (-1) []),.int .i64 ((SegA.file ⟨n0,0,[]⟩).length:Nat)] T.a53)::z2n ix ((SegA.mk n0 0 []).idx M.gap)::pt lg (.cells #[.pointer (some ⟨M.d,0,none⟩),.string M.pre,.int .i64 M.seg,.int .i64 M.gap,.slice M.z.a M.z.len M.z.cap] T.a52)::slc T.a34 1 M.z ((M.SM.map Prod.fst).flatMap z1o)::HP.all (M.SM.map λt=>z0o M.gap t.1 t.2)::slc T.a0 7 z1 (q.flatMap zp)::slc T.a50 1 z2 ((fs.map Prod.fst).flatMap z0c)::r) p.1 1 (p.2.flatMap zi):=zg6 hp
       infer_instance
     have hpsF:FocR (slc T.a50 1 y3 (([y]++fs.map Prod.fst).flatMap z0c)::slc T.a58 1 y ((shL n0 0).flatMap zi)::HP.all (fs.map frP)::pt a (.cells #[.pointer (some ⟨ix,0,none⟩),.int .i64 n0,.int .i64 0,.int .i64 (z0n []),.int .i64 (z1g (-1) []),.int .i64 ((SegA.file ⟨n0,0,[]⟩).length:Nat)] T.a53)::z2n ix ((SegA.mk n0 0 []).idx M.gap)::pt lg (.cells #[.pointer (some ⟨M.d,0,none⟩),.string M.pre,.int .i64 M.seg,.int .i64 M.gap,.slice M.z.a M.z.len M.z.cap] T.a52)::slc T.a34 1 M.z ((M.SM.map Prod.fst).flatMap z1o)::HP.all (M.SM.map λt=>z0o M.gap t.1 t.2)::slc T.a0 7 z1 (q.flatMap zp)::slc T.a50 1 z2 ((fs.map Prod.fst).flatMap z0c)::r) y3 1 ((((y,shL n0 0)::fs).map Prod.fst).flatMap zfe):=(inferInstance:FocR _ y3 1 (([y]++fs.map Prod.fst).flatMap z0c))
     refine zb (zl3 (d:=M.d) (A:=D1) (zw M.pre n0 (bl (ByteArray.mk #[46,108,111,103]))) y3 (((y,shL n0 0)::fs).map Prod.fst) (((y,shL n0 0)::fs).map Prod.snd) (hps:=hpsF) (zmi hall) (by simp only [List.length_map,List.length_cons];omega) (λb hb=>?_) hs) λ_ w' hs=>?_
     ·obtain ⟨p,hp,rfl⟩:=List.mem_map.1 hb
      rcases List.mem_cons.1 hp with rfl|hp
      ·show (shL n0 0).length<=_;omega
      ·have:=hlbound p hp;omega
     obtain ⟨rfl,hs⟩:=hs
     refine zd ?_
     refine wp_lt ?_
     refine ze ?_
     have e2:(((y,shL n0 0)::fs).map Prod.snd).flatten=shL n0 0++Fr:=by rw [List.map_cons,List.flatten_cons,hflat]
     rw [e2] at hs ⊢
     refine zf ⟨rfl,?_⟩
     have hs:Sat w' (dk M.d (z0a D1 (zw M.pre n0 z06) (shL n0 0++Fr)).2::slc T.a50 1 y3 _::slc T.a58 1 y _::HP.all (fs.map frP)::pt a _::z2n ix _::pt lg _::slc T.a34 1 M.z _::HP.all (M.SM.map λt=>z0o M.gap t.1 t.2)::slc T.a0 7 z1 (q.flatMap zp)::slc T.a50 1 z2 ((fs.map Prod.fst).flatMap z0c)::r):=hs
     have hs:=z1n M hokm (hs.pick [6,6,6])
     have hs:Sat w' (z0o M.gap a ⟨ix,⟨n0,0,[]⟩⟩::lgQ lg M::dk M.d _::slc T.a50 1 y3 _::slc T.a58 1 y _::HP.all (fs.map frP)::slc T.a0 7 z1 (q.flatMap zp)::slc T.a50 1 z2 ((fs.map Prod.fst).flatMap z0c)::r):=z2s ⟨ix,⟨n0,0,[]⟩⟩ (hs.pick [5,5])
     exact hs.sub
    rintro _ w2 ⟨rfl,hs⟩
    refine zh (λh3=>?_) λh3=>?_
    ·refine wp_lt ?_
     rw [if_pos h3]
     refine zo ⟨rfl,rfl,hsame hs.sub⟩
    rw [if_neg h3]
    have hs:=hs.pick [1]
    refine zb (z017 (lg:=lg) a ⟨ix,⟨n0,0,[]⟩⟩ (by omega) hs) λ_ w' hs=>?_
    obtain ⟨z,rfl,hs⟩:=hs
    refine zd ?_
    refine zf ⟨{ M with z:=z,SM:=M.SM++[(a,⟨ix,⟨n0,0,[]⟩⟩)] },M.SM,a,⟨ix,⟨n0,0,[]⟩⟩,(z0a D1 (zw M.pre n0 z06) (shL n0 0++Fr)).2,rfl,rfl,?_,rfl,⟨rfl,rfl,rfl,rfl⟩,hs⟩
    rw [z49]
    simp only [List.flatMap_nil,List.length_nil]
    omega
   ·
    have hr:z7b M.seg M.l Fr.length=true:=by simpa using hr
    rw [if_pos hr]
    have h0:M.SM≠[]:=by
     intro h0
     have:M.l=[]:=by unfold LogM.l;rw [h0];rfl
     rw [this] at hr
     cases hr
    obtain ⟨SM0,⟨a,t⟩,hSM⟩:=z7p h0
    have hl1:M.l=SM0.map (λt=>t.2.s)++[t.s]:=by unfold LogM.l;rw [hSM];simp
    have hbase:z5g M.l=t.s.base:=by unfold z5g;rw [hl1,z1x]
    have hadd:z6o M.l q=SM0.map (λt=>t.2.s)++[t.s.add q]:=by unfold z6o;rw [hl1,z1x];simp
    have hlst:M.SM.getLast? = some (a,t):=by rw [hSM,z1x]
    rw [hlst]
    have htm:t.s ∈ M.l:=by rw [hl1];simp
    have htb:=(hok.mem _ htm).1.base
    have htf:=hfl _ htm
    refine zl (λv w'=>v=((z0a D (zw M.pre (z5g M.l) z06) Fr).1,())/\Sat w' (lgQ lg M::dk M.d (z0a D (zw M.pre (z5g M.l) z06) Fr).2::slc T.a0 7 z1 (q.flatMap zp)::slc T.a50 1 z2 ((fs.map Prod.fst).flatMap z0c)::HP.all (fs.map frP)::r)) ?_ ?_
    ·obtain ⟨hokm,hs⟩:=zcq hSM hs
     have hs:=z4b hs
     refine zv hs λw' hs=>?_
     refine zj ?_
     refine z14 hs ?_
     refine zj ?_
     refine z8 hs ?_
     refine zb (z8f (lg:=lg) t.s.base (by omega) (ByteArray.mk #[46,108,111,103]) (by decide) M.pre hokm.size hs) λ_ w' hs=>?_
     obtain ⟨rfl,hs⟩:=hs
     refine zd ?_ (by first|trivial|(repeat (first|exact trivial|exact λ_=>z08 hs|exact λ_=>z0f hs|refine And.intro ?_ ?_)))
     refine ze ?_
     have hs:=hs.pick [8]
     have hall:∀ p ∈ fs,FocR (pt a (.cells #[.pointer (some ⟨t.ix,0,none⟩),.int .i64 t.s.base,.int .i64 t.s.fin,.int .i64 (z0n t.s.bs),.int .i64 (z1g (-1) t.s.bs),.int .i64 (t.s.file.length:Nat)] T.a53)::z2n t.ix (t.s.idx M.gap)::pt lg (.cells #[.pointer (some ⟨M.d,0,none⟩),.string M.pre,.int .i64 M.seg,.int .i64 M.gap,.slice M.z.a M.z.len M.z.cap] T.a52)::slc T.a34 1 M.z ((SM0.map Prod.fst++[a]).flatMap z1o)::HP.all (SM0.map λt=>z0o M.gap t.1 t.2)::slc T.a0 7 z1 (q.flatMap zp)::slc T.a50 1 z2 ((fs.map Prod.fst).flatMap z0c)::HP.all (fs.map frP)::r) p.1 1 (p.2.flatMap zi):=λp hp=>by
      have:FocR (HP.all (fs.map frP)::r) p.1 1 (p.2.flatMap zi):=zg6 hp
      infer_instance
     have hpsF:FocR (pt a (.cells #[.pointer (some ⟨t.ix,0,none⟩),.int .i64 t.s.base,.int .i64 t.s.fin,.int .i64 (z0n t.s.bs),.int .i64 (z1g (-1) t.s.bs),.int .i64 (t.s.file.length:Nat)] T.a53)::z2n t.ix (t.s.idx M.gap)::pt lg (.cells #[.pointer (some ⟨M.d,0,none⟩),.string M.pre,.int .i64 M.seg,.int .i64 M.gap,.slice M.z.a M.z.len M.z.cap] T.a52)::slc T.a34 1 M.z ((SM0.map Prod.fst++[a]).flatMap z1o)::HP.all (SM0.map λt=>z0o M.gap t.1 t.2)::slc T.a0 7 z1 (q.flatMap zp)::slc T.a50 1 z2 ((fs.map Prod.fst).flatMap z0c)::HP.all (fs.map frP)::r) z2 1 ((fs.map Prod.fst).flatMap zfe):=(inferInstance:FocR _ z2 1 ((fs.map Prod.fst).flatMap z0c))
     refine zb (zl3 (d:=M.d) (A:=D) (zw M.pre t.s.base (bl (ByteArray.mk #[46,108,111,103]))) z2 (fs.map Prod.fst) (fs.map Prod.snd) (hps:=hpsF) (zmi hall) (by simp only [List.length_map];omega) (λb hb=>?_) hs) λ_ w' hs=>?_
     ·obtain ⟨p,hp,rfl⟩:=List.mem_map.1 hb
      have:=hlbound p hp;omega
     obtain ⟨rfl,hs⟩:=hs
     refine zd ?_
     refine wp_lt ?_
     refine ze ?_
     rw [hflat] at hs ⊢
     refine zf ⟨by rw [hbase];rfl,?_⟩
     rw [hbase]
     have hs:Sat w' (dk M.d (z0a D (zw M.pre t.s.base z06) Fr).2::pt a _::z2n t.ix _::pt lg _::slc T.a34 1 M.z _::HP.all (SM0.map λt=>z0o M.gap t.1 t.2)::slc T.a0 7 z1 (q.flatMap zp)::slc T.a50 1 z2 ((fs.map Prod.fst).flatMap z0c)::HP.all (fs.map frP)::r):=hs
     have hs:=zbf M hokm (z2s t (hs.pick [1,1]) |>.pick [0,1,1,1])
     have e:{ M with SM:=SM0++[(a,t)] }=M:=by rw [<- hSM]
     rw [e] at hs
     exact hs.sub
    rintro _ w2 ⟨rfl,hs⟩
    refine zh (λh3=>?_) λh3=>?_
    ·refine wp_lt ?_
     rw [if_pos h3]
     refine zo ⟨rfl,rfl,hsame hs.sub⟩
    rw [if_neg h3]
    refine zf ⟨M,SM0,a,t,(z0a D (zw M.pre (z5g M.l) z06) Fr).2,rfl,hSM,by omega,by rw [hadd],⟨rfl,rfl,rfl,rfl⟩,hs⟩
  rintro _ w2 ⟨M1,SM0,a,t,D1,rfl,hSM,htl,hres,⟨hd1,hd2,hd3,hd4⟩,hs⟩
  clear hsame
  rw [hres]
  obtain ⟨hokm,hs⟩:=zcq hSM hs
  have hF2:∀ i,((q.take i).flatMap frL).length<=Fr.length:=hfsum
  have hlq:=hs.slen z1 (xs:=q) (enc:=zp)
  refine zl (λ_ w'=>Sat w' (z0o M1.gap a ⟨t.ix,t.s.add q⟩::pt lg (.cells #[.pointer (some ⟨M1.d,0,none⟩),.string M1.pre,.int .i64 M1.seg,.int .i64 M1.gap,.slice M1.z.a M1.z.len M1.z.cap] T.a52)::slc T.a34 1 M1.z ((SM0.map Prod.fst++[a]).flatMap z1o)::HP.all (SM0.map λt=>z0o M1.gap t.1 t.2)::dk M.d D1::slc T.a0 7 z1 (q.flatMap zp)::slc T.a50 1 z2 ((fs.map Prod.fst).flatMap z0c)::HP.all (fs.map frP)::r)) ?_ ?_
  ·refine z03 (λm v w=>∃ i:Nat,v=((i:Int),())/\i<=q.length/\q.length-i=m/\Sat w (z0o M1.gap a ⟨t.ix,t.s.add (q.take i)⟩::pt lg (.cells #[.pointer (some ⟨M1.d,0,none⟩),.string M1.pre,.int .i64 M1.seg,.int .i64 M1.gap,.slice M1.z.a M1.z.len M1.z.cap] T.a52)::slc T.a34 1 M1.z ((SM0.map Prod.fst++[a]).flatMap z1o)::HP.all (SM0.map λt=>z0o M1.gap t.1 t.2)::dk M.d D1::slc T.a0 7 z1 (q.flatMap zp)::slc T.a50 1 z2 ((fs.map Prod.fst).flatMap z0c)::HP.all (fs.map frP)::r)) q.length ⟨0,rfl,by omega,rfl,by rw [List.take_zero,zhp];exact hs⟩ ?_
   clear hs
   rintro m _ w ⟨i,rfl,hi,hm,hs⟩
   refine zk ?_
   refine zh (λhc=>?_) λhc=>?_
   rotate_left
   ·refine zo (zf ?_)
    rwa [List.take_of_length_le (by omega)] at hs
   have hil:i<q.length:=by omega
   have hil2:i<fs.length:=by omega
   refine z1s hs (xs:=q) (enc:=zp) i hil ?_
   refine zn hs λc w' hs=>?_
   refine wp_lt ?_
   refine zm hs λw' hs=>?_
   refine zv hs λw' hs=>?_
   refine zg hs ?_
   refine z1z hs (xs:=fs.map Prod.fst) (enc:=z0c) i (by rw [List.length_map];omega) ?_
   have e1:(fs.map Prod.fst)[i]'(by rw [List.length_map];omega)=fs[i].1:=by simp
   rw [e1]
   have hR:FocR (HP.all (fs.map frP)::r) fs[i].1 1 (fs[i].2.flatMap zi):=zg6 (List.getElem_mem hil2)
   have hl2:=hs.slen fs[i].1 (xs:=fs[i].2) (enc:=zi)
   rw [hfget i hil2] at hl2
   rw [hl2]
   obtain ⟨hvq,c0,hc0,hcx,hcr⟩:=hp2 q[i] (List.getElem_mem hil)
   have hRb:FocR r q[i].x 4 (q[i].rs.flatMap z01):=by rw [hcx,hcr];exact hbs c0 hc0
   have hfi:((q.take (i+1)).flatMap frL).length=((q.take i).flatMap frL).length+(frL q[i]).length:=by
    rw [List.take_succ_eq_append_getElem hil,List.flatMap_append,List.length_append];simp
   have:=hF2 (i+1)
   refine zb (zxl (gap:=M1.gap) (a:=a) q[i] hvq (by show (t.s.add (q.take i)).file.length+_<=_;rw [za0,List.length_append];omega) hs) λ_ w' hs=>?_
   obtain ⟨rfl,hs⟩:=hs
   refine zd ?_
   refine ze ?_
   rw [wS (i:=i) (by omega)]
   refine z0l (q.length-(i+1)) ⟨i+1,rfl,by omega,rfl,?_⟩
   have e2:(t.s.add (q.take i)).add [q[i]]=t.s.add (q.take (i+1)):=by rw [add_add,List.take_succ_eq_append_getElem hil]
   have hs:Sat w' (z0o M1.gap a ⟨t.ix,(t.s.add (q.take i)).add [q[i]]⟩::_):=hs
   rw [e2] at hs
   exact hs.sub
  clear hs
  rintro _ w3 hs
  refine zk ?_
  refine z05q hs (xs:=q) (enc:=zp) 0 (by omega) ?_
  refine wp_lt ?_
  have hq0:(q[0]'(by omega)).base=n0:=hp3 _ (by rw [List.head?_eq_getElem?,List.getElem?_eq_getElem])
  rw [hq0]
  refine ⟨rfl,rfl,?_⟩
  have hs:=z4p _ (zbf M1 hokm hs)
  have eA:LogM.A { M1 with SM:=SM0++[(a,(⟨t.ix,t.s.add q⟩:SegM))] }=M.A.set ((SM0.map λt=>t.2.s)++[t.s.add q]):=by
   unfold LogM.A LogM.l LogA.set
   simp only [List.map_append,List.map_cons,List.map_nil,hd1,hd2,hd3,hd4]
  rw [eA] at hs
  exact hs.sub
end
def z32 (s:SegA) (k:Nat):Nat:=(shL s.base s.fin).length+((s.bs.take k).flatMap frL).length
def z0d (l:List SegA):List BatM:=l.flatMap SegA.bs
def z3h (l:List SegA) (off most:Int):Int × List BatM:=if most<1 then (2,[]) else if off<z0t l\/off>zy l then (8,[]) else (0,((z0d l).filterMap (z0k off)).take most.toNat)
def zx2 (s:SegA) (o:Option EntA):Int:=match o with
 | none=>((shL s.base s.fin).length:Int)
 | some e=>e.place
theorem zx3 (s:SegA):z32 s 0=(shL s.base s.fin).length:=by simp [z32]
theorem zzs (s:SegA):z32 s s.bs.length=s.file.length:=by unfold z32;rw [List.take_length,z49]
theorem zjq (s:SegA) {k:Nat} (hk:k<s.bs.length):z32 s (k+1)=z32 s k+(frL s.bs[k]).length:=by
 unfold z32
 rw [List.take_succ_eq_append_getElem hk,List.flatMap_append,List.length_append]
 simp
 omega
theorem zib (s:SegA) (k:Nat):z32 s k<=s.file.length:=by
 unfold z32
 rw [z49]
 have:(s.bs.flatMap frL)=(s.bs.take k).flatMap frL++(s.bs.drop k).flatMap frL:=by rw [<- List.flatMap_append,List.take_append_drop]
 rw [this,List.length_append];omega
theorem zw3 (s:SegA) (k:Nat):s.file.drop (z32 s k)=(s.bs.drop k).flatMap frL:=by
 have e:s.file=(shL s.base s.fin++(s.bs.take k).flatMap frL)++(s.bs.drop k).flatMap frL:=by
  unfold SegA.file
  rw [List.append_assoc,<- List.flatMap_append,List.take_append_drop]
 rw [e]
 exact List.drop_left' (by rw [List.length_append];rfl)
theorem zs8 {s:SegA} (h:SegOk s) {k:Nat} (hk:k<s.bs.length):z15 (s.file.drop (z32 s k))=some (z2w s.bs[k],(frL s.bs[k]).length)/\z63 (z2w s.bs[k])=some s.bs[k]:=by
 obtain ⟨hv,hp⟩:=h.bs.valid s.bs[k] (List.getElem_mem hk)
 have hl:=z7d hv
 have hf:=z6r hv
 refine ⟨?_,by rw [zix hv,hp]⟩
 rw [zw3,List.drop_eq_getElem_cons hk,List.flatMap_cons,hf.2]
 exact z9i hl.2 _
theorem z1w.lt:∀ {n:Int} {bs:List BatM},z1w n bs->∀ (j i:Nat) (hi:i<bs.length) (hj:j<i),n<=(bs[j]'(by omega)).base/\(bs[j]'(by omega)).base+zt (bs[j]'(by omega))<=bs[i].base
 | n,b::bs,⟨h1,h2,h3,h4⟩,0,i+1,hi,hj=>by
  refine ⟨h3,?_⟩
  simp only [List.getElem_cons_zero,List.getElem_cons_succ]
  have hi:i<bs.length:=by simpa using hi
  obtain ⟨s1,-,-,-,-⟩:=z16 b h1
  cases i with
  | zero =>
   cases bs with
   | nil=>simp at hi
   | cons c cs=>exact h4.2.2.1
  | succ i =>
   have:=(h4.lt 0 (i+1) hi (by omega)).1
   have h5:=(h4.lt 0 (i+1) hi (by omega)).2
   obtain ⟨s2,-,-,-,-⟩:=z16 _ (h4.valid _ (List.getElem_mem (show 0<bs.length by omega))).1
   omega
 | n,b::bs,⟨h1,h2,h3,h4⟩,j+1,i+1,hi,hj=>by
  simp only [List.getElem_cons_succ]
  have hi:i<bs.length:=by simpa using hi
  have:=h4.lt j i hi (by omega)
  obtain ⟨s1,-,-,-,-⟩:=z16 b h1
  exact ⟨by omega,this.2⟩
theorem z1w.le_next {n:Int} {bs:List BatM} (h:z1w n bs) {b:BatM} (hb:b ∈ bs):b.base+zt b<=z0n bs:=by
 obtain ⟨j,hj,rfl⟩:=List.mem_iff_getElem.1 hb
 have hne:bs≠[]:=by rintro rfl;simp at hj
 have e:z0n bs=(bs[bs.length-1]'(by omega)).base+zt (bs[bs.length-1]'(by omega)):=by
  unfold z0n
  rw [List.getLast?_eq_getElem?,List.getElem?_eq_getElem (by omega)]
 rw [e]
 by_cases hjl:j=bs.length-1
 ·subst hjl;exact Int.le_refl _
 ·have:=(h.lt j (bs.length-1) (by omega) (by omega)).2
  obtain ⟨s1,-,-,-,-⟩:=z16 _ (h.valid _ (List.getElem_mem (show bs.length-1<bs.length by omega))).1
  omega
theorem zgo {off:Int} {b:BatM} (hv:z07 b=0) (h:b.base+zt b<=off):z0k off b=none:=by
 unfold z0k
 rw [if_pos (.inr (by unfold z1d;rw [if_neg (by rw [hv];simp)];exact h))]
theorem zq5 {off:Int} {b c:BatM} (hp:b.p=b) (h:z0k off b=some c):c.p=c:=by
 have hx:b.x=z8h:=by rw [<- hp];rfl
 unfold z0k at h
 split at h
 ·cases h
 ·split at h
  ·simp only [Option.some.injEq] at h;subst h;exact hp
  ·simp only [Option.some.injEq] at h;subst h;unfold zkl BatM.p;simp only [hx];rfl
theorem zba {α β:Type} {f:α->Option β} {l:List α} (h:∀ x ∈ l,f x=none):l.filterMap f=[]:=by
 rw [List.filterMap_eq_nil_iff];exact h
theorem zw7 {s:SegA} (h:SegOk s) (hl:s.file.length<=4194304) (gap off:Int):∃ k,k<=s.bs.length/\zx2 s (z3c (s.idx gap).l off)=((z32 s k:Nat):Int)/\∀ b ∈ s.bs.take k,b.base+zt b<=off:=by
 have hi:=zlu gap s.bs.length (n:=s.base) (q:=(shL s.base s.fin).length) rfl h.base.1 (by omega) h.bs (by have:=z49 s;omega)
 cases hf:z3c (s.idx gap).l off with
 | none=>exact ⟨0,Nat.zero_le _,by rw [zx3];rfl,by simp⟩
 | some e =>
  unfold z3c at hf
  obtain ⟨a,c,hac,he,-⟩:=zna hf
  have he:e.offset<=off:=by simpa using he
  obtain ⟨i,hil,hie⟩:=hi.ent e (by show e ∈ (s.idx gap).l;rw [hac];simp)
  refine ⟨i,by omega,?_,λb hb=>?_⟩
  ·show e.place=_
   rw [hie]
   unfold z32
   simp only
   omega
  ·obtain ⟨j,hj,rfl⟩:=List.mem_iff_getElem.1 hb
   rw [List.length_take] at hj
   rw [List.getElem_take]
   have:=(h.bs.lt j i hil (by omega)).2
   rw [hie] at he
   simp only at he
   omega
theorem z0s.skip:∀ {n:Int} {l:List SegA},z0s n l->∀ (i j:Nat) (hj:j<l.length) (hi:i<j),(l[i]'(by omega)).reach<=l[j].base/\(l[i]'(by omega)).base<l[j].base
 | n,s::l,⟨h1,h2,h3⟩,0,j+1,hj,_=>by
  have hj:j<l.length:=by simpa using hj
  have:=(h3.mem l[j] (List.getElem_mem hj)).2
  simp only [List.getElem_cons_zero,List.getElem_cons_succ]
  omega
 | n,s::l,⟨h1,h2,h3⟩,i+1,j+1,hj,hi=>by
  simp only [List.getElem_cons_succ]
  exact h3.skip i j (by simpa using hj) (by omega)
theorem z00c {l:List SegA} (hok:z0s 0 l) {off:Int} {i:Nat} (hi:i<l.length) (hb:l[i].base<=off\/i=0):(z0d l).filterMap (z0k off)=(z0d (l.drop i)).filterMap (z0k off):=by
 have e:z0d l=z0d (l.take i)++z0d (l.drop i):=by unfold z0d;rw [<- List.flatMap_append,List.take_append_drop]
 rw [e,List.filterMap_append,zba (l:=z0d (l.take i)),List.nil_append]
 intro b hb'
 obtain ⟨s,hs,hbs⟩:=List.mem_flatMap.1 hb'
 obtain ⟨j,hj,rfl⟩:=List.mem_iff_getElem.1 hs
 rw [List.length_take] at hj
 rw [List.getElem_take] at hbs
 have h1:=(hok.skip j i hi (by omega)).1
 have hsg:=(hok.mem (l[j]'(by omega)) (List.getElem_mem _)).1
 have h2:=hsg.bs.le_next hbs
 have h3:=(z6i hsg).2.2.1
 refine zgo (hsg.bs.valid b hbs).1 ?_
 rcases hb with hb|hb
 ·omega
 ·omega
theorem zhu {s:SegA} (h:SegOk s):s.bs.length*10<=s.file.length:=by
 have:=za1 h.bs
 rw [z49];omega
def z0x (pre:ByteArray):List ByteArray->DiskA->Int × List Int × DiskA
 | [],D=>(0,[],D)
 | n::ns,D=>if (z1f pre n z8g).isSome=true/\(z27 D n).1≠0 then ((z27 D n).1,[],(z27 D n).2) else
  ((z0x pre ns (if (z1f pre n z8g).isSome then (z27 D n).2 else D)).1,(match z1f pre n z06 with|some b=>[(b:Int)]|none=>[])++(z0x pre ns (if (z1f pre n z8g).isSome then (z27 D n).2 else D)).2.1,(z0x pre ns (if (z1f pre n z8g).isSome then (z27 D n).2 else D)).2.2)
def z6p (pre:ByteArray):List Int->DiskA->Int × DiskA
 | [],D=>(0,D)
 | b::bs,D=>if (z27 D (zw pre b z06)).1≠0 then z27 D (zw pre b z06) else z6p pre bs (z27 D (zw pre b z06)).2
def z2e (pre:ByteArray) (l:List SegA) (D:DiskA) (base:Int):(Bool × Int) × List SegA × DiskA:=match z0r D.fs (zw pre base z06) with
 | none=>((false,3),l,D)
 | some p=>match z5z base p.1 with
  | none=>((false,(z27 D (zw pre base z06)).1),l,(z27 D (zw pre base z06)).2)
  | some q=>if q.2=p.1.length then ((true,0),l++[q.1],D) else ((false,(cutA' D (zw pre base z06) (q.2:Nat)).1),l++[q.1],(cutA' D (zw pre base z06) (q.2:Nat)).2)
def z42 (pre:ByteArray):List Int->List SegA->DiskA->Int × List SegA × DiskA
 | [],l,D=>(0,l,D)
 | b::bs,l,D=>if b<zy l then (if (z27 D (zw pre b z06)).1≠0 then ((z27 D (zw pre b z06)).1,l,(z27 D (zw pre b z06)).2) else z42 pre bs l (z27 D (zw pre b z06)).2) else
  if (z2e pre l D b).1.2≠0 then ((z2e pre l D b).1.2,(z2e pre l D b).2) else
  if (z2e pre l D b).1.1=true then z42 pre bs (z2e pre l D b).2.1 (z2e pre l D b).2.2 else ((z6p pre bs (z2e pre l D b).2.2).1,(z2e pre l D b).2.1,(z6p pre bs (z2e pre l D b).2.2).2)
def z73 (pre:ByteArray) (D:DiskA):Int × List SegA × DiskA :=
 if (z0x pre (z12 (z1m pre) D.fs) D).1≠0 then ((z0x pre (z12 (z1m pre) D.fs) D).1,[],(z0x pre (z12 (z1m pre) D.fs) D).2.2) else
  z42 pre (z0x pre (z12 (z1m pre) D.fs) D).2.1 [] (z0x pre (z12 (z1m pre) D.fs) D).2.2
theorem z03s (pre:ByteArray):pre++ByteArray.mk #[45]=z1m pre:=by
 apply zgb
 rw [zpy]
 unfold bl
 simp
theorem zy9 {pre n:ByteArray} {x:List UInt8} {v:Nat} (h:z1f pre n x=some v):v<17592186044416:=by
 unfold z1f at h
 split at h
 ·have:=zhy (k:=0) h (by omega)
  have h2:16 ^ (0+(((bl n).drop ((bl pre).length+1)).take 11).length)<=16 ^ 11:=Nat.pow_le_pow_right (by omega) (by rw [List.length_take];omega)
  omega
 ·cases h
theorem zj5 {pre:ByteArray}:∀ {ns:List ByteArray} {D:DiskA},∀ b ∈ (z0x pre ns D).2.1,0<=b/\b<17592186044416
 | [],D,b,h=>by cases h
 | n::ns,D,b,h=>by
  unfold z0x at h
  split at h
  ·cases h
  ·simp only at h
   rcases List.mem_append.1 h with h|h
   ·cases hb:z1f pre n z06 with
    | none=>rw [hb] at h;cases h
    | some v =>
     rw [hb] at h
     simp only [List.mem_cons,List.not_mem_nil,or_false] at h
     have:=zy9 hb
     omega
   ·exact zj5 b h
theorem zgl {pre:ByteArray}:∀ {ns:List ByteArray} {D:DiskA},(z0x pre ns D).2.1.length<=ns.length
 | [],D=>Nat.le_refl _
 | n::ns,D=>by
  unfold z0x
  split
  ·exact Nat.zero_le _
  ·simp only [List.length_append,List.length_cons]
   have:=zgl (pre:=pre) (ns:=ns) (D:=if (z1f pre n z8g).isSome then (z27 D n).2 else D)
   split <;> simp <;> omega
section
variable {w:World} {l r:List HP} {lg:Nat} {M:LogM} {A:LogA} {D:DiskA} {gap:Int} {a:Nat} {t:SegM}
def lgR (M:LogM):HP:=HP.star (slc T.a34 1 M.z ((M.SM.map Prod.fst).flatMap z1o)) (HP.all (M.SM.map λt=>z0o M.gap t.1 t.2))
theorem za4 (hs:Sat w (lgQ lg M::l)):okM M.gap M.seg M.pre/\Sat w (pt lg (.cells #[.pointer (some ⟨M.d,0,none⟩),.string M.pre,.int .i64 M.seg,.int .i64 M.gap,.slice M.z.a M.z.len M.z.cap] T.a52)::lgR M::l):=by
 obtain ⟨h,hs⟩:=hs.and
 exact ⟨h,hs.star⟩
theorem z4q (M:LogM) (h:okM M.gap M.seg M.pre) (hs:Sat w (pt lg (.cells #[.pointer (some ⟨M.d,0,none⟩),.string M.pre,.int .i64 M.seg,.int .i64 M.gap,.slice M.z.a M.z.len M.z.cap] T.a52)::lgR M::l)):Sat w (lgQ lg M::l):=.and_mk h (.star_mk hs)
theorem z042 {r1:List HP} [hf:Fo l lgQ lg M r1] [hf2:Fo r1 dk M.d D r] (hs:Sat w l) :
  Ret P F.a124 #[.pointer (some ⟨lg,0,none⟩)] w λvs w' =>
   ((z0x M.pre (z12 (z1m M.pre) D.fs) D).1≠0/\vs=[.slice none 0 0,.int .i64 (z0x M.pre (z12 (z1m M.pre) D.fs) D).1]/\Sat w' (lgQ lg M::dk M.d (z0x M.pre (z12 (z1m M.pre) D.fs) D).2.2::r)) \/
   ((z0x M.pre (z12 (z1m M.pre) D.fs) D).1=0/\∃ z:Sl,vs=[z.v,.int .i64 0]/\Sat w' (slc T.a14 1 z ((z0x M.pre (z12 (z1m M.pre) D.fs) D).2.1.flatMap z4g)::lgQ lg M::dk M.d (z0x M.pre (z12 (z1m M.pre) D.fs) D).2.2::r)) :=
 zo8 _ <| by
  delta z020 AC AH AK AN AO Aa Ac Ad Ae Ag Ai Aj Ak Al Ao Ap Aq Ay Be Bf Bg
  have hs:=hs.perm (hf.perm.trans (.cons _ hf2.perm))
  clear hf hf2
  obtain ⟨hokm,hs⟩:=za4 hs
  have hsz:=hokm.size
  refine zv hs λw' hs=>?_
  refine zj ?_
  refine z8 hs ?_
  refine zj ?_
  refine z8 hs ?_
  refine wp_must (by omega) ?_
  rw [z03s]
  obtain ⟨m_,FS_,-,hokD,-⟩:=z2c (hs.pick [2])
  have hok24:∀ n ∈ z12 (z1m M.pre) D.fs,n.size<=24:=λn hn=>by
   unfold z12 at hn
   obtain ⟨f,hf,rfl⟩:=List.mem_map.1 (List.mem_filter.1 hn).1
   exact hokD.names f hf
  have hnl:(z12 (z1m M.pre) D.fs).length<=128:=by
   unfold z12
   exact Nat.le_trans (List.length_filter_le _ _) (by rw [List.length_map];exact hokD.many)
  refine zb (zqo (d:=M.d) (A:=D) (z1m M.pre) hs) λ_ w' hs=>?_
  obtain ⟨x,rfl,hs⟩:=hs
  refine zd ?_
  refine ze ?_
  generalize z12 (z1m M.pre) D.fs=ns at *
  have hl:=hs.slen x (xs:=ns) (enc:=z2h)
  refine zl (λq w'=>∃ z:Sl,q=(z,())/\(z0x M.pre ns D).1=0/\Sat w' (slc T.a14 1 z ((z0x M.pre ns D).2.1.flatMap z4g)::lgQ lg M::dk M.d (z0x M.pre ns D).2.2::r)) ?_ ?_
  rotate_left
  ·rintro _ w2 ⟨z,rfl,h1,hs⟩
   exact ⟨rfl,.inr ⟨h1,z,rfl,hs⟩⟩
  have hs:Sat w' (slc T.a14 1 ⟨none,0,0⟩ (([]:List Int).flatMap z4g)::dk M.d D::pt lg (.cells #[.pointer (some ⟨M.d,0,none⟩),.string M.pre,.int .i64 M.seg,.int .i64 M.gap,.slice M.z.a M.z.len M.z.cap] T.a52)::lgR M::slc T.a54 1 x (ns.flatMap z2h)::r):=by
   have h1:Sat w' (slc T.a14 1 ⟨none,0,0⟩ (([]:List Int).flatMap z4g)::_):=hs.slc_nil
   exact h1.sub
  refine z03 (λm v w=>∃ (i:Nat) (z:Sl) (done:List Int) (D':DiskA),v=(z,((i:Int),()))/\i<=ns.length/\ns.length-i=m/\done.length<=i /\
   ((z0x M.pre ns D).1=(z0x M.pre (ns.drop i) D').1/\(z0x M.pre ns D).2.2=(z0x M.pre (ns.drop i) D').2.2/\((z0x M.pre (ns.drop i) D').1=0->(z0x M.pre ns D).2.1=done++(z0x M.pre (ns.drop i) D').2.1)) /\
   Sat w (slc T.a14 1 z (done.flatMap z4g)::dk M.d D'::pt lg (.cells #[.pointer (some ⟨M.d,0,none⟩),.string M.pre,.int .i64 M.seg,.int .i64 M.gap,.slice M.z.a M.z.len M.z.cap] T.a52)::lgR M::slc T.a54 1 x (ns.flatMap z2h)::r)) ns.length
   ⟨0,⟨none,0,0⟩,[],D,rfl,by omega,rfl,by simp,⟨rfl,rfl,λ_=>rfl⟩,hs⟩ ?_
  clear hs
  rintro m _ w ⟨i,z,done,D',rfl,hi,hm,hdl,⟨hq1,hq2,hq3⟩,hs⟩
  refine zk ?_
  refine zh (λhc=>?_) λhc=>?_
  rotate_left
  ·have e:ns.drop i=[]:=List.drop_eq_nil_of_le (by omega)
   rw [e] at hq1 hq2 hq3
   have hq3:=hq3 rfl
   have e2:(z0x M.pre [] D').2.1=[]:=rfl
   rw [e2,List.append_nil] at hq3
   refine zo (zf ⟨z,rfl,hq1,?_⟩)
   have e3:(z0x M.pre [] D').2.2=D':=rfl
   rw [hq2,hq3,e3]
   have hs:=z4q M hokm (hs.pick [2,2])
   exact hs.sub
  have hil:i<ns.length:=by omega
  have hdrop:ns.drop i=ns[i]::ns.drop (i+1):=List.drop_eq_getElem_cons hil
  rw [hdrop] at hq1 hq2 hq3
  have hn24:=hok24 ns[i] (List.getElem_mem hil)
  refine z1z hs (xs:=ns) (enc:=z2h) i hil ?_
  refine wp_lt ?_
  refine zb (zpv (lg:=lg) ns[i] (ByteArray.mk #[46,108,111,103]) (by omega) (by decide) M.pre hsz hs) λ_ w' hs=>?_
  obtain ⟨rfl,hs⟩:=hs
  refine zd ?_
  refine wp_lt ?_
  refine wp_lt ?_
  have eb:z1f M.pre ns[i] (bl (ByteArray.mk #[46,108,111,103]))=z1f M.pre ns[i] z06:=rfl
  rw [eb]
  refine zl (λq w'=>∃ z':Sl,q=(z',())/\Sat w' (slc T.a14 1 z' ((done++(match z1f M.pre ns[i] z06 with|some b=>[(b:Int)]|none=>[])).flatMap z4g)::dk M.d D'::pt lg (.cells #[.pointer (some ⟨M.d,0,none⟩),.string M.pre,.int .i64 M.seg,.int .i64 M.gap,.slice M.z.a M.z.len M.z.cap] T.a52)::lgR M::slc T.a54 1 x (ns.flatMap z2h)::r)) ?_ ?_
  ·cases hb:z1f M.pre ns[i] z06 with
   | none =>
    refine zu ?_ (by simp)
    refine zf ⟨z,rfl,?_⟩
    rw [List.append_nil]
    exact hs
   | some b =>
    refine z0p ?_ (by rfl)
    refine z3w (xs:=done) (enc:=z4g) (y:=(b:Int)) hs (λz' w' hs=>?_) rfl (by omega)
    exact zf ⟨z',rfl,hs⟩
  rintro _ w2 ⟨z',rfl,hs⟩
  have hdl2:(done++(match z1f M.pre ns[i] z06 with|some b=>[(b:Int)]|none=>[])).length<=i+1:=by
   rw [List.length_append]
   split <;> simp <;> omega
  refine zb (zpv (lg:=lg) ns[i] (ByteArray.mk #[46,110,101,119]) (by omega) (by decide) M.pre hsz hs) λ_ w' hs=>?_
  obtain ⟨rfl,hs⟩:=hs
  refine zd ?_
  refine wp_lt ?_
  refine wp_lt ?_
  have eb2:z1f M.pre ns[i] (bl (ByteArray.mk #[46,110,101,119]))=z1f M.pre ns[i] z8g:=rfl
  rw [eb2]
  have hun:z0x M.pre (ns[i]::ns.drop (i+1)) D'=if (z1f M.pre ns[i] z8g).isSome=true/\(z27 D' ns[i]).1≠0 then ((z27 D' ns[i]).1,[],(z27 D' ns[i]).2) else
   ((z0x M.pre (ns.drop (i+1)) (if (z1f M.pre ns[i] z8g).isSome then (z27 D' ns[i]).2 else D')).1,(match z1f M.pre ns[i] z06 with|some b=>[(b:Int)]|none=>[])++(z0x M.pre (ns.drop (i+1)) (if (z1f M.pre ns[i] z8g).isSome then (z27 D' ns[i]).2 else D')).2.1,(z0x M.pre (ns.drop (i+1)) (if (z1f M.pre ns[i] z8g).isSome then (z27 D' ns[i]).2 else D')).2.2):=rfl
  refine zl (λq w'=>¬ ((z1f M.pre ns[i] z8g).isSome=true/\(z27 D' ns[i]).1≠0)/\Sat w' (slc T.a14 1 z' ((done++(match z1f M.pre ns[i] z06 with|some b=>[(b:Int)]|none=>[])).flatMap z4g)::dk M.d (if (z1f M.pre ns[i] z8g).isSome then (z27 D' ns[i]).2 else D')::pt lg (.cells #[.pointer (some ⟨M.d,0,none⟩),.string M.pre,.int .i64 M.seg,.int .i64 M.gap,.slice M.z.a M.z.len M.z.cap] T.a52)::lgR M::slc T.a54 1 x (ns.flatMap z2h)::r)) ?_ ?_
  ·refine zh (λh=>?_) λh=>?_
   rotate_left
   ·refine zf ⟨λhh=>h hh.1,?_⟩
    rw [if_neg h]
    exact hs
   refine zj ?_
   refine z8 hs ?_
   refine zb (zcc (d:=M.d) (A:=D') ns[i] hs) λ_ w' hs=>?_
   obtain ⟨rfl,hs⟩:=hs
   refine zd ?_
   refine wp_lt ?_
   refine zh (λh2=>?_) λh2=>?_
   ·refine wp_lt ?_
    rw [if_pos ⟨h,h2⟩] at hun
    rw [hun] at hq1 hq2
    have hs:=z4q M hokm (hs.pick [2,2])
    refine zo (zo (zo ⟨rfl,.inl ⟨by rw [hq1];exact h2,by rw [hq1],?_⟩⟩))
    rw [hq2]
    exact hs.sub
   ·refine zf ⟨λhh=>h2 hh.2,?_⟩
    rw [if_pos h]
    exact hs.sub
  rintro _ w3 ⟨hno,hs⟩
  rw [if_neg hno] at hun
  rw [hun] at hq1 hq2 hq3
  refine zk ?_
  rw [wS (i:=i) (by omega)]
  refine z0l (ns.length-(i+1)) ⟨i+1,z',done++(match z1f M.pre ns[i] z06 with|some b=>[(b:Int)]|none=>[]),_,rfl,by omega,rfl,hdl2,⟨hq1,hq2,λh=>?_⟩,hs⟩
  rw [hq3 h,List.append_assoc]
theorem z03u (x:Sl) (bs:List Int) (hb:∀ b ∈ bs,0<=b/\b<17592186044416) {r1:List HP} [hf:Fo l lgQ lg M r1] [hf2:Fo r1 dk M.d D r] (hx:FocR r x 1 (bs.flatMap z4g)) (hlen:bs.length<=1000000) (hs:Sat w l) :
  Ret P F.a123 #[.pointer (some ⟨lg,0,none⟩),x.v] w λvs w'=>vs=[.int .i64 (z6p M.pre bs D).1]/\Sat w' (lgQ lg M::dk M.d (z6p M.pre bs D).2::r) :=
 zo7 _ x <| by
  delta z01z AA AC AD AK AR Aa Ab Ac Ad Ae Ag Ai Aj Ak Al Ao Bk
  have hs:=hs.perm (hf.perm.trans (.cons _ hf2.perm))
  clear hf hf2
  obtain ⟨hokm,hs⟩:=za4 hs
  have hsz:=hokm.size
  have hl:=hs.slen x (xs:=bs) (enc:=z4g)
  refine zl (λ_ w'=>(z6p M.pre bs D).1=0/\Sat w' (lgQ lg M::dk M.d (z6p M.pre bs D).2::r)) ?_ ?_
  rotate_left
  ·rintro _ w2 ⟨h1,hs⟩
   rw [h1]
   exact ⟨rfl,rfl,hs⟩
  refine z03 (λm v w=>∃ (i:Nat) (D':DiskA),v=((i:Int),())/\i<=bs.length/\bs.length-i=m/\z6p M.pre bs D=z6p M.pre (bs.drop i) D' /\
   Sat w (pt lg (.cells #[.pointer (some ⟨M.d,0,none⟩),.string M.pre,.int .i64 M.seg,.int .i64 M.gap,.slice M.z.a M.z.len M.z.cap] T.a52)::lgR M::dk M.d D'::r)) bs.length ⟨0,D,rfl,by omega,rfl,rfl,hs⟩ ?_
  clear hs
  rintro m _ w ⟨i,D',rfl,hi,hm,hq,hs⟩
  refine zk ?_
  refine zh (λhc=>?_) λhc=>?_
  rotate_left
  ·have e:bs.drop i=[]:=List.drop_eq_nil_of_le (by omega)
   rw [e] at hq
   refine zo (zf ⟨by rw [hq];rfl,?_⟩)
   rw [hq]
   exact z4q M hokm hs
  have hil:i<bs.length:=by omega
  rw [List.drop_eq_getElem_cons hil] at hq
  have hbb:=hb bs[i] (List.getElem_mem hil)
  refine z1z hs (xs:=bs) (enc:=z4g) i hil ?_
  refine wp_lt ?_
  have hun:z6p M.pre (bs[i]::bs.drop (i+1)) D'=if (z27 D' (zw M.pre bs[i] z06)).1≠0 then z27 D' (zw M.pre bs[i] z06) else z6p M.pre (bs.drop (i+1)) (z27 D' (zw M.pre bs[i] z06)).2:=rfl
  refine zl (λv w'=>v=((z27 D' (zw M.pre bs[i] z06)).1,())/\Sat w' (pt lg (.cells #[.pointer (some ⟨M.d,0,none⟩),.string M.pre,.int .i64 M.seg,.int .i64 M.gap,.slice M.z.a M.z.len M.z.cap] T.a52)::lgR M::dk M.d (z27 D' (zw M.pre bs[i] z06)).2::r)) ?_ ?_
  ·refine zv hs λw' hs=>?_
   refine zj ?_
   refine z14 hs ?_
   refine zb (z8f (lg:=lg) bs[i] hbb (ByteArray.mk #[46,108,111,103]) (by decide) M.pre hsz hs) λ_ w' hs=>?_
   obtain ⟨rfl,hs⟩:=hs
   refine zd ?_ (by first|trivial|(repeat (first|exact trivial|exact λ_=>z08 hs|exact λ_=>z0f hs|refine And.intro ?_ ?_)))
   refine ze ?_
   refine zb (zcc (d:=M.d) (A:=D') (zw M.pre bs[i] (bl (ByteArray.mk #[46,108,111,103]))) hs) λ_ w' hs=>?_
   obtain ⟨rfl,hs⟩:=hs
   refine zd ?_
   refine wp_lt ?_
   refine ze ?_
   have hs:Sat w' (dk M.d (z27 D' (zw M.pre bs[i] z06)).2::_):=hs
   exact zf ⟨rfl,hs.sub⟩
  rintro _ w2 ⟨rfl,hs⟩
  refine zh (λh=>?_) λh=>?_
  ·refine wp_lt ?_
   rw [if_pos h] at hun
   rw [hun] at hq
   rw [hq]
   exact zo (zo ⟨rfl,rfl,z4q M hokm hs⟩)
  ·rw [if_neg h] at hun
   rw [hun] at hq
   rw [wS (i:=i) (by omega)]
   exact z0l (bs.length-(i+1)) ⟨i+1,_,rfl,by omega,rfl,hq,hs⟩
end
theorem zhe (k:Nat) (n:Int) (raw:List UInt8):z2l (k+1) n raw=match z15 raw with
  | none=>([],0)
  | some (body,m)=>match z63 body with
   | none=>([],0)
   | some b=>if b.base<n then ([],0) else (b::(z2l k (b.base+zt b) (raw.drop m)).1,m+(z2l k (b.base+zt b) (raw.drop m)).2):=rfl
theorem zds {fs:List FileA} {n:ByteArray} {p:List UInt8 × Nat} (h:z0r fs n=some p):p.1.length<=used fs:=z8q (zs6 h)
section
variable {w:World} {l r:List HP} {lg:Nat} {M:LogM} {A:LogA} {D:DiskA} {gap:Int} {a:Nat} {t:SegM}
theorem z00h (b:BatM) (z:Sl) (hv:z07 b=0) (hp:b.p=b) [hf:Fo l (z0o gap) a t r] [hb:FocR r z 4 (b.rs.flatMap z01)] (hlen:t.s.file.length+(frL b).length<=1000000000) (hs:Sat w l) :
  Ret P F.a141 #[.pointer (some ⟨a,0,none⟩),.agg (zp (b.at z)).toArray,.int .i64 ((frL b).length:Nat)] w λvs w'=>vs=[]/\Sat w' (z0o gap a ⟨t.ix,t.s.add [b]⟩::r):=by
 have hb':FocR r (b.at z).x 4 ((b.at z).rs.flatMap z01):=hb
 have h:=zxl (gap:=gap) (a:=a) (b.at z) hv hlen hs
 have e:t.s.add [b.at z]=t.s.add [b]:=by
  unfold SegA.add
  have:(b.at z).p=b.p:=rfl
  simp only [List.map_cons,List.map_nil,this]
 rw [e] at h
 exact h
set_option maxHeartbeats 1000000 in
theorem z07d (base:Int) (hb:0<=base/\base<17592186044416) {r1:List HP} [hf:Fo l lgQ lg M r1] [hf2:Fo r1 dk M.d D r] (hlen:M.SM.length<=1000000) (hs:Sat w l) :
  Ret P F.a130 #[.pointer (some ⟨lg,0,none⟩),.int .i64 base] w λvs w'=>vs=[.bool (z2e M.pre M.l D base).1.1,.int .i64 (z2e M.pre M.l D base).1.2] /\
   ∃ M':LogM,(M'.d=M.d/\M'.pre=M.pre/\M'.seg=M.seg/\M'.gap=M.gap)/\M'.l=(z2e M.pre M.l D base).2.1/\M'.SM.length<=M.SM.length+1/\Sat w' (lgQ lg M'::dk M.d (z2e M.pre M.l D base).2.2::r) :=
 zoe _ base <| by
  delta z026 A9 AA AB AC AD AH AI AJ AL AM Aa Ab Ac Ad Ag Ai Ak Al Am Ao Ay Bc Bf Bg Bh Bj
  have hs:=hs.perm (hf.perm.trans (.cons _ hf2.perm))
  clear hf hf2
  obtain ⟨hokm,hs⟩:=za4 hs
  have hsz:=hokm.size
  obtain ⟨m_,FS_,-,hokD,-⟩:=z2c (hs.pick [2])
  refine zb (z8f (lg:=lg) base hb (ByteArray.mk #[46,108,111,103]) (by decide) M.pre hsz hs) λ_ w' hs=>?_
  obtain ⟨rfl,hs⟩:=hs
  refine zd ?_
  have en:zw M.pre base (bl (ByteArray.mk #[46,108,111,103]))=zw M.pre base z06:=rfl
  rw [en]
  generalize hnm:zw M.pre base z06=nm at *
  refine wp_lt ?_
  refine zj ?_
  refine z8 hs ?_
  have hsame:∀ {w:World} {D':DiskA},Sat w (pt lg (.cells #[.pointer (some ⟨M.d,0,none⟩),.string M.pre,.int .i64 M.seg,.int .i64 M.gap,.slice M.z.a M.z.len M.z.cap] T.a52)::lgR M::dk M.d D'::r)->∃ M':LogM,(M'.d=M.d/\M'.pre=M.pre/\M'.seg=M.seg/\M'.gap=M.gap)/\M'.l=M.l/\M'.SM.length<=M.SM.length+1/\Sat w (lgQ lg M'::dk M.d D'::r):=λhs=>⟨M,⟨rfl,rfl,rfl,rfl⟩,rfl,by omega,z4q M hokm hs⟩
  unfold z2e
  rw [hnm]
  refine zb (zh5 (d:=M.d) (A:=D) nm hs) λ_ w' hs=>?_
  rcases hs with ⟨f,hff,hfn,x,rfl,hs⟩|⟨hno,rfl,hs⟩
  rotate_left
  ·refine zd ?_
   refine wp_lt ?_
   refine z0p ?_ (by decide)
   refine wp_lt ?_
   rw [zbz.2 hno]
   exact ⟨rfl,rfl,hsame hs.sub⟩
  refine zd ?_
  refine wp_lt ?_
  refine zu ?_ (by simp)
  have hfd:z0r D.fs nm=some (f.b,f.kept):=by rw [<- hfn];exact zd3 (z3g hokD.sorted) hff
  have hrl:f.b.length<=4194304:=Nat.le_trans (z8q hff) hokD.used
  rw [hfd]
  simp only
  generalize f.b=raw at *
  have hl:=hs.slen x (xs:=raw) (enc:=zi)
  have hcap:=hs.slc_cap
  refine zb (zby x raw hcap (by omega) hs) λ_ w' hs=>?_
  obtain ⟨y,rfl,hs⟩:=hs
  refine zd ?_
  refine wp_lt ?_
  refine wp_lt ?_
  refine zl (λq w'=>∃ v:Int,q=(v,(z5z base raw).isSome,())/\(∀ s,z5z base raw=some s->v=s.1.fin)/\Sat w' (slc T.a58 1 x (raw.flatMap zi)::pt lg (.cells #[.pointer (some ⟨M.d,0,none⟩),.string M.pre,.int .i64 M.seg,.int .i64 M.gap,.slice M.z.a M.z.len M.z.cap] T.a52)::lgR M::dk M.d D::r)) ?_ ?_
  ·cases hfr:z15 raw with
   | none =>
    rw [hfr] at hs
    have e:z5z base raw=none:=by unfold z5z;rw [hfr]
    rw [e]
    refine zu ?_ (by simp)
    exact zf ⟨0,rfl,(λs h=>by cases h),hs.sub⟩
   | some q =>
    obtain ⟨body,m⟩:=q
    rw [hfr] at hs
    have hs:Sat w' (slc T.a58 1 y (body.flatMap zi)::_):=hs
    obtain ⟨-,-,hbd,-⟩:=z7k hfr
    refine z0p ?_ (by rfl)
    refine zb (zyt y body base (by omega) (by omega) hs) λ_ w' hs=>?_
    obtain ⟨v,rfl,hv,hs⟩:=hs
    refine zd ?_
    refine wp_lt ?_
    refine wp_lt ?_
    have e:z5z base raw=match z5w base body with
      | none=>none
      | some fin=>some (⟨base,fin,(z2l raw.length base (raw.drop m)).1⟩,m+(z2l raw.length base (raw.drop m)).2):=by simp only [z5z,hfr];cases z5w base body <;> rfl
    rw [e]
    cases hh:z5w base body with
    | none=>exact zf ⟨v,rfl,(λs h=>by cases h),hs.sub⟩
    | some fin =>
     have:=hv fin hh
     subst this
     exact zf ⟨v,rfl,(λs h=>by simp only [Option.some.injEq] at h;subst h;rfl),hs.sub⟩
  rintro _ w2 ⟨v,rfl,hv,hs⟩
  cases hsc:z5z base raw with
  | none =>
   refine z0p ?_ (by simp)
   refine zj ?_
   refine z8 hs ?_
   refine zb (zcc (d:=M.d) (A:=D) nm hs) λ_ w' hs=>?_
   obtain ⟨rfl,hs⟩:=hs
   refine zd ?_
   refine wp_lt ?_
   exact ⟨rfl,rfl,hsame hs.sub⟩
  | some q =>
   obtain ⟨s,mm⟩:=q
   dsimp only
   have hv:=hv _ hsc
   have hv:v=s.fin:=hv
   subst hv
   obtain ⟨hsok,hsb,hst,hsm,hsml⟩:=z00a hsc
   refine zu ?_ (by simp)
   obtain ⟨m0,hm0,htk⟩:∃ m0,((z15 raw).getD ([],0)).2=m0/\m0<=raw.length/\m0=(shL s.base s.fin).length/\s.bs=(z2l raw.length base (raw.drop m0)).1/\mm=m0+(z2l raw.length base (raw.drop m0)).2:=by
    unfold z5z at hsc
    cases hfr:z15 raw with
    | none=>rw [hfr] at hsc;cases hsc
    | some q =>
     obtain ⟨body,m⟩:=q
     rw [hfr] at hsc
     simp only at hsc
     cases hh:z5w base body with
     | none=>rw [hh] at hsc;cases hsc
     | some fin =>
      rw [hh] at hsc
      simp only [Option.some.injEq,Prod.mk.injEq] at hsc
      obtain ⟨e1,e2⟩:=hsc
      obtain ⟨f1,f2,f3,f4⟩:=z7k hfr
      obtain ⟨-,-,hb3⟩:=zja hh
      refine ⟨m,rfl,f2,?_,by rw [<- e1],e2.symm⟩
      rw [<- e1]
      show m=(shL base fin).length
      unfold shL
      rw [za7 (by have:=zif base fin;omega),<- hb3,f1]
   obtain ⟨h1,h2,h3,h4⟩:=htk
   rw [hm0]
   have hbase0:=hsok.base
   have hfin0:0<=s.fin/\s.fin<9223372036854775808:=by have:=hsok.fin;omega
   have hs:=z4q M hokm (hs.pick [1,1])
   refine zb (zm4 (lg:=lg) base s.fin (by omega) hfin0 hs) λ_ w' hs=>?_
   obtain ⟨a,ix,rfl,hs⟩:=hs
   refine zd ?_
   refine wp_lt ?_
   refine zl (λq w'=>q=((mm:Int),())/\Sat w' (z0o M.gap a ⟨ix,s⟩::lgQ lg M::slc T.a58 1 x (raw.flatMap zi)::dk M.d D::r)) ?_ ?_
   ·refine z03 (λk q w=>∃ (at_:Nat) (n:Int) (done:List BatM),q=((at_:Int),(n,()))/\at_<=raw.length/\raw.length-at_<=k /\
     s.bs=done++(z2l k n (raw.drop at_)).1/\mm=at_+(z2l k n (raw.drop at_)).2/\at_=((⟨base,s.fin,[]⟩:SegA).add done).file.length /\
     Sat w (z0o M.gap a ⟨ix,(⟨base,s.fin,[]⟩:SegA).add done⟩::lgQ lg M::slc T.a58 1 x (raw.flatMap zi)::dk M.d D::r)) raw.length
     ⟨m0,base,[],rfl,h1,by omega,by rw [List.nil_append];exact h3,h4,by rw [zhp,z49];simp only [List.flatMap_nil,List.length_nil];rw [h2,hsb];omega,by rw [zhp];exact hs⟩ ?_
    clear hs
    rintro k _ w ⟨at_,n,done,rfl,ha1,ha2,ha3,ha4,ha5,hs⟩
    have hend:z2l k n (raw.drop at_)=([],0)->∀ {w:World},Sat w (z0o M.gap a ⟨ix,(⟨base,s.fin,[]⟩:SegA).add done⟩::lgQ lg M::slc T.a58 1 x (raw.flatMap zi)::dk M.d D::r)->at_=mm/\Sat w (z0o M.gap a ⟨ix,s⟩::lgQ lg M::slc T.a58 1 x (raw.flatMap zi)::dk M.d D::r):=by
     intro he w hs
     rw [he] at ha3 ha4
     simp only [List.append_nil] at ha3
     have hpp:done.map BatM.p=done:=by
      rw [List.map_congr_left (g:=id) λb hb=>((hsok.bs.valid b (by rw [ha3];exact hb)).2),List.map_id]
     have es:(⟨base,s.fin,[]⟩:SegA).add done=s:=by
      unfold SegA.add
      rw [hpp,<- ha3,<- hsb]
      rfl
     rw [es] at hs
     exact ⟨ha4.symm,hs⟩
    refine zk ?_
    refine wp_must (by omega) ?_
    rw [Int.toNat_natCast]
    have hxc:FocR (z0o M.gap a ⟨ix,(⟨base,s.fin,[]⟩:SegA).add done⟩::lgQ lg M::slc T.a58 1 x (raw.flatMap zi)::dk M.d D::r) ⟨z0q x.a 1 at_ x.cap,x.len-at_,x.cap-at_⟩ 1 ((raw.drop at_).flatMap zi):=FocR.post hcap
    refine zb (zby ⟨z0q x.a 1 at_ x.cap,x.len-at_,x.cap-at_⟩ (raw.drop at_) (by show x.len-at_<=x.cap-at_;omega) (by rw [List.length_drop];omega) hs) λ_ w' hs=>?_
    obtain ⟨y,rfl,hs⟩:=hs
    refine zd ?_
    refine wp_lt ?_
    refine wp_lt ?_
    cases hfr:z15 (raw.drop at_) with
    | none =>
     rw [hfr] at hs
     refine z0p ?_ (by simp)
     have he:z2l k n (raw.drop at_)=([],0):=by
      cases k with
      | zero=>rfl
      | succ k=>rw [zhe,hfr]
     obtain ⟨e1,hs⟩:=hend he hs.tail
     refine zo (zf ⟨by rw [e1],hs⟩)
    | some q =>
     obtain ⟨body,m⟩:=q
     rw [hfr] at hs
     have hs:Sat w' (slc T.a58 1 y (body.flatMap zi)::_):=hs
     obtain ⟨f1,f2,hbd,f4⟩:=z7k hfr
     rw [List.length_drop] at f2
     dsimp only [Option.getD,Option.isSome]
     refine zu ?_ (by simp)
     obtain ⟨k,rfl⟩:∃ k',k=k'+1:=⟨k-1,by omega⟩
     rw [zhe,hfr] at ha3 ha4 hend
     refine zb (zle y body (by omega) hs) λ_ w' hs=>?_
     rcases hs with ⟨b,z,hdec,rfl,hs⟩|⟨hdec,rfl,hs⟩
     rotate_left
     ·refine ⟨(0,0,0,0,0,0,z8h,6,()),rfl,trivial,zeb _ _ _ _ _ _ _ _ ?_⟩
      refine zn hs λc w' hs=>?_
      refine zm hs λw' hs=>?_
      refine wp_lt ?_
      refine z8 hs ?_
      refine z0p ?_ (.inl (by decide))
      obtain ⟨e1,hs⟩:=hend (by simp only [hdec]) hs.tail.tail
      exact zo (zf ⟨by show ((at_:Int),())=_;rw [e1],hs⟩)
     ·obtain ⟨d1,d2,d3⟩:=zld hdec
      have hfrb:(frL b).length=m:=by rw [(z6r d1).2,d2,f1]
      refine ⟨(b.base,b.pid,b.epoch,b.seq,b.kind,b.time,z,0,()),rfl,trivial,zeb _ _ _ _ _ _ _ _ ?_⟩
      refine zn hs λc w' hs=>?_
      refine zm hs λw' hs=>?_
      refine wp_lt ?_
      refine z8 hs ?_
      simp only [hdec] at ha3 ha4 hend
      refine zh (λhc=>?_) λhc=>?_
      ·have hc:b.base<n:=by
        rcases hc with hc|hc
        ·exact absurd rfl hc
        ·exact hc
       obtain ⟨e1,hs⟩:=hend (by rw [if_pos hc]) hs.tail.tail.tail
       exact zo (zf ⟨by show ((at_:Int),())=_;rw [e1],hs⟩)
      have hc:¬ b.base<n:=λh=>hc (.inr h)
      rw [if_neg hc] at ha3 ha4
      simp only at ha3 ha4
      refine zg hs ?_
      have hz:FocR (pt c (.cells #[.int .i64 b.base,.int .i64 b.pid,.int .i64 b.epoch,.int .i64 b.seq,.int .i64 b.kind,.int .i64 b.time,.slice z.a z.len z.cap] T.a0)::slc T.a2 4 z (b.rs.flatMap z01)::slc T.a58 1 y (body.flatMap zi)::lgQ lg M::slc T.a58 1 x (raw.flatMap zi)::dk M.d D::r) z 4 (b.rs.flatMap z01):=inferInstance
      have hs:Sat w' (pt c (.cells #[.int .i64 b.base,.int .i64 b.pid,.int .i64 b.epoch,.int .i64 b.seq,.int .i64 b.kind,.int .i64 b.time,.slice z.a z.len z.cap] T.a0)::slc T.a2 4 z (b.rs.flatMap z01)::slc T.a58 1 y (body.flatMap zi)::z0o M.gap a ⟨ix,(⟨base,s.fin,[]⟩:SegA).add done⟩::lgQ lg M::slc T.a58 1 x (raw.flatMap zi)::dk M.d D::r):=hs
      have hml:((m:Nat):Int)=((frL b).length:Nat):=by rw [hfrb]
      show (Prog.call F.a141 [_,.agg _,.int .i64 ((m:Nat):Int)] _ _).wp P _ _ _
      rw [hml]
      refine zb (z00h (gap:=M.gap) (a:=a) (t:=⟨ix,(⟨base,s.fin,[]⟩:SegA).add done⟩) b z d1 d3 (by show ((⟨base,s.fin,[]⟩:SegA).add done).file.length+_<=_;rw [<- ha5];omega) hs) λ_ w' hs=>?_
      obtain ⟨rfl,hs⟩:=hs
      refine zd ?_
      have e6:((⟨base,s.fin,[]⟩:SegA).add done).add [b]=(⟨base,s.fin,[]⟩:SegA).add (done++[b]):=add_add _ _ _
      have hs:Sat w' (z0o M.gap a ⟨ix,((⟨base,s.fin,[]⟩:SegA).add done).add [b]⟩::_):=hs
      rw [e6] at hs
      have hs:=z4b hs
      refine zj ?_
      refine z8 hs ?_
      refine wp_lt ?_
      rw [w64 (by omega) (by omega)]
      refine wp_lt ?_
      have en2:z0n ((⟨base,s.fin,[]⟩:SegA).add (done++[b])).bs=b.base+zt b:=by
       show z0n ([]++(done++[b]).map BatM.p)=_
       rw [List.nil_append,List.map_append]
       exact z5l _ _
      rw [show z0n (SegM.s ⟨ix,(⟨base,s.fin,[]⟩:SegA).add (done++[b])⟩).bs=b.base+zt b from en2]
      have hs:=z2s ⟨ix,(⟨base,s.fin,[]⟩:SegA).add (done++[b])⟩ hs
      have ec:(at_:Int)+((frL b).length:Nat)=((at_+m:Nat):Int):=by rw [hfrb];omega
      rw [ec]
      refine z0l k ⟨at_+m,b.base+zt b,done++[b],rfl,by omega,by omega,?_,?_,?_,hs.sub⟩
      ·rw [ha3,List.append_assoc,List.drop_drop];rfl
      ·rw [ha4,List.drop_drop];omega
      ·rw [<- e6,za0,List.length_append,<- ha5]
       simp only [List.flatMap_cons,List.flatMap_nil,List.append_nil]
       omega
   clear hs
   rintro _ w3 ⟨rfl,hs⟩
   refine zk ?_
   have hs:=hs.pick [1]
   refine zb (z017 (lg:=lg) a ⟨ix,s⟩ (by omega) hs) λ_ w' hs=>?_
   obtain ⟨z,rfl,hs⟩:=hs
   refine zd ?_
   have hfin2:∀ {w:World} {D':DiskA},Sat w (lgQ lg { M with z:=z,SM:=M.SM++[(a,⟨ix,s⟩)] }::dk M.d D'::r)->∃ M':LogM,(M'.d=M.d/\M'.pre=M.pre/\M'.seg=M.seg/\M'.gap=M.gap)/\M'.l=M.l++[s]/\M'.SM.length<=M.SM.length+1/\Sat w (lgQ lg M'::dk M.d D'::r):=λhs =>
    ⟨{ M with z:=z,SM:=M.SM++[(a,⟨ix,s⟩)] },⟨rfl,rfl,rfl,rfl⟩,by unfold LogM.l;simp,by simp,hs⟩
   refine zh (λhc=>?_) λhc=>?_
   ·have hc:mm=raw.length:=by omega
    rw [if_pos hc]
    exact ⟨rfl,rfl,hfin2 hs.sub⟩
   ·rw [if_neg (show ¬ mm=raw.length by omega)]
    refine zj ?_
    obtain ⟨hokm2,hs⟩:=za4 hs
    refine z8 hs ?_
    refine zb (z0a5 (d:=M.d) (A:=D) nm ((mm:Nat):Int) hs) λ_ w' hs=>?_
    obtain ⟨rfl,hs⟩:=hs
    refine zd ?_
    refine wp_lt ?_
    have hs:=z4q { M with z:=z,SM:=M.SM++[(a,⟨ix,s⟩)] } hokm2 (hs.pick [1,1])
    exact ⟨rfl,rfl,hfin2 hs.sub⟩
end
def z4y (a:Nat) (outs:List BatM):HP:=HP.ex λz:Sl=>HP.star (pt a (.cells #[.slice z.a z.len z.cap] T.a38)) (HP.star (slc T.a0 7 z (outs.flatMap zp)) (z0i outs))
section
variable {w:World} {l r r1 r2:List HP} {lg ao:Nat} {M:LogM} {A:LogA} {D:DiskA} {gap:Int} {a:Nat} {t:SegM} {outs:List BatM}
theorem zmf (hs:Sat w (z4y ao outs::l)):∃ z:Sl,Sat w (pt ao (.cells #[.slice z.a z.len z.cap] T.a38)::slc T.a0 7 z (outs.flatMap zp)::z0i outs::l):=by
 obtain ⟨z,hs⟩:=hs.ex
 have hs:=hs.star
 exact ⟨z,((hs.pick [1]).star).pick [2]⟩
theorem zdk {z:Sl} (hs:Sat w (pt ao (.cells #[.slice z.a z.len z.cap] T.a38)::slc T.a0 7 z (outs.flatMap zp)::z0i outs::l)):Sat w (z4y ao outs::l) :=
 .ex_mk z (.star_mk (((hs.pick [1,1]).star_mk).pick [1]))
theorem zya {b:BatM} (hs:Sat w (slc T.a2 4 b.x (b.rs.flatMap z01)::z0i outs::l)):Sat w (z0i (outs++[b])::l):=by
 have h1:Sat w (HP.all ((b::outs).map rsP)::l):=by
  have h2:Sat w (rsP b::HP.all (outs.map rsP)::l):=hs
  exact h2.all_put
 exact h1.all_perm ((List.perm_append_comm (l₁:=[b]) (l₂:=outs)).map rsP)
theorem zl5 (hs:Sat w l):Sat w (z0i []::l):=hs.all_nil
theorem zdx {b:BatM} (hb:b ∈ outs):FocR (z0i outs::l) b.x 4 (b.rs.flatMap z01):=⟨λw hs=>by
 obtain ⟨L,hs⟩:=hs.all_mem (f:=rsP) hb
 exact Sat.rd hs⟩
theorem z07l (b:BatM) (off most:Int) (a1 a2:Nat) (ho : -9223372036854775808<=off/\off<9223372036854775808) (hcap:b.x.len<=b.x.cap) (hol:outs.length<=2000000) [hf:Fo l z4y ao outs r] [h1:FocB r a1 (.cells [.int .i64 off].toArray T.a14) r1] [h2:FocB r a2 (.cells [.int .i64 most].toArray T.a13) r2] [hb:FocR r b.x 4 (b.rs.flatMap z01)] (hs:Sat w l) :
  Ret P F.a120 #[.agg (zp b).toArray,.pointer (some ⟨a1,0,none⟩),.pointer (some ⟨ao,0,none⟩),.pointer (some ⟨a2,0,none⟩)] w λvs w'=>∃ outs':List BatM,vs=[.bool (decide ((outs'.length:Int)<most))]/\outs'.map BatM.p=outs.map BatM.p++(z0k off b).toList.map BatM.p/\Sat w' (z4y ao outs'::r) :=
 zo4 b.base b.pid b.epoch b.seq b.kind b.time b.x _ _ _ <| by
  delta z01w AI AJ AK AL AM AW Ac Ad Ag Ak Al Ap As Ay Bn Br
  obtain ⟨z,hs⟩:=zmf (hs.perm hf.perm)
  have hl:=hs.slen z (xs:=outs) (enc:=zp)
  refine zq hs λa0 w' hs=>?_
  refine zg hs ?_
  refine z8 hs ?_
  refine zb (z047 b off ho hcap hs) λ_ w' hs=>?_
  rcases hs with ⟨hn,rfl,hs⟩|⟨c,zc,hc,rfl,hs⟩
  ·refine ⟨(0,0,0,0,0,0,z8h,false,()),rfl,trivial,zeb _ _ _ _ _ _ _ _ ?_⟩
   refine zn hs λa3 w' hs=>?_
   refine zm hs λw' hs=>?_
   refine wp_lt ?_
   refine z4m ?_
   refine zu ?_ (by simp)
   refine z59 ?_
   refine z8 hs ?_
   refine z8 hs ?_
   refine wp_lt ?_
   refine ⟨rfl,outs,by rw [hl],by rw [hn];simp,zdk (z:=z) hs.sub⟩
  ·refine ⟨(c.base,c.pid,c.epoch,c.seq,c.kind,c.time,zc,true,()),rfl,trivial,zeb _ _ _ _ _ _ _ _ ?_⟩
   refine zn hs λa3 w' hs=>?_
   refine zm hs λw' hs=>?_
   refine wp_lt ?_
   refine z4m ?_
   refine z0p ?_ (by trivial)
   refine z8 hs ?_
   refine zg hs ?_
   refine z3w (xs:=outs) (enc:=zp) (y:=c.at zc) hs (λz' w' hs=>?_) rfl (by omega)
   refine z02 hs λw' hs=>?_
   refine z59 ?_
   refine z8 hs ?_
   refine z8 hs ?_
   refine wp_lt ?_
   have hs:Sat w' (pt ao (.cells #[.slice z'.a z'.len z'.cap] T.a38)::slc T.a0 7 z' ((outs++[c.at zc]).flatMap zp)::pt a3 _::slc T.a2 4 (c.at zc).x ((c.at zc).rs.flatMap z01)::pt a0 _::z0i outs::r):=hs
   have hl':=hs.slen z' (xs:=outs++[c.at zc]) (enc:=zp)
   refine ⟨rfl,outs++[c.at zc],by rw [hl'],by rw [hc];simp;rfl,?_⟩
   have hs:=zya (hs.pick [3,4])
   exact zdk (z:=z') (hs.pick [1,1,0]).sub
theorem z05e (off:Int) (hok:SegOk t.s) (hfl:t.s.file.length<=4194304) [hf:Fo l (z0o gap) a t r] (hs:Sat w l):Ret P F.a139 #[.pointer (some ⟨a,0,none⟩),.int .i64 off] w λvs w'=>vs=[.int .i64 (zx2 t.s (z3c (t.s.idx gap).l off))]/\Sat w' (z0o gap a t::r) :=
 zon _ off <| by
  delta z02f AH AI AJ Aa Ab Ad Ae Ag Ai Aj Ak Al Aq Au Bq
  have hi:IdxOk gap (shL t.s.base t.s.fin).length t.s.bs (t.s.idx gap):=zlu gap t.s.bs.length (n:=t.s.base) (q:=(shL t.s.base t.s.fin).length) rfl hok.base.1 (by omega) hok.bs (by have:=z49 t.s;omega)
  have hs:=z4b (hs.perm hf.perm)
  refine zj ?_
  refine z8 hs ?_
  refine zb (z06d (b:=t.ix) off hi.offs hs) λ_ w' hs=>?_
  obtain ⟨rfl,hs⟩:=hs
  refine ⟨((orE (z3c (t.s.idx gap).l off)).offset,(orE (z3c (t.s.idx gap).l off)).place,(orE (z3c (t.s.idx gap).l off)).before,(z3c (t.s.idx gap).l off).isSome,()),rfl,trivial,zkr _ _ _ _ ?_⟩
  refine zn hs λc w' hs=>?_
  refine zm hs λw' hs=>?_
  refine wp_lt ?_
  cases hfe:z3c (t.s.idx gap).l off with
  | some e =>
   refine z0p ?_ (by rfl)
   rw [hfe] at hs
   refine z8 hs ?_
   refine wp_lt ?_
   exact ⟨rfl,rfl,z2s t hs.sub⟩
  | none =>
   refine zu ?_ (by simp)
   refine zv hs λw' hs=>?_
   refine zj ?_
   refine z8 hs ?_
   refine zj ?_
   refine z8 hs ?_
   have hb:=hok.base
   have hfn:0<=t.s.fin/\t.s.fin<9223372036854775808:=by have:=hok.fin;omega
   refine zb (zlt t.s.base t.s.fin (by omega) hfn hs) λ_ w' hs=>?_
   obtain ⟨y,rfl,hs⟩:=hs
   refine zd ?_
   have hl:=hs.slen y (xs:=shL t.s.base t.s.fin) (enc:=zi)
   refine wp_lt ?_
   refine ze ?_
   refine ⟨rfl,?_,z2s t hs.sub⟩
   rw [hl]
   rfl
set_option maxHeartbeats 1000000 in
theorem z07o (off:Int) (most:Nat) (a1 a2:Nat) (ho : -9223372036854775808<=off/\off<9223372036854775808) {i k kp:Nat} (hsi:i<M.SM.length) (hok:SegOk M.SM[i].2.s) (hfile:z0r D.fs (zw M.pre M.SM[i].2.s.base z06)=some (M.SM[i].2.s.file,kp)) (hk:k<=M.SM[i].2.s.bs.length) (hout:outs.length<most) (hol:outs.length+M.SM[i].2.s.bs.length<=2000000)
  (hs:Sat w (z4y ao outs::lgQ lg M::dk M.d D::pt a1 (.cells [.int .i64 off].toArray T.a14)::pt a2 (.cells [.int .i64 (most:Int)].toArray T.a13)::r)) :
  Ret P F.a132 #[.pointer (some ⟨lg,0,none⟩),.pointer (some ⟨M.SM[i].1,0,none⟩),.int .i64 (z32 M.SM[i].2.s k:Nat),.func (.func F.a120) #[] #[.pointer (some ⟨a1,0,none⟩),.pointer (some ⟨ao,0,none⟩),.pointer (some ⟨a2,0,none⟩)]] w λvs w' =>
   ∃ outs':List BatM,vs=[.bool (decide (outs.length+((M.SM[i].2.s.bs.drop k).filterMap (z0k off)).length<most))]/\outs'.map BatM.p=(outs.map BatM.p++(M.SM[i].2.s.bs.drop k).filterMap (z0k off)).take most/\outs'.length<=outs.length+M.SM[i].2.s.bs.length /\
    Sat w' (z4y ao outs'::lgQ lg M::dk M.d D::pt a1 (.cells [.int .i64 off].toArray T.a14)::pt a2 (.cells [.int .i64 (most:Int)].toArray T.a13)::r) :=
 zog _ _ _ _ <| by
  delta z028 A9 AD AF AI AJ AK AM AN AR Aa Ab Ac Ad Ae Ag Ai Aj Ak Al Ao Av Ay Bc Bj Bk Bo Bp
  obtain ⟨m_,FS_,-,hokD,-⟩:=z2c (hs.pick [2])
  obtain ⟨hokm,hs⟩:=z2y (hs.pick [1])
  have hs:=z4b (za8 (hs.pick [2]) hsi)
  generalize hT:M.SM[i]=T0 at *
  obtain ⟨a,t⟩:=T0
  dsimp only at hok hfile hk hol hs ⊢
  have hrl:t.s.file.length<=4194304:=Nat.le_trans (zds hfile) hokD.used
  have hbl:=zhu hok
  have hb0:=hok.base
  refine zl (λq w'=>∃ x:Sl,q=(x,())/\x.len<=x.cap/\Sat w' (slc T.a58 1 x (t.s.file.flatMap zi)::pt a (.cells #[.pointer (some ⟨t.ix,0,none⟩),.int .i64 t.s.base,.int .i64 t.s.fin,.int .i64 (z0n t.s.bs),.int .i64 (z1g (-1) t.s.bs),.int .i64 (t.s.file.length:Nat)] T.a53)::z2n t.ix (t.s.idx M.gap)::HP.all ((M.SM.eraseIdx i).map λt=>z0o M.gap t.1 t.2)::pt lg (.cells #[.pointer (some ⟨M.d,0,none⟩),.string M.pre,.int .i64 M.seg,.int .i64 M.gap,.slice M.z.a M.z.len M.z.cap] T.a52)::slc T.a34 1 M.z ((M.SM.map Prod.fst).flatMap z1o)::z4y ao outs::dk M.d D::pt a1 (.cells [.int .i64 off].toArray T.a14)::pt a2 (.cells [.int .i64 (most:Int)].toArray T.a13)::r)) ?_ ?_
  ·refine zv hs λw' hs=>?_
   refine zj ?_
   refine z14 hs ?_
   refine zj ?_
   refine z8 hs ?_
   refine zb (z8f (lg:=lg) t.s.base (by omega) (ByteArray.mk #[46,108,111,103]) (by decide) M.pre hokm.size hs) λ_ w' hs=>?_
   obtain ⟨rfl,hs⟩:=hs
   refine zd ?_ (by first|trivial|(repeat (first|exact trivial|exact λ_=>z08 hs|exact λ_=>z0f hs|refine And.intro ?_ ?_)))
   refine ze ?_
   have en:zw M.pre t.s.base (bl (ByteArray.mk #[46,108,111,103]))=zw M.pre t.s.base z06:=rfl
   rw [en]
   refine zb (zh5 (d:=M.d) (A:=D) (zw M.pre t.s.base z06) hs) λ_ w' hs=>?_
   rcases hs with ⟨f,hff,hfn,x,rfl,hs⟩|⟨hno,rfl,hs⟩
   ·refine zd ?_
    refine wp_lt ?_
    refine ze ?_
    have hfd:z0r D.fs f.name=some (f.b,f.kept):=zd3 (z3g hokD.sorted) hff
    rw [hfn,hfile] at hfd
    simp only [Option.some.injEq,Prod.mk.injEq] at hfd
    rw [<- hfd.1] at hs
    have hcap:=hs.slc_cap
    exact zf ⟨x,rfl,hcap,hs.sub⟩
   ·rw [zbz.2 hno] at hfile
    cases hfile
  clear hs
  rintro _ w ⟨x,rfl,hcap,hs⟩
  refine zk ?_
  refine wp_lt ?_
  have hl:=hs.slen x (xs:=t.s.file) (enc:=zi)
  have hfin:∀ {w:World} {outs':List BatM},Sat w (slc T.a58 1 x (t.s.file.flatMap zi)::pt a (.cells #[.pointer (some ⟨t.ix,0,none⟩),.int .i64 t.s.base,.int .i64 t.s.fin,.int .i64 (z0n t.s.bs),.int .i64 (z1g (-1) t.s.bs),.int .i64 (t.s.file.length:Nat)] T.a53)::z2n t.ix (t.s.idx M.gap)::HP.all ((M.SM.eraseIdx i).map λt=>z0o M.gap t.1 t.2)::pt lg (.cells #[.pointer (some ⟨M.d,0,none⟩),.string M.pre,.int .i64 M.seg,.int .i64 M.gap,.slice M.z.a M.z.len M.z.cap] T.a52)::slc T.a34 1 M.z ((M.SM.map Prod.fst).flatMap z1o)::z4y ao outs'::dk M.d D::pt a1 (.cells [.int .i64 off].toArray T.a14)::pt a2 (.cells [.int .i64 (most:Int)].toArray T.a13)::r) ->
    Sat w (z4y ao outs'::lgQ lg M::dk M.d D::pt a1 (.cells [.int .i64 off].toArray T.a14)::pt a2 (.cells [.int .i64 (most:Int)].toArray T.a13)::r):=by
   intro w outs' hs
   have h1:Sat w (z0o M.gap M.SM[i].1 M.SM[i].2::HP.all ((M.SM.eraseIdx i).map λt=>z0o M.gap t.1 t.2)::pt lg (.cells #[.pointer (some ⟨M.d,0,none⟩),.string M.pre,.int .i64 M.seg,.int .i64 M.gap,.slice M.z.a M.z.len M.z.cap] T.a52)::slc T.a34 1 M.z ((M.SM.map Prod.fst).flatMap z1o)::z4y ao outs'::dk M.d D::pt a1 (.cells [.int .i64 off].toArray T.a14)::pt a2 (.cells [.int .i64 (most:Int)].toArray T.a13)::r):=by
    rw [hT]
    exact z2s t hs.tail
   have h2:=z7h hsi h1
   exact (z1n M hokm (h2.pick [1,1])).sub
  have hfull:∀ {outs':List BatM} {j:Nat},outs'.map BatM.p=outs.map BatM.p++((t.s.bs.drop k).take j).filterMap (z0k off)->outs'.length=outs.length+(((t.s.bs.drop k).take j).filterMap (z0k off)).length:=λh=>by
   have:=congrArg List.length h
   simpa using this
  refine zl (λ_ w'=>∃ outs':List BatM,outs'.map BatM.p=outs.map BatM.p++(t.s.bs.drop k).filterMap (z0k off)/\outs'.length<most/\outs'.length<=outs.length+t.s.bs.length/\Sat w' (slc T.a58 1 x (t.s.file.flatMap zi)::pt a (.cells #[.pointer (some ⟨t.ix,0,none⟩),.int .i64 t.s.base,.int .i64 t.s.fin,.int .i64 (z0n t.s.bs),.int .i64 (z1g (-1) t.s.bs),.int .i64 (t.s.file.length:Nat)] T.a53)::z2n t.ix (t.s.idx M.gap)::HP.all ((M.SM.eraseIdx i).map λt=>z0o M.gap t.1 t.2)::pt lg (.cells #[.pointer (some ⟨M.d,0,none⟩),.string M.pre,.int .i64 M.seg,.int .i64 M.gap,.slice M.z.a M.z.len M.z.cap] T.a52)::slc T.a34 1 M.z ((M.SM.map Prod.fst).flatMap z1o)::z4y ao outs'::dk M.d D::pt a1 (.cells [.int .i64 off].toArray T.a14)::pt a2 (.cells [.int .i64 (most:Int)].toArray T.a13)::r)) ?_ ?_
  rotate_left
  ·rintro _ w2 ⟨outs',h1,h2,h3,hs⟩
   have h4:=congrArg List.length h1
   simp only [List.length_map,List.length_append] at h4
   refine ⟨rfl,outs',by rw [decide_eq_true (by omega)],?_,h3,hfin hs⟩
   rw [<- h1,List.take_of_length_le]
   rw [List.length_map];omega
  refine z03 (λm v w=>∃ (j:Nat) (outs':List BatM),v=(((z32 t.s (k+j):Nat):Int),())/\k+j<=t.s.bs.length/\t.s.bs.length-(k+j)=m/\outs'.map BatM.p=outs.map BatM.p++((t.s.bs.drop k).take j).filterMap (z0k off)/\outs'.length<most/\outs'.length<=outs.length+j/\Sat w (slc T.a58 1 x (t.s.file.flatMap zi)::pt a (.cells #[.pointer (some ⟨t.ix,0,none⟩),.int .i64 t.s.base,.int .i64 t.s.fin,.int .i64 (z0n t.s.bs),.int .i64 (z1g (-1) t.s.bs),.int .i64 (t.s.file.length:Nat)] T.a53)::z2n t.ix (t.s.idx M.gap)::HP.all ((M.SM.eraseIdx i).map λt=>z0o M.gap t.1 t.2)::pt lg (.cells #[.pointer (some ⟨M.d,0,none⟩),.string M.pre,.int .i64 M.seg,.int .i64 M.gap,.slice M.z.a M.z.len M.z.cap] T.a52)::slc T.a34 1 M.z ((M.SM.map Prod.fst).flatMap z1o)::z4y ao outs'::dk M.d D::pt a1 (.cells [.int .i64 off].toArray T.a14)::pt a2 (.cells [.int .i64 (most:Int)].toArray T.a13)::r)) (t.s.bs.length-k)
   ⟨0,outs,rfl,by omega,by omega,by simp,hout,by omega,hs⟩ ?_
  clear hs
  rintro m _ w ⟨j,outs',rfl,hj,hm,hmap,hlt,hol',hs⟩
  refine zk ?_
  refine z0j ?_
  refine z8 hs ?_
  have hple:=zib t.s (k+j)
  refine zh (λhc=>?_) λhc=>?_
  rotate_left
  ·have hend:k+j=t.s.bs.length:=by
    apply Decidable.byContradiction
    intro hne
    have hlt2:k+j<t.s.bs.length:=by omega
    have h1:=zjq t.s hlt2
    have h2:=zib t.s (k+j+1)
    have h3:=z6r (hok.bs.valid _ (List.getElem_mem hlt2)).1
    exact hc ⟨by omega,by omega⟩
   refine zo (zf ⟨outs',?_,hlt,by omega,hs⟩)
   rw [hmap,List.take_of_length_le (by rw [List.length_drop];omega)]
  have hjl:k+j<t.s.bs.length:=by
   apply Decidable.byContradiction
   intro hne
   have he:k+j=t.s.bs.length:=by omega
   have h1:=zzs t.s
   rw [he] at hc
   have hc1:((z32 t.s t.s.bs.length:Nat):Int)<(x.len:Nat):=hc.1
   omega
  obtain ⟨hfst,hdec⟩:=zs8 hok hjl
  obtain ⟨hvb,hpb⟩:=hok.bs.valid _ (List.getElem_mem hjl)
  have hblen:=z7d hvb
  have hxl:z32 t.s (k+j)<=x.len:=by omega
  refine wp_must (by omega) ?_
  rw [Int.toNat_natCast]
  have hxc:FocR (slc T.a58 1 x (t.s.file.flatMap zi)::pt a (.cells #[.pointer (some ⟨t.ix,0,none⟩),.int .i64 t.s.base,.int .i64 t.s.fin,.int .i64 (z0n t.s.bs),.int .i64 (z1g (-1) t.s.bs),.int .i64 (t.s.file.length:Nat)] T.a53)::z2n t.ix (t.s.idx M.gap)::HP.all ((M.SM.eraseIdx i).map λt=>z0o M.gap t.1 t.2)::pt lg (.cells #[.pointer (some ⟨M.d,0,none⟩),.string M.pre,.int .i64 M.seg,.int .i64 M.gap,.slice M.z.a M.z.len M.z.cap] T.a52)::slc T.a34 1 M.z ((M.SM.map Prod.fst).flatMap z1o)::z4y ao outs'::dk M.d D::pt a1 (.cells [.int .i64 off].toArray T.a14)::pt a2 (.cells [.int .i64 (most:Int)].toArray T.a13)::r) ⟨z0q x.a 1 (z32 t.s (k+j)) x.cap,x.len-z32 t.s (k+j),x.cap-z32 t.s (k+j)⟩ 1 ((t.s.file.drop (z32 t.s (k+j))).flatMap zi):=FocR.post hcap
  refine zb (zby ⟨z0q x.a 1 (z32 t.s (k+j)) x.cap,x.len-z32 t.s (k+j),x.cap-z32 t.s (k+j)⟩ (t.s.file.drop (z32 t.s (k+j))) (by show x.len-_<=x.cap-_;omega) (by rw [List.length_drop];omega) hs) λ_ w' hs=>?_
  obtain ⟨y,rfl,hs⟩:=hs
  rw [hfst] at hs ⊢
  refine zd ?_
  refine wp_lt ?_
  refine wp_lt ?_
  dsimp only [Option.getD,Option.isSome]
  have hs:Sat w' (slc T.a58 1 y ((z2w t.s.bs[k+j]).flatMap zi)::_):=hs
  refine zu ?_ (by simp)
  refine zb (zle y (z2w t.s.bs[k+j]) (by omega) hs) λ_ w' hs=>?_
  rcases hs with ⟨b,z,hdec2,rfl,hs⟩|⟨hdec2,rfl,hs⟩
  rotate_left
  ·rw [hdec] at hdec2;cases hdec2
  rw [hdec] at hdec2
  simp only [Option.some.injEq] at hdec2
  subst hdec2
  generalize hbb:t.s.bs[k+j]=b at *
  refine ⟨(b.base,b.pid,b.epoch,b.seq,b.kind,b.time,z,0,()),rfl,trivial,zeb _ _ _ _ _ _ _ _ ?_⟩
  refine zn hs λc w' hs=>?_
  refine zm hs λw' hs=>?_
  refine wp_lt ?_
  have hzc:z.len<=z.cap:=(hs.pick [1]).slc_cap
  have htk:(t.s.bs.drop k).take (j+1)=(t.s.bs.drop k).take j++[b]:=by
   rw [List.take_succ_eq_append_getElem (by rw [List.length_drop];omega),List.getElem_drop,hbb]
  have hfp:(z0k off b).toList.map BatM.p=(z0k off b).toList:=by
   cases hfb:z0k off b with
   | none=>rfl
   | some c=>simp [zq5 hpb hfb]
  have hfm:((t.s.bs.drop k).take (j+1)).filterMap (z0k off)=((t.s.bs.drop k).take j).filterMap (z0k off)++(z0k off b).toList:=by
   rw [htk,List.filterMap_append]
   congr 1
  have hpos:=zjq t.s hjl
  rw [hbb] at hpos
  have hple2:=zib t.s (k+j+1)
  refine z4m ?_
  refine zg hs ?_
  refine zu ?_ (by simp)
  have hzb:FocR (pt c (.cells #[.int .i64 b.base,.int .i64 b.pid,.int .i64 b.epoch,.int .i64 b.seq,.int .i64 b.kind,.int .i64 b.time,.slice z.a z.len z.cap] T.a0)::slc T.a2 4 z (b.rs.flatMap z01)::slc T.a58 1 y ((z2w b).flatMap zi)::slc T.a58 1 x (t.s.file.flatMap zi)::pt a (.cells #[.pointer (some ⟨t.ix,0,none⟩),.int .i64 t.s.base,.int .i64 t.s.fin,.int .i64 (z0n t.s.bs),.int .i64 (z1g (-1) t.s.bs),.int .i64 (t.s.file.length:Nat)] T.a53)::z2n t.ix (t.s.idx M.gap)::HP.all ((M.SM.eraseIdx i).map λt=>z0o M.gap t.1 t.2)::pt lg (.cells #[.pointer (some ⟨M.d,0,none⟩),.string M.pre,.int .i64 M.seg,.int .i64 M.gap,.slice M.z.a M.z.len M.z.cap] T.a52)::slc T.a34 1 M.z ((M.SM.map Prod.fst).flatMap z1o)::dk M.d D::pt a1 (.cells [.int .i64 off].toArray T.a14)::pt a2 (.cells [.int .i64 (most:Int)].toArray T.a13)::r) (b.at z).x 4 ((b.at z).rs.flatMap z01):=(inferInstance:FocR (pt c (.cells #[.int .i64 b.base,.int .i64 b.pid,.int .i64 b.epoch,.int .i64 b.seq,.int .i64 b.kind,.int .i64 b.time,.slice z.a z.len z.cap] T.a0)::slc T.a2 4 z (b.rs.flatMap z01)::_) z 4 (b.rs.flatMap z01))
  have hs:Sat w' (z4y ao outs'::pt c (.cells #[.int .i64 b.base,.int .i64 b.pid,.int .i64 b.epoch,.int .i64 b.seq,.int .i64 b.kind,.int .i64 b.time,.slice z.a z.len z.cap] T.a0)::slc T.a2 4 z (b.rs.flatMap z01)::slc T.a58 1 y ((z2w b).flatMap zi)::slc T.a58 1 x (t.s.file.flatMap zi)::pt a (.cells #[.pointer (some ⟨t.ix,0,none⟩),.int .i64 t.s.base,.int .i64 t.s.fin,.int .i64 (z0n t.s.bs),.int .i64 (z1g (-1) t.s.bs),.int .i64 (t.s.file.length:Nat)] T.a53)::z2n t.ix (t.s.idx M.gap)::HP.all ((M.SM.eraseIdx i).map λt=>z0o M.gap t.1 t.2)::pt lg (.cells #[.pointer (some ⟨M.d,0,none⟩),.string M.pre,.int .i64 M.seg,.int .i64 M.gap,.slice M.z.a M.z.len M.z.cap] T.a52)::slc T.a34 1 M.z ((M.SM.map Prod.fst).flatMap z1o)::dk M.d D::pt a1 (.cells [.int .i64 off].toArray T.a14)::pt a2 (.cells [.int .i64 (most:Int)].toArray T.a13)::r):=hs.sub
  have htold:=z07l (ao:=ao) (outs:=outs') (b.at z) off (most:Int) a1 a2 ho hzc (by omega) hs
  refine ⟨F.a120,#[],#[.pointer (some ⟨a1,0,none⟩),.pointer (some ⟨ao,0,none⟩),.pointer (some ⟨a2,0,none⟩)],rfl,by kernel_rfl,?_⟩
  refine Calls.mono htold λe w' ⟨vs,he,outs2,hvs,hmap2,hs⟩=>⟨(decide ((outs2.length:Int)<(most:Int)),()),by rw [he,hvs];rfl,trivial,?_⟩
  refine z59 ?_
  have hfe:(z0k off (b.at z)).toList.map BatM.p=(z0k off b).toList:=by
   have hpz:b={ (b.at z) with x:=z8h }:=by rw [<- hpb];rfl
   have e2:z0k off (b.at z)=(z0k off b).map λc=>c.at z:=by
    unfold z0k
    have ev:z07 (b.at z)=z07 b:=rfl
    have en:z1d (b.at z)=z1d b:=rfl
    have em:z04 (b.at z)=z04 b:=rfl
    rw [ev,en,em]
    split
    ·rfl
    ·show (if z04 b=true\/off<=b.base then _ else _)=_
     split <;> rfl
   rw [e2]
   cases hfb:z0k off b with
   | none=>rfl
   | some c =>
    have:=zq5 hpb hfb
    show [(c.at z).p]=[c]
    have e3:(c.at z).p=c.p:=rfl
    rw [e3,this]
  rw [hfe,hmap,List.append_assoc,<- hfm] at hmap2
  have hlen2:=hfull hmap2
  have hfl1:(z0k off b).toList.length<=1:=by cases z0k off b <;> simp
  have hlen1:=hfull hmap
  rw [hfm,List.length_append] at hlen2
  have hback:∀ {w:World},Sat w (z4y ao outs2::pt c (.cells #[.int .i64 b.base,.int .i64 b.pid,.int .i64 b.epoch,.int .i64 b.seq,.int .i64 b.kind,.int .i64 b.time,.slice z.a z.len z.cap] T.a0)::slc T.a2 4 z (b.rs.flatMap z01)::slc T.a58 1 y ((z2w b).flatMap zi)::slc T.a58 1 x (t.s.file.flatMap zi)::pt a (.cells #[.pointer (some ⟨t.ix,0,none⟩),.int .i64 t.s.base,.int .i64 t.s.fin,.int .i64 (z0n t.s.bs),.int .i64 (z1g (-1) t.s.bs),.int .i64 (t.s.file.length:Nat)] T.a53)::z2n t.ix (t.s.idx M.gap)::HP.all ((M.SM.eraseIdx i).map λt=>z0o M.gap t.1 t.2)::pt lg (.cells #[.pointer (some ⟨M.d,0,none⟩),.string M.pre,.int .i64 M.seg,.int .i64 M.gap,.slice M.z.a M.z.len M.z.cap] T.a52)::slc T.a34 1 M.z ((M.SM.map Prod.fst).flatMap z1o)::dk M.d D::pt a1 (.cells [.int .i64 off].toArray T.a14)::pt a2 (.cells [.int .i64 (most:Int)].toArray T.a13)::r) ->
    Sat w (slc T.a58 1 x (t.s.file.flatMap zi)::pt a (.cells #[.pointer (some ⟨t.ix,0,none⟩),.int .i64 t.s.base,.int .i64 t.s.fin,.int .i64 (z0n t.s.bs),.int .i64 (z1g (-1) t.s.bs),.int .i64 (t.s.file.length:Nat)] T.a53)::z2n t.ix (t.s.idx M.gap)::HP.all ((M.SM.eraseIdx i).map λt=>z0o M.gap t.1 t.2)::pt lg (.cells #[.pointer (some ⟨M.d,0,none⟩),.string M.pre,.int .i64 M.seg,.int .i64 M.gap,.slice M.z.a M.z.len M.z.cap] T.a52)::slc T.a34 1 M.z ((M.SM.map Prod.fst).flatMap z1o)::z4y ao outs2::dk M.d D::pt a1 (.cells [.int .i64 off].toArray T.a14)::pt a2 (.cells [.int .i64 (most:Int)].toArray T.a13)::r):=λhs=>hs.sub
  have hs:=hback hs
  refine zh (λh5=>?_) λh5=>?_
  ·have h5:most<=outs2.length:=by
    have:¬ ((outs2.length:Int)<(most:Int)):=by simpa using h5
    omega
   have h6:outs2.length=most:=by omega
   have h7:((t.s.bs.drop k).filterMap (z0k off))=((t.s.bs.drop k).take (j+1)).filterMap (z0k off)++((t.s.bs.drop k).drop (j+1)).filterMap (z0k off):=by
    rw [<- List.filterMap_append,List.take_append_drop]
   have h8:=congrArg List.length hmap2
   simp only [List.length_map,List.length_append] at h8
   refine zo (zo ⟨rfl,outs2,?_,?_,by omega,hfin hs⟩)
   ·rw [decide_eq_false]
    rw [h7,List.length_append]
    omega
   ·rw [h7,<- List.append_assoc,<- hmap2]
    rw [List.take_append_of_le_length (by rw [List.length_map];omega),List.take_of_length_le (by rw [List.length_map];omega)]
  ·have h5:outs2.length<most:=by
    have:((outs2.length:Int)<(most:Int)):=by simpa using h5
    omega
   have ew:IntKind.wrap .i64 (((z32 t.s (k+j):Nat):Int)+((frL b).length:Nat))=((z32 t.s (k+(j+1)):Nat):Int):=by
    rw [show k+(j+1)=k+j+1 by omega,hpos,w64 (by omega) (by omega)];omega
   refine z1t (y:=((z32 t.s (k+(j+1)):Nat):Int)) ?_ ew
   exact z0l (t.s.bs.length-(k+(j+1))) ⟨j+1,outs2,rfl,by omega,rfl,hmap2,h5,by omega,hs⟩
end
def zkv (pre:ByteArray) (l:List SegA) (D:DiskA):Prop:=∀ s ∈ l,∃ k,z0r D.fs (zw pre s.base z06)=some (s.file,k)
theorem zj7 {l:List SegA} (hok:z0s 0 l):∀ s ∈ l,z0t l<=s.base:=by
 cases l with
 | nil=>intro s hs;cases hs
 | cons a l =>
  intro s hs
  show a.base<=s.base
  rcases List.mem_cons.1 hs with rfl|hs
  ·exact Int.le_refl _
  ·have:=(hok.2.2.mem s hs).2
   omega
theorem zgn {l:List SegA} (hok:z0s 0 l):z0t l<=zy l:=by
 by_cases h:l=[]
 ·subst h;decide
 ·obtain ⟨l0,s,rfl⟩:=z7p h
  have h1:=zj7 hok s (by simp)
  have h2:=(z6i (hok.mem s (by simp)).1).1
  unfold zy
  rw [z1x]
  simp only
  omega
theorem z03m {n:Int} {bs:List BatM} (h:z1w n bs):∀ b ∈ bs,n<=b.base:=by
 intro b hb
 obtain ⟨j,hj,rfl⟩:=List.mem_iff_getElem.1 hb
 cases j with
 | zero =>
  cases bs with
  | nil=>simp at hj
  | cons c cs=>exact h.2.2.1
 | succ j =>
  have h1:=h.lt 0 (j+1) hj (by omega)
  obtain ⟨s1,-,-,-,-⟩:=z16 _ (h.valid _ (List.getElem_mem (show 0<bs.length by omega))).1
  omega
theorem zwc {off:Int} {b:BatM} (hv:z07 b=0) (h:off<=b.base):z0k off b=some b:=by
 obtain ⟨s1,-,-,-,-⟩:=z16 b hv
 unfold z0k
 rw [if_neg,if_pos (.inr h)]
 rintro (hh|hh)
 ·exact hh hv
 ·unfold z1d at hh;rw [if_neg (by rw [hv];simp)] at hh;omega
theorem zln {α:Type} {f:α->Option α} {l:List α} (h:∀ x ∈ l,f x=some x):l.filterMap f=l:=by
 induction l with
 | nil=>rfl
 | cons a l ih=>rw [List.filterMap_cons,h a (List.mem_cons_self ..)];simp only;rw [ih λx hx=>h x (List.mem_cons_of_mem _ hx)]
theorem z003 {l:List SegA} (hok:z0s 0 l) {n:Int} (hn:(z0d l).length<=n) (h1:1<=n):z3h l (z0t l) n=(0,z0d l):=by
 have:=zgn hok
 unfold z3h
 rw [if_neg (by omega),if_neg (by omega),zln,List.take_of_length_le (by omega)]
 intro b hb
 obtain ⟨s,hs,hbs⟩:=List.mem_flatMap.1 hb
 have h2:=hok.mem s hs
 exact zwc (h2.1.bs.valid b hbs).1 (by have:=zj7 hok s hs;have:=z03m h2.1.bs b hbs;omega)
section
variable {w:World} {l r r1 r2:List HP} {lg ao:Nat} {M:LogM} {A:LogA} {D:DiskA} {gap:Int} {a:Nat} {t:SegM} {outs:List BatM}
theorem z002 (i:Nat) (a0 a1:Nat) (off:Int) (hi:i<M.SM.length)
  (hs:Sat w (pt a0 (.cells [.pointer (some ⟨lg,0,none⟩)].toArray T.a33)::pt a1 (.cells [.int .i64 off].toArray T.a14)::lgQ lg M::r)) :
  Ret P F.a119 #[.int .i64 (i:Int),.pointer (some ⟨a0,0,none⟩),.pointer (some ⟨a1,0,none⟩)] w λvs w'=>vs=[.bool (decide (M.SM[i].2.s.base>off))]/\Sat w' (pt a0 (.cells [.pointer (some ⟨lg,0,none⟩)].toArray T.a33)::pt a1 (.cells [.int .i64 off].toArray T.a14)::lgQ lg M::r) :=
 zo3 _ _ _ <| by
  delta z01v AH Aa Ab Ad Ae Af Ag Aj Ay Bl Bn
  obtain ⟨hokm,hs⟩:=z2y (hs.pick [2])
  refine zv hs λw' hs=>?_
  refine z8 hs ?_
  refine zj ?_
  refine z8 hs ?_
  refine z1z hs (xs:=M.SM.map Prod.fst) (enc:=z1o) i (by rw [List.length_map];exact hi) ?_
  have e0:(M.SM.map Prod.fst)[i]'(by rw [List.length_map];exact hi)=M.SM[i].1:=by simp
  rw [e0]
  refine zj ?_
  have hs:=z4b (za8 (hs.pick [2]) hi)
  refine z8 hs ?_
  refine z8 hs ?_
  refine wp_lt ?_
  refine ze ?_
  have hs:=z7h hi (z2s M.SM[i].2 hs)
  have hs:=z1n M hokm (hs.pick [1,1])
  exact ⟨rfl,rfl,hs.sub⟩
set_option maxHeartbeats 1000000 in
theorem zqj (off most:Int) (ho : -9223372036854775808<=off/\off<9223372036854775808) (hmo:most<9223372036854775808) {r1:List HP} [hf:Fo l lgP lg A r1] [hf2:Fo r1 dk A.d D r] (hok:z0s 0 A.l) (hhas:zkv A.pre A.l D) (hlen:A.l.length<=1000000) (hall:(z0d A.l).length<=1000000) (hs:Sat w l) :
  Ret P F.a118 #[.pointer (some ⟨lg,0,none⟩),.int .i64 off,.int .i64 most] w λvs w'=>∃ (z:Sl) (outs:List BatM),vs=[z.v,.int .i64 (z3h A.l off most).1]/\outs.map BatM.p=(z3h A.l off most).2/\Sat w' (slc T.a0 7 z (outs.flatMap zp)::z0i outs::lgP lg A::dk A.d D::r) :=
 zo2 _ off most <| by
  clear hmo
  delta z01u A8 AC AH AI AK AR AU AV AW Aa Ac Ad Ae Af Ag Ai Aj Ak Al Ao As Au Av Aw Ay
  have hs:=hs.perm (hf.perm.trans (.cons _ hf2.perm))
  clear hf hf2
  obtain ⟨M,rfl,hs⟩:=z8d hs
  have hMl:M.A.l=M.l:=rfl
  have hMpre:M.A.pre=M.pre:=rfl
  have hMd:M.A.d=M.d:=rfl
  rw [hMl] at hlen hok hhas hall ⊢
  rw [hMpre] at hhas
  rw [hMd] at hs ⊢
  have hll:M.l.length=M.SM.length:=List.length_map ..
  have z2t:∀ (i:Nat) (h:i<M.SM.length),M.SM[i].2.s=M.l[i]'(by omega):=λi h=>by unfold LogM.l;simp
  obtain ⟨m_,FS_,-,hokD,-⟩:=z2c (hs.pick [1])
  refine zq hs λa0 w' hs=>?_
  refine zq hs λa1 w' hs=>?_
  refine zq hs λa2 w' hs=>?_
  refine z8 hs ?_
  refine wp_lt ?_
  refine zu ?_ (by simp)
  refine z8 hs ?_
  refine wp_lt ?_
  have hfin0:∀ {w:World} {L:List HP},Sat w (lgQ lg M::dk M.d D::r)->Sat w (slc T.a0 7 ⟨none,0,0⟩ (([]:List BatM).flatMap zp)::z0i []::lgP lg M.A::dk M.d D::r):=λhs=>(zl5 (z4p M hs)).slc_nil
  unfold z3h
  refine zh (λh=>?_) λh=>?_
  ·rw [if_pos (show most<1 by omega)]
   have hs:Sat w' (lgQ lg M::dk M.d D::r):=hs.sub
   exact ⟨rfl,⟨none,0,0⟩,[],rfl,rfl,hfin0 (L:=[]) hs⟩
  rw [if_neg (show ¬ most<1 by omega)]
  refine zl (λq w'=>q=(decide (off<z0t M.l\/off>zy M.l),())/\Sat w' (pt a2 (.cells [.int .i64 most].toArray T.a13)::pt a1 (.cells [.int .i64 off].toArray T.a14)::pt a0 (.cells [.pointer (some ⟨lg,0,none⟩)].toArray T.a33)::lgQ lg M::dk M.d D::r)) ?_ ?_
  ·refine zv hs λw' hs=>?_
   refine z14 hs ?_
   refine z8 hs ?_
   refine zb (zhv (lg:=lg) hs) λ_ w' hs=>?_
   obtain ⟨rfl,hs⟩:=hs
   refine zd ?_ (by first|trivial|(repeat (first|exact trivial|exact λ_=>z08 hs|exact λ_=>z0f hs|refine And.intro ?_ ?_)))
   refine z14 hs ?_
   refine z8 hs ?_
   refine zh (λh1=>?_) λh1=>?_
   ·refine ze ?_
    exact zf ⟨by rw [decide_eq_true (.inl h1)],hs.sub⟩
   ·refine zb (zbg (lg:=lg) (by omega) hs) λ_ w' hs=>?_
    obtain ⟨rfl,hs⟩:=hs
    refine zd ?_ (by first|trivial|(repeat (first|exact trivial|exact λ_=>z08 hs|exact λ_=>z0f hs|refine And.intro ?_ ?_)))
    refine wp_lt ?_
    refine ze ?_
    refine zf ⟨?_,hs.sub⟩
    rw [decide_eq_decide.2 (show (off<z0t M.l\/off>zy M.l)↔off>zy M.l from ⟨λhh=>hh.resolve_left h1,.inr⟩)]
  rintro _ w2 ⟨rfl,hs⟩
  refine zh (λh1=>?_) λh1=>?_
  ·have h1:off<z0t M.l\/off>zy M.l:=by simpa using h1
   rw [if_pos h1]
   have hs:Sat w2 (lgQ lg M::dk M.d D::r):=hs.sub
   exact ⟨rfl,⟨none,0,0⟩,[],rfl,rfl,hfin0 (L:=[]) hs⟩
  have h1:¬ (off<z0t M.l\/off>zy M.l):=by simpa using h1
  rw [if_neg h1]
  obtain ⟨mN,rfl⟩:∃ mN:Nat,most=(mN:Int):=⟨most.toNat,by omega⟩
  rw [Int.toNat_natCast]
  refine zn hs λao w' hs=>?_
  refine z8 hs ?_
  refine zj ?_
  obtain ⟨hokm,hs⟩:=z2y (hs.pick [4])
  refine z8 hs ?_
  have hl:=hs.slen M.z (xs:=M.SM.map Prod.fst) (enc:=z1o)
  rw [List.length_map] at hl
  have hs:=z1n M hokm hs
  have hs:Sat w' (pt a0 (.cells [.pointer (some ⟨lg,0,none⟩)].toArray T.a33)::pt a1 (.cells [.int .i64 off].toArray T.a14)::lgQ lg M::pt ao (.cells #[.slice none 0 0] T.a38)::pt a2 (.cells [.int .i64 (mN:Int)].toArray T.a13)::dk M.d D::r):=hs.sub
  rw [hl]
  refine zb (zfz M.SM.length (by omega) F.a119 #[.pointer (some ⟨a0,0,none⟩),.pointer (some ⟨a1,0,none⟩)] (λi=>decide (((M.l.map SegA.base).getD i 0)>off)) (by kernel_rfl) (λi w hi hs=>?_) hs) λ_ w' hs=>?_
  ·have e:(M.l.map SegA.base).getD i 0=M.SM[i].2.s.base:=by
    rw [List.getD_eq_getElem?_getD,List.getElem?_map,List.getElem?_eq_getElem (by omega),z2t i hi];rfl
   simp only [e]
   exact z002 (M:=M) i a0 a1 off hi hs
  obtain ⟨i0,hi0,hs1,hs2,rfl,hs⟩:=hs
  refine zd ?_
  refine z1t (y:=(i0:Int)-1) ?_ (by rw [w64 (by omega) (by omega)])
  refine z1t (y:=((i0-1:Nat):Int)) ?_ (by split <;> omega)
  have hskip:i0-1<M.SM.length->(z0d M.l).filterMap (z0k off)=(z0d (M.l.drop (i0-1))).filterMap (z0k off):=λhlt=>by
   refine z00c hok (i:=i0-1) (by omega) ?_
   by_cases h0:i0=0
   ·right;omega
   ·left
    have h2:=hs1 (by omega)
    rw [List.getD_eq_getElem?_getD,List.getElem?_map,List.getElem?_eq_getElem (by omega)] at h2
    have h2:decide ((M.l[i0-1]'(by omega)).base>off)=false:=h2
    simpa using h2
  have hs:Sat w' (z4y ao []::lgQ lg M::dk M.d D::pt a1 (.cells [.int .i64 off].toArray T.a14)::pt a2 (.cells [.int .i64 (mN:Int)].toArray T.a13)::pt a0 (.cells [.pointer (some ⟨lg,0,none⟩)].toArray T.a33)::r):=by
   have h3:Sat w' (slc T.a0 7 ⟨none,0,0⟩ (([]:List BatM).flatMap zp)::z0i []::_):=(zl5 hs).slc_nil
   have h4:Sat w' (pt ao (.cells #[.slice none 0 0] T.a38)::slc T.a0 7 ⟨none,0,0⟩ (([]:List BatM).flatMap zp)::z0i []::lgQ lg M::dk M.d D::pt a1 (.cells [.int .i64 off].toArray T.a14)::pt a2 (.cells [.int .i64 (mN:Int)].toArray T.a13)::pt a0 (.cells [.pointer (some ⟨lg,0,none⟩)].toArray T.a33)::r):=h3.sub
   exact zdk (z:=⟨none,0,0⟩) h4
  refine zl (λ_ w'=>∃ outs:List BatM,outs.map BatM.p=((z0d M.l).filterMap (z0k off)).take mN/\Sat w' (z4y ao outs::lgQ lg M::dk M.d D::pt a1 (.cells [.int .i64 off].toArray T.a14)::pt a2 (.cells [.int .i64 (mN:Int)].toArray T.a13)::pt a0 (.cells [.pointer (some ⟨lg,0,none⟩)].toArray T.a33)::r)) ?_ ?_
  rotate_left
  ·rintro _ w3 ⟨outs,h4,hs⟩
   obtain ⟨z,hs⟩:=zmf hs
   refine z8 hs ?_
   refine ⟨rfl,z,outs,rfl,h4,?_⟩
   have hs:Sat w3 (lgQ lg M::slc T.a0 7 z (outs.flatMap zp)::z0i outs::dk M.d D::r):=hs.sub
   have hs:=z4p M hs
   exact hs.sub
  have hpre:∀ (j:Nat),i0-1<=j->j<=M.l.length->(z0d ((M.l.drop (i0-1)).take (j-(i0-1)))).length<=1000000:=λj h1 h2=>by
   refine Nat.le_trans ?_ hall
   have:∀ (a b:List SegA),a.Sublist b->(z0d a).length<=(z0d b).length:=λa b h=>by
    induction h with
    | slnil=>exact Nat.le_refl _
    | cons x _ ih=>unfold z0d at *;rw [List.flatMap_cons,List.length_append];omega
    | cons_cons x _ ih=>unfold z0d at *;rw [List.flatMap_cons,List.flatMap_cons,List.length_append,List.length_append];omega
   exact this _ _ ((List.take_sublist _ _).trans (List.drop_sublist _ _))
  refine z03 (λm v w=>∃ (j:Nat) (outs:List BatM),v=((j:Int),())/\i0-1<=j/\(j<=M.SM.length\/j=i0-1)/\M.SM.length-j=m/\outs.map BatM.p=(z0d ((M.l.drop (i0-1)).take (j-(i0-1)))).filterMap (z0k off)/\outs.length<mN /\
   Sat w (z4y ao outs::lgQ lg M::dk M.d D::pt a1 (.cells [.int .i64 off].toArray T.a14)::pt a2 (.cells [.int .i64 (mN:Int)].toArray T.a13)::pt a0 (.cells [.pointer (some ⟨lg,0,none⟩)].toArray T.a33)::r)) (M.SM.length-(i0-1))
   ⟨i0-1,[],rfl,Nat.le_refl _,.inr rfl,rfl,by simp [z0d],by show 0<mN;omega,hs⟩ ?_
  clear hs
  rintro m _ w ⟨j,outs,rfl,hj1,hj2,hm,hmap,hlt,hs⟩
  refine zk ?_
  refine z8 hs ?_
  refine zj ?_
  obtain ⟨hokm,hs⟩:=z2y (hs.pick [1])
  refine z8 hs ?_
  refine zh (λhc=>?_) λhc=>?_
  rotate_left
  ·have hs:=z1n M hokm hs
   refine zo (zf ⟨outs,?_,hs.sub⟩)
   by_cases hlt2:i0-1<M.SM.length
   ·have hje:j=M.SM.length:=by omega
    rw [hskip hlt2,hmap,hje]
    rw [List.take_of_length_le (l:=M.l.drop (i0-1)) (by rw [List.length_drop];omega)] at hmap ⊢
    have:=congrArg List.length hmap
    rw [List.length_map] at this
    rw [List.take_of_length_le (by omega)]
   ·have h0:M.l=[]:=List.length_eq_zero_iff.1 (by omega)
    rw [hmap,h0]
    simp [z0d]
  have hjl:j<M.SM.length:=by omega
  refine z8 hs ?_
  refine zj ?_
  refine z8 hs ?_
  refine z1z hs (xs:=M.SM.map Prod.fst) (enc:=z1o) j (by rw [List.length_map];exact hjl) ?_
  have e0:(M.SM.map Prod.fst)[j]'(by rw [List.length_map];exact hjl)=M.SM[j].1:=by simp
  rw [e0]
  have hmem:M.SM[j].2.s ∈ M.l:=List.mem_map.2 ⟨_,List.getElem_mem hjl,rfl⟩
  have hsok:=(hok.mem _ hmem).1
  obtain ⟨kp,hfile⟩:=hhas _ hmem
  have hrl:M.SM[j].2.s.file.length<=4194304:=Nat.le_trans (zds hfile) hokD.used
  have hbl:=zhu hsok
  obtain ⟨k,hk,hpl,hskp⟩:=zw7 hsok hrl M.gap off
  have hlt2:i0-1<M.SM.length:=by omega
  have hstep:(M.l.drop (i0-1)).take (j+1-(i0-1))=(M.l.drop (i0-1)).take (j-(i0-1))++[M.SM[j].2.s]:=by
   rw [show j+1-(i0-1)=(j-(i0-1))+1 by omega,List.take_succ_eq_append_getElem (by rw [List.length_drop];omega),List.getElem_drop,z2t j hjl]
   congr 3
   omega
  have hnone:(M.SM[j].2.s.bs).filterMap (z0k off)=(M.SM[j].2.s.bs.drop k).filterMap (z0k off):=by
   have e:M.SM[j].2.s.bs=M.SM[j].2.s.bs.take k++M.SM[j].2.s.bs.drop k:=(List.take_append_drop _ _).symm
   calc (M.SM[j].2.s.bs).filterMap (z0k off)=(M.SM[j].2.s.bs.take k++M.SM[j].2.s.bs.drop k).filterMap (z0k off):=by rw [<- e]
    _=(M.SM[j].2.s.bs.drop k).filterMap (z0k off):=by
     rw [List.filterMap_append,zba (l:=M.SM[j].2.s.bs.take k),List.nil_append]
     intro b hb
     exact zgo (hsok.bs.valid b (List.mem_of_mem_take hb)).1 (hskp b hb)
  have hall2:(z0d ((M.l.drop (i0-1)).take (j+1-(i0-1)))).filterMap (z0k off)=(z0d ((M.l.drop (i0-1)).take (j-(i0-1)))).filterMap (z0k off)++(M.SM[j].2.s.bs.drop k).filterMap (z0k off):=by
   rw [hstep]
   unfold z0d
   rw [List.flatMap_append,List.filterMap_append,<- hnone]
   simp
  have hol:outs.length<=1000000:=by
   have:=congrArg List.length hmap
   rw [List.length_map] at this
   rw [this]
   exact Nat.le_trans (List.length_filterMap_le _ _) (hpre j hj1 (by omega))
  refine zl (λq w'=>∃ outs':List BatM,q=(decide (outs.length+((M.SM[j].2.s.bs.drop k).filterMap (z0k off)).length<mN),())/\outs'.map BatM.p=(outs.map BatM.p++(M.SM[j].2.s.bs.drop k).filterMap (z0k off)).take mN /\
    Sat w' (z4y ao outs'::lgQ lg M::dk M.d D::pt a1 (.cells [.int .i64 off].toArray T.a14)::pt a2 (.cells [.int .i64 (mN:Int)].toArray T.a13)::pt a0 (.cells [.pointer (some ⟨lg,0,none⟩)].toArray T.a33)::r)) ?_ ?_
  ·refine zv hs λw' hs=>?_
   refine z14 hs ?_
   refine z8 hs ?_
   have hs:=za8 (hs.pick [2]) hjl
   refine zb (z05e (gap:=M.gap) (a:=M.SM[j].1) (t:=M.SM[j].2) off hsok hrl hs) λ_ w' hs=>?_
   obtain ⟨rfl,hs⟩:=hs
   refine zd ?_ (by first|trivial|(repeat (first|exact trivial|exact λ_=>z08 hs|exact λ_=>z0f hs|refine And.intro ?_ ?_)))
   refine ze ?_
   have hs:=z7h hjl hs
   have hs:=z1n M hokm (hs.pick [1,1])
   have hs:Sat w' (z4y ao outs::lgQ lg M::dk M.d D::pt a1 (.cells [.int .i64 off].toArray T.a14)::pt a2 (.cells [.int .i64 (mN:Int)].toArray T.a13)::pt a0 (.cells [.pointer (some ⟨lg,0,none⟩)].toArray T.a33)::r):=hs.sub
   rw [hpl]
   refine zb (z07o off mN a1 a2 ho hjl hsok hfile hk hlt (by omega) hs) λ_ w' hs=>?_
   obtain ⟨outs',rfl,hm2,-,hs⟩:=hs
   refine zd ?_
   refine wp_lt ?_
   refine ze ?_
   exact zf ⟨outs',rfl,hm2,hs⟩
  clear hs
  rintro _ w3 ⟨outs',rfl,hm2,hs⟩
  rw [hmap,<- hall2] at hm2
  have hlm:=congrArg List.length hmap
  rw [List.length_map] at hlm
  refine zh (λh5=>?_) λh5=>?_
  ·have h5:¬ (outs.length+((M.SM[j].2.s.bs.drop k).filterMap (z0k off)).length<mN):=by simpa using h5
   refine zo (zf ⟨outs',?_,hs⟩)
   rw [hm2,hskip hlt2]
   have e:z0d (M.l.drop (i0-1))=z0d ((M.l.drop (i0-1)).take (j+1-(i0-1)))++z0d ((M.l.drop (i0-1)).drop (j+1-(i0-1))):=by
    unfold z0d;rw [<- List.flatMap_append,List.take_append_drop]
   rw [e,List.filterMap_append,List.take_append_of_le_length]
   rw [hall2,List.length_append]
   omega
  ·have h5:(outs.length+((M.SM[j].2.s.bs.drop k).filterMap (z0k off)).length<mN):=by simpa using h5
   refine z1t (y:=((j+1:Nat):Int)) ?_ (by rw [w64 (by omega) (by omega)];omega)
   have hll2:((z0d ((M.l.drop (i0-1)).take (j+1-(i0-1)))).filterMap (z0k off)).length<mN:=by rw [hall2,List.length_append];omega
   rw [List.take_of_length_le (by omega)] at hm2
   have hl3:=congrArg List.length hm2
   rw [List.length_map] at hl3
   exact z0l (M.SM.length-(j+1)) ⟨j+1,outs',rfl,by omega,.inl (by omega),rfl,hm2,by omega,hs⟩
theorem zwh {r1:List HP} [hf:Fo l lgP lg A r1] [hf2:Fo r1 dk A.d D r] (hok:z0s 0 A.l) (hhas:zkv A.pre A.l D) (hlen:A.l.length<=1000000) (hall:(z0d A.l).length<=1000000) (hs:Sat w l) :
  Ret P F.a114 #[.pointer (some ⟨lg,0,none⟩)] w λvs w'=>∃ (z:Sl) (outs:List BatM),vs=[z.v]/\outs.map BatM.p=z0d A.l/\Sat w' (slc T.a0 7 z (outs.flatMap zp)::z0i outs::lgP lg A::dk A.d D::r) :=
 zny _ <| by
  delta z01q A9 AC Ac Ad Ai Ak Al
  have hs:=hs.perm (hf.perm.trans (.cons _ hf2.perm))
  clear hf hf2
  have hfn:=zgn hok
  have hnx:=hok.next (Int.le_refl 0)
  have hf0:0<=z0t A.l:=by
   cases hq:A.l with
   | nil=>decide
   | cons s l0=>rw [hq] at hok;have:=hok.1;exact this
  refine zu ?_ (by simp)
  obtain ⟨M,hM,hs⟩:=z8d hs
  subst hM
  refine zb (zhv (lg:=lg) hs) λ_ w' hs=>?_
  obtain ⟨rfl,hs⟩:=hs
  refine zd ?_
  have hs:=z4p M hs
  have hfn:z0t M.l<=zy M.l:=hfn
  have hnx:0<=zy M.l/\zy M.l<=1099511627777:=hnx
  have hf0:0<=z0t M.l:=hf0
  refine zb (zqj (lg:=lg) (A:=M.A) (D:=D) (z0t M.l) 1099511627776 (by omega) (by omega) hok hhas hlen hall hs) λ_ w' hs=>?_
  obtain ⟨z,outs,rfl,hmap,hs⟩:=hs
  refine zd ?_
  refine wp_lt ?_
  have hra:z3h M.A.l (z0t M.l) 1099511627776=(0,z0d M.A.l):=z003 hok (by omega) (by omega)
  rw [hra] at hmap
  exact ⟨rfl,z,outs,rfl,hmap,hs⟩
end
def zkj (seg gap:Int):Prop:=(64<=seg/\seg<=4194304)/\(1<=gap/\gap<=4194304)
section
variable {w:World} {l r:List HP} {lg d:Nat} {M:LogM} {A:LogA} {D:DiskA}
set_option maxHeartbeats 1000000 in
theorem z04n (pre:ByteArray) (seg gap:Int) (hp:z5n pre=true) (hc:zkj seg gap) (hg:D.gone=false) [hf:Fo l dk d D r] (hs:Sat w l):Ret P F.a133 #[.pointer (some ⟨d,0,none⟩),.string pre,.agg #[.int .i64 seg,.int .i64 gap]] w λvs w' =>
  ((z73 pre D).1≠0/\vs=[.pointer none,.int .i64 (z73 pre D).1]/\Sat w' (dk d (z73 pre D).2.2::r)) \/
  ((z73 pre D).1=0/\∃ lg,vs=[.pointer (some ⟨lg,0,none⟩),.int .i64 0]/\Sat w' (lgP lg ⟨d,pre,seg,gap,(z73 pre D).2.1⟩::dk d (z73 pre D).2.2::r)) :=
 zoh _ pre seg gap <| by
  delta z029 A8 A9 AA AB AC AD AE Ab Ac Ad Ag Ai Ak Al Ao Ar As Au Av Aw Ax Ay Az
  have hs:=hs.perm hf.perm
  obtain ⟨m_,FS_,-,hokD,-⟩:=z2c hs
  refine zq hs λa0 w' hs=>?_
  refine wp_lt ?_
  refine zu ?_ (by simp)
  refine zl (λq w'=>q=(false,())/\Sat w' (dk d D::pt a0 (.cells #[.int .i64 seg,.int .i64 gap] T.a51)::r)) ?_ ?_
  ·refine zb (zzy pre hs) λ_ w' hs=>?_
   obtain ⟨rfl,hs⟩:=hs
   refine zd ?_
   refine zg hs ?_
   refine zu ?_ (by rw [hp];simp)
   refine zb (z06t seg gap hs) λ_ w' hs=>?_
   obtain ⟨rfl,hs⟩:=hs
   refine zd ?_
   refine wp_lt ?_
   refine zf ⟨?_,hs.sub⟩
   have:((64<=seg/\seg<=4194304)/\(1<=gap/\gap<=4194304)):=hc
   rw [decide_eq_true this]
   rfl
  rintro _ w2 ⟨rfl,hs⟩
  refine zu ?_ (by simp)
  refine zb (z06k (d:=d) hs) λ_ w' hs=>?_
  obtain ⟨rfl,hs⟩:=hs
  refine zd ?_
  refine wp_lt ?_
  refine zu ?_ (by rw [hg];simp)
  refine zg hs ?_
  refine zq hs λlg w' hs=>?_
  have hokm:okM gap seg pre:=⟨hc.2,hc.1,hp⟩
  have hs:Sat w' (lgQ lg ⟨d,pre,seg,gap,⟨none,0,0⟩,[]⟩::dk d D::r):=by
   refine z1n ⟨d,pre,seg,gap,⟨none,0,0⟩,[]⟩ hokm ?_
   have h1:Sat w' (HP.all (([]:List (Nat × SegM)).map λt=>z0o gap t.1 t.2)::pt lg (.cells #[.pointer (some ⟨d,0,none⟩),.string pre,.int .i64 seg,.int .i64 gap,.slice none 0 0] T.a52)::dk d D::r):=by
    have hs:Sat w' (pt lg (.cells #[.pointer (some ⟨d,0,none⟩),.string pre,.int .i64 seg,.int .i64 gap,.slice none 0 0] T.a52)::dk d D::r):=hs.sub
    exact Sat.all_nil hs
   have h2:Sat w' (slc T.a34 1 ⟨none,0,0⟩ (((([]:List (Nat × SegM))).map Prod.fst).flatMap z1o)::_):=h1.slc_nil
   exact h2.pick [2]
  unfold z73
  refine zb (z042 (lg:=lg) (M:=⟨d,pre,seg,gap,⟨none,0,0⟩,[]⟩) (D:=D) hs) λ_ w' hs=>?_
  have hnl:(z0x pre (z12 (z1m pre) D.fs) D).2.1.length<=128:=by
   refine Nat.le_trans zgl ?_
   unfold z12
   exact Nat.le_trans (List.length_filter_le _ _) (by rw [List.length_map];exact hokD.many)
  have hlt:=zj5 (pre:=pre) (ns:=z12 (z1m pre) D.fs) (D:=D)
  rcases hs with ⟨he,rfl,hs⟩|⟨he,x,rfl,hs⟩
  ·have he:(z0x pre (z12 (z1m pre) D.fs) D).1≠0:=he
   refine zd ?_
   refine wp_lt ?_
   refine z0p ?_ he
   refine wp_lt ?_
   rw [if_pos he]
   exact ⟨rfl,.inl ⟨he,rfl,hs.tail⟩⟩
  have he:(z0x pre (z12 (z1m pre) D.fs) D).1=0:=he
  refine ⟨(x,0,()),rfl,trivial,z1v _ _ ?_⟩
  refine wp_lt ?_
  refine zu ?_ (by simp)
  rw [if_neg (by rw [he];simp)]
  have hs:Sat w' (slc T.a14 1 x ((z0x pre (z12 (z1m pre) D.fs) D).2.1.flatMap z4g)::lgQ lg ⟨d,pre,seg,gap,⟨none,0,0⟩,[]⟩::dk d (z0x pre (z12 (z1m pre) D.fs) D).2.2::r):=hs
  generalize (z0x pre (z12 (z1m pre) D.fs) D).2.2=D1 at *
  generalize (z0x pre (z12 (z1m pre) D.fs) D).2.1=bs at *
  have hl:=hs.slen x (xs:=bs) (enc:=z4g)
  have hcap:=hs.slc_cap
  refine zl (λq w'=>∃ M:LogM,q=((z42 pre bs [] D1).1,())/\(M.d=d/\M.pre=pre/\M.seg=seg/\M.gap=gap)/\M.l=(z42 pre bs [] D1).2.1/\Sat w' (lgQ lg M::dk d (z42 pre bs [] D1).2.2::r)) ?_ ?_
  rotate_left
  ·rintro _ w3 ⟨M,rfl,⟨rfl,rfl,rfl,rfl⟩,h2,hs⟩
   refine zh (λh=>?_) λh=>?_
   ·refine wp_lt ?_
    exact ⟨rfl,.inl ⟨h,rfl,hs.tail⟩⟩
   ·have h:(z42 M.pre bs [] D1).1=0:=Decidable.not_not.1 h
    refine ⟨rfl,.inr ⟨h,lg,rfl,?_⟩⟩
    have:=z4p M hs
    have e:M.A=⟨M.d,M.pre,M.seg,M.gap,(z42 M.pre bs [] D1).2.1⟩:=by rw [<- h2];rfl
    rw [<- e]
    exact this
  refine z03 (λm v w=>∃ (i:Nat) (M:LogM) (D':DiskA),v=((0:Int),((i:Int),()))/\i<=bs.length/\bs.length-i=m/\M.SM.length<=i/\z42 pre bs [] D1=z42 pre (bs.drop i) M.l D'/\(M.d=d/\M.pre=pre/\M.seg=seg/\M.gap=gap) /\
   Sat w (slc T.a14 1 x (bs.flatMap z4g)::lgQ lg M::dk d D'::r)) bs.length ⟨0,⟨d,pre,seg,gap,⟨none,0,0⟩,[]⟩,D1,rfl,by omega,rfl,by simp,rfl,⟨rfl,rfl,rfl,rfl⟩,hs⟩ ?_
  clear hs
  rintro m _ w ⟨i,M,D',rfl,hi,hm,hsm,hq,⟨rfl,rfl,rfl,rfl⟩,hsn⟩
  have hs:=hsn
  refine zk ?_
  refine zh (λhcc=>?_) λhcc=>?_
  rotate_left
  ·have e:bs.drop i=[]:=List.drop_eq_nil_of_le (by omega)
   rw [e] at hq
   have hq:z42 M.pre bs [] D1=(0,M.l,D'):=hq
   rw [hq]
   exact zo (zf ⟨M,rfl,⟨rfl,rfl,rfl,rfl⟩,rfl,hs.sub⟩)
  have hil:i<bs.length:=by omega
  rw [List.drop_eq_getElem_cons hil] at hq
  have hbb:=hlt bs[i] (List.getElem_mem hil)
  have hun:z42 M.pre (bs[i]::bs.drop (i+1)) M.l D'=if bs[i]<zy M.l then (if (z27 D' (zw M.pre bs[i] z06)).1≠0 then ((z27 D' (zw M.pre bs[i] z06)).1,M.l,(z27 D' (zw M.pre bs[i] z06)).2) else z42 M.pre (bs.drop (i+1)) M.l (z27 D' (zw M.pre bs[i] z06)).2) else
   if (z2e M.pre M.l D' bs[i]).1.2≠0 then ((z2e M.pre M.l D' bs[i]).1.2,(z2e M.pre M.l D' bs[i]).2) else
   if (z2e M.pre M.l D' bs[i]).1.1=true then z42 M.pre (bs.drop (i+1)) (z2e M.pre M.l D' bs[i]).2.1 (z2e M.pre M.l D' bs[i]).2.2 else ((z6p M.pre (bs.drop (i+1)) (z2e M.pre M.l D' bs[i]).2.2).1,(z2e M.pre M.l D' bs[i]).2.1,(z6p M.pre (bs.drop (i+1)) (z2e M.pre M.l D' bs[i]).2.2).2):=rfl
  have ei:IntKind.wrap .i64 ((i:Int)+1)=((i+1:Nat):Int):=by rw [w64 (by omega) (by omega)];omega
  refine zl (λq w'=>∃ (M2:LogM) (D2:DiskA),q=((0:Int),())/\M2.SM.length<=i+1/\z42 M.pre bs [] D1=z42 M.pre (bs.drop (i+1)) M2.l D2/\(M2.d=M.d/\M2.pre=M.pre/\M2.seg=M.seg/\M2.gap=M.gap) /\
   Sat w' (slc T.a14 1 x (bs.flatMap z4g)::lgQ lg M2::dk M.d D2::r)) ?_ ?_
  rotate_left
  ·rintro _ w3 ⟨M2,D2,rfl,h1,h2,h3,hs⟩
   rw [ei]
   exact z0l (bs.length-(i+1)) ⟨i+1,M2,D2,rfl,by omega,rfl,h1,h2,h3,hs⟩
  refine z1z hs (xs:=bs) (enc:=z4g) i hil ?_
  refine wp_lt ?_
  refine wp_lt ?_
  refine zb (zbg (lg:=lg) (by omega) hs) λ_ w' hs=>?_
  obtain ⟨rfl,hs⟩:=hs
  refine zd ?_
  refine zh (λh1=>?_) λh1=>?_
  ·rw [if_pos h1] at hun
   obtain ⟨hokm,hs⟩:=za4 hs
   refine zb (z8f (lg:=lg) bs[i] hbb (ByteArray.mk #[46,108,111,103]) (by decide) M.pre hokm.size hs) λ_ w' hs=>?_
   obtain ⟨rfl,hs⟩:=hs
   refine zd ?_
   refine zb (zcc (d:=M.d) (A:=D') (zw M.pre bs[i] (bl (ByteArray.mk #[46,108,111,103]))) hs) λ_ w' hs=>?_
   obtain ⟨rfl,hs⟩:=hs
   refine zd ?_
   refine wp_lt ?_
   have en:zw M.pre bs[i] (bl (ByteArray.mk #[46,108,111,103]))=zw M.pre bs[i] z06:=rfl
   rw [en] at hs ⊢
   have hs:=z4q M hokm (hs.pick [1,1])
   refine zh (λh2=>?_) λh2=>?_
   ·rw [if_pos h2] at hun
    rw [hun] at hq
    rw [hq]
    exact zo (zo (zf ⟨M,rfl,⟨rfl,rfl,rfl,rfl⟩,rfl,hs.sub⟩))
   ·rw [if_neg h2] at hun
    rw [hun] at hq
    have h2:=Decidable.not_not.1 h2
    rw [h2]
    exact zf ⟨M,_,rfl,by omega,hq,⟨rfl,rfl,rfl,rfl⟩,hs.sub⟩
  ·rw [if_neg h1] at hun
   refine zb (z07d (lg:=lg) (D:=D') bs[i] hbb (by omega) hs) λ_ w' hs=>?_
   obtain ⟨rfl,M2,⟨e1,e2,e3,e4⟩,hMl,hMs,hs⟩:=hs
   refine zd ?_
   refine wp_lt ?_
   refine wp_lt ?_
   have hs:Sat w' (lgQ lg M2::dk M.d (z2e M.pre M.l D' bs[i]).2.2::slc T.a14 1 x (bs.flatMap z4g)::r):=hs
   generalize z2e M.pre M.l D' bs[i]=SC at *
   obtain ⟨⟨b0,e0⟩,l0,D0⟩:=SC
   dsimp only at hun hMl hs ⊢
   refine zh (λh2=>?_) λh2=>?_
   ·obtain ⟨h2a,h2b⟩:=h2
    have h2a:e0=0:=h2a
    have h2b:b0=false:=by simpa using h2b
    rw [if_neg (by rw [h2a];simp),if_neg (by rw [h2b];simp)] at hun
    rw [ei]
    refine wp_must (by omega) ?_
    rw [Int.toNat_natCast]
    rw [<- e1] at hs
    have hx:FocR (slc T.a14 1 x (bs.flatMap z4g)::r) ⟨z0q x.a 1 (i+1) x.cap,x.len-(i+1),x.cap-(i+1)⟩ 1 ((bs.drop (i+1)).flatMap z4g):=FocR.post hcap
    refine zb (z03u (lg:=lg) (M:=M2) (D:=D0) ⟨z0q x.a 1 (i+1) x.cap,x.len-(i+1),x.cap-(i+1)⟩ (bs.drop (i+1)) (λb hb=>hlt b (List.mem_of_mem_drop hb)) hx (by rw [List.length_drop];omega) hs) λ_ w' hs=>?_
    obtain ⟨rfl,hs⟩:=hs
    refine zd ?_
    refine wp_lt ?_
    rw [e2,e1] at hs
    rw [e2]
    rw [hun] at hq
    rw [hq]
    refine zo (zo (zf ⟨M2,rfl,⟨e1,e2,e3,e4⟩,hMl,hs.sub⟩))
   ·refine zh (λh3=>?_) λh3=>?_
    ·rw [if_pos h3] at hun
     rw [hun] at hq
     rw [hq]
     refine zo (zo (zf ⟨M2,rfl,⟨e1,e2,e3,e4⟩,hMl,hs.sub⟩))
    ·have h3:e0=0:=Decidable.not_not.1 h3
     have h4:b0=true:=by
      cases hb0:b0 with
      | true=>rfl
      | false=>exact absurd ⟨h3,by rw [hb0];simp⟩ h2
     rw [if_neg (by rw [h3];simp),if_pos h4,<- hMl] at hun
     rw [hun] at hq
     rw [h3]
     exact zf ⟨M2,D0,rfl,by omega,hq,⟨e1,e2,e3,e4⟩,hs.sub⟩
end
theorem zat:∀ {bs:List BatM} {n:Int},0<=n->(z05 n bs).1=0->z1w n ((z05 n bs).2.map BatM.p)/\(∀ b ∈ (z05 n bs).2,n<=b.base)
 | [],n,_,_=>⟨trivial,λ_ h=>by cases h⟩
 | b::bs,n,hn,h=>by
  unfold z05 at h ⊢
  by_cases h1:z07 (b.to n)≠0
  ·rw [if_pos h1] at h;exact absurd h h1
  rw [if_neg h1] at h ⊢
  by_cases h2:(z05 (n+zt b) bs).1≠0
  ·rw [if_pos h2] at h;exact absurd h h2
  rw [if_neg h2]
  have hv:=Decidable.not_not.1 h1
  obtain ⟨s1,-,-,-,-⟩:=z16 _ hv
  have s1:1<=zt b:=s1
  obtain ⟨i1,i2⟩:=zat (n:=n+zt b) (by omega) (Decidable.not_not.1 h2)
  refine ⟨⟨hv,rfl,Int.le_refl _,i1⟩,λc hc=>?_⟩
  rcases List.mem_cons.1 hc with rfl|hc
  ·exact Int.le_refl _
  ·have:=i2 c hc;omega
theorem z1w.append:∀ {n:Int} {cs bs:List BatM},0<=n->z1w n cs->z1w (max n (z0n cs)) bs->z1w n (cs++bs)
 | n,[],bs,hn,_,h2=>h2.mono (by show n<=max n 0;omega)
 | n,a::cs,bs,hn,⟨h1,h2,h3,h4⟩,hb=>by
  obtain ⟨s1,-,⟨-,hba,-⟩,-,-⟩:=z16 a h1
  refine ⟨h1,h2,h3,h4.append (by omega) (hb.mono ?_)⟩
  have h5:a.base+zt a<=z0n (a::cs):=z1w.le_next (n:=n) (bs:=a::cs) ⟨h1,h2,h3,h4⟩ (List.mem_cons_self ..)
  have h6:z0n cs<=z0n (a::cs):=by
   cases cs with
   | nil=>show (0:Int)<=_;omega
   | cons c ds=>exact Int.le_refl _
  omega
theorem z6s (l:List SegA) (s:SegA):zy (l++[s])=s.reach:=by unfold zy;rw [z1x]
theorem zrs (l:List SegA) (s:SegA):z5g (l++[s])=s.base:=by unfold z5g;rw [z1x]
theorem z7u (l:List SegA) (s:SegA) (bs:List BatM):z6o (l++[s]) bs=l++[s.add bs]:=by unfold z6o;rw [z1x];simp
theorem z0s.snoc:∀ {n:Int} {l:List SegA} {s:SegA},z0s n l->SegOk s->n<=s.base->(∀ t ∈ l,t.reach<=s.base/\t.base<s.base)->z0s n (l++[s])
 | n,[],s,_,hs,hn,_=>⟨hn,hs,trivial⟩
 | n,a::l,s,⟨h1,h2,h3⟩,hs,hn,ht=>by
  have:=ht a (List.mem_cons_self ..)
  exact ⟨h1,h2,h3.snoc hs (by omega) λt h=>ht t (List.mem_cons_of_mem _ h)⟩
theorem z0s.front:∀ {n:Int} {l:List SegA} {s:SegA},z0s n (l++[s])->z0s n l/\SegOk s/\n<=s.base/\∀ t ∈ l,t.reach<=s.base/\t.base<s.base
 | n,[],s,h=>⟨trivial,h.2.1,h.1,λ_ h=>by cases h⟩
 | n,a::l,s,⟨h1,h2,h3⟩=>by
  obtain ⟨i1,i2,i3,i4⟩:=h3.front
  have:=(z6i h2).1
  refine ⟨⟨h1,h2,i1⟩,i2,by omega,λt ht=>?_⟩
  rcases List.mem_cons.1 ht with rfl|ht
  ·omega
  ·exact i4 t ht
theorem zvm {s:SegA} (hs:SegOk s) {bs:List BatM} {n:Int} (h:(z05 n bs).1=0) (hn:n=s.reach):SegOk (s.add (z05 n bs).2):=by
 have hr:=z6i hs
 have hb:=hs.base
 refine ⟨hs.base,hs.fin,?_⟩
 subst hn
 have hm:max s.base (z0n s.bs)<=s.reach:=by omega
 exact hs.bs.append hb.1 ((zat (by omega) h).1.mono hm)
theorem zne {bs:List BatM} {n:Int} (h:(z05 n bs).1=0) (hb:bs≠[]):0<=n/\n<=1099511627776:=by
 cases bs with
 | nil=>exact absurd rfl hb
 | cons b bs =>
  unfold z05 at h
  by_cases h1:z07 (b.to n)≠0
  ·rw [if_pos h1] at h;exact absurd h h1
  ·obtain ⟨-,-,⟨-,hba,-⟩,-,-⟩:=z16 _ (Decidable.not_not.1 h1)
   exact hba
def z5x (seg:Int) (l:List SegA) (bs:List BatM):(Int × Int) × List SegA :=
 if bs=[] then ((0,3),l) else if (z05 (zy l) bs).1≠0 then ((0,(z05 (zy l) bs).1),l) else
 ((zy l,0),if z7b seg l ((z05 (zy l) bs).2.flatMap frL).length then z6o l (z05 (zy l) bs).2 else l++[(⟨zy l,0,[]⟩:SegA).add (z05 (zy l) bs).2])
theorem zjr {seg:Int} {l:List SegA} {bs:List BatM} (h:z0s 0 l):z0s 0 (z5x seg l bs).2:=by
 unfold z5x
 split
 ·exact h
 rename_i hb
 split
 ·exact h
 rename_i hp
 have hp:=Decidable.not_not.1 hp
 have hv:=zne hp hb
 simp only
 split
 ·rename_i hr
  have hne:l≠[]:=by rintro rfl;cases hr
  obtain ⟨l0,s,rfl⟩:=z7p hne
  rw [z7u]
  obtain ⟨h1,h2,h3,h4⟩:=h.front
  exact h1.snoc (zvm h2 hp (z6s _ _)) h3 h4
 ·rename_i hr
  have hs:SegOk ((⟨zy l,0,[]⟩:SegA).add (z05 (zy l) bs).2):=by
   refine ⟨hv,.inl rfl,?_⟩
   show z1w _ ([]++_)
   rw [List.nil_append]
   exact (zat hv.1 hp).1
  refine h.snoc hs hv.1 λt ht=>?_
  show t.reach<=zy l/\t.base<zy l
  have hne:l≠[]:=List.ne_nil_of_mem ht
  obtain ⟨l0,s,rfl⟩:=z7p hne
  obtain ⟨h1,h2,h3,h4⟩:=h.front
  rw [z6s]
  have hsr:=z6i h2
  have hlast:s.base<s.reach:=by
   have hr2:z7b seg (l0++[s]) ((z05 (zy (l0++[s])) bs).2.flatMap frL).length=false:=by simpa using hr
   unfold z7b at hr2
   rw [z1x] at hr2
   simp only [Bool.or_eq_false_iff,decide_eq_false_iff_not] at hr2
   have hbs:s.bs≠[]:=by rintro hbs;rw [hbs] at hr2;exact hr2.1 rfl
   have:=hsr.2.2.2.2 hbs
   omega
  rcases List.mem_append.1 ht with ht|ht
  ·have:=h4 t ht;omega
  ·simp only [List.mem_cons,List.not_mem_nil,or_false] at ht
   subst ht
   exact ⟨Int.le_refl _,hlast⟩
theorem zgr (pre:ByteArray) (seg:Int) (l:List SegA) (D:DiskA) (bs:List BatM):((z13 pre seg l D bs).1=(z5x seg l bs).1/\(z13 pre seg l D bs).2.1=(z5x seg l bs).2)\/((z13 pre seg l D bs).1.1=0/\(z13 pre seg l D bs).1.2≠0/\(z13 pre seg l D bs).2.1=l/\(z5x seg l bs).1.2=0):=by
 unfold z13 z5x
 split
 ·exact .inl ⟨rfl,rfl⟩
 split
 ·exact .inl ⟨rfl,rfl⟩
 split
 ·split
  ·rename_i h;exact .inr ⟨rfl,h,rfl,rfl⟩
  ·exact .inl ⟨rfl,rfl⟩
 ·split
  ·rename_i h;exact .inr ⟨rfl,h,rfl,rfl⟩
  split
  ·rename_i h;exact .inr ⟨rfl,h,rfl,rfl⟩
  ·exact .inl ⟨rfl,rfl⟩
theorem zwi {pre:ByteArray} {seg:Int} {l:List SegA} {D:DiskA} {bs:List BatM} (h:z0s 0 l):z0s 0 (z13 pre seg l D bs).2.1:=by
 rcases zgr pre seg l D bs with ⟨-,h2⟩|⟨-,-,h2,-⟩
 ·rw [h2];exact zjr h
 ·rw [h2];exact h
def aP:ByteArray:=ByteArray.mk #[112]
structure Calm (D:DiskA):Prop where
 gone:D.gone=false
 left:D.left = -1
theorem ziz {D:DiskA} (h:D.left = -1):z34 D=D:=by unfold z34;rw [if_neg (by omega)]
theorem zl1 {D:DiskA} (h:Calm D) (n:ByteArray) (bs:List UInt8):Calm (z0a D n bs).2:=by
 unfold z0a
 split
 ·exact h
 split
 ·exact h
 split
 ·exact h
 ·show Calm (z34 _)
  rw [ziz (by exact h.left)]
  exact ⟨h.gone,h.left⟩
theorem zxj {D:DiskA} (h:Calm D) (ns:List ByteArray):Calm (z20 D ns).2:=by
 unfold z20
 split
 ·exact h
 split
 ·exact h
 ·show Calm (z34 _)
  rw [ziz (by exact h.left)]
  exact ⟨h.gone,h.left⟩
theorem zgw {D:DiskA} (h:Calm D) (pre:ByteArray) (l:List SegA):Calm (z0y pre l D).2:=by
 unfold z0y
 split
 ·exact h
 ·exact zxj h _
theorem zg9 {A:DiskA} {n:ByteArray} {bs:List UInt8}:(z0a A n bs).2.fs.length<=A.fs.length+1/\((z0r A.fs n).isSome=true->(z0a A n bs).2.fs.length=A.fs.length):=by
 unfold z0a
 split
 ·exact ⟨by show A.fs.length<=_;omega,λ_=>rfl⟩
 split
 ·exact ⟨by show A.fs.length<=_;omega,λ_=>rfl⟩
 split
 ·exact ⟨by show A.fs.length<=_;omega,λ_=>rfl⟩
 ·show (z34 _).fs.length<=_/\(_->(z34 _).fs.length=_)
  rw [z8a]
  show (if z24 A.fs n=true then _ else _:List FileA).length<=_/\(_->(if z24 A.fs n=true then _ else _:List FileA).length=_)
  rw [<- z7x]
  split
  ·rw [List.length_map];exact ⟨by omega,λ_=>rfl⟩
  ·rename_i h
   rw [(z6a _ _).length_eq]
   exact ⟨by simp,λh2=>absurd h2 h⟩
structure Cpl (pre:ByteArray) (l:List SegA) (D:DiskA):Prop where
 ok:okA D
 segs:z0s 0 l
 has:zkv pre l D
 only:∀ n,(z0r D.fs n).isSome=true->(bl (z1m pre)).isPrefixOf (bl n)=true->∃ s ∈ l,n=zw pre s.base z06
def z6z (l:List SegA):Nat:=(l.map λs=>s.file.length).sum
theorem zdr (l:List SegA) (s:SegA):z6z (l++[s])=z6z l+s.file.length:=by simp [z6z]
theorem zi4 {pre:ByteArray} {s t:SegA} (hs:SegOk s) (ht:SegOk t) (h:s.base≠t.base):zw pre s.base z06≠zw pre t.base z06:=λe=>by
 have h1:=hs.base
 have h2:=ht.base
 exact h (zwr (by omega) (by omega) e).1
structure Fr (pre:ByteArray) (D D':DiskA):Prop where
 room:D'.room=D.room
 other:∀ m,(bl (z1m pre)).isPrefixOf (bl m)=false->z0r D'.fs m=z0r D.fs m
theorem Fr.refl (pre:ByteArray) (D:DiskA):Fr pre D D:=⟨rfl,λ_ _=>rfl⟩
theorem Fr.trans {pre:ByteArray} {D D' D'':DiskA} (h1:Fr pre D D') (h2:Fr pre D' D''):Fr pre D D'':=⟨h2.room.trans h1.room,λm hm=>(h2.other m hm).trans (h1.other m hm)⟩
theorem z00f {D:DiskA} (hok:okA D) (n:ByteArray):okA (z20 D [n]).2/\(z20 D [n]).2.room=D.room/\used (z20 D [n]).2.fs=used D.fs/\(z20 D [n]).2.fs.length=D.fs.length /\
  ∀ m,z0r (z20 D [n]).2.fs m=z0r D.fs m\/(m=n/\(z20 D [n]).1=0/\z0r (z20 D [n]).2.fs m=(z0r D.fs m).map λp=>(p.1,p.1.length)):=by
 by_cases h:(z20 D [n]).1=0
 ·obtain ⟨-,h1,h2,h3,h4,h5⟩:=z05k hok h
  refine ⟨h1,h2,h3,h4,λm=>?_⟩
  by_cases hm:n=m
  ·subst hm
   refine .inr ⟨rfl,h,?_⟩
   rw [h5]
   simp
  ·refine .inl ?_
   rw [h5]
   simp [hm]
 ·rcases zg2 (A:=D) (n:=n) with ⟨h1,-,-,-⟩|⟨-,-,h4⟩|⟨-,-,-,h4⟩
  ·exact absurd h1 h
  ·rw [h4];exact ⟨hok,rfl,rfl,rfl,λm=>.inl rfl⟩
  ·rw [h4];exact ⟨hok,rfl,rfl,rfl,λm=>.inl rfl⟩
theorem Cpl.same {pre:ByteArray} {l:List SegA} {D D':DiskA} (h:Cpl pre l D) (hok:okA D') (hf:∀ m,(bl (z1m pre)).isPrefixOf (bl m)=true->(z0r D'.fs m).map Prod.fst=(z0r D.fs m).map Prod.fst):Cpl pre l D':=by
 refine ⟨hok,h.segs,λs hs=>?_,λn hn hp=>?_⟩
 ·obtain ⟨k,hk⟩:=h.has s hs
  have:=hf _ (z6f pre s.base z06)
  rw [hk] at this
  cases hq:z0r D'.fs (zw pre s.base z06) with
  | none=>rw [hq] at this;cases this
  | some q =>
   rw [hq] at this
   simp only [Option.map_some,Option.some.injEq] at this
   exact ⟨q.2,by rw [<- this]⟩
 ·refine h.only n ?_ hp
  have:=hf n hp
  cases hq:z0r D.fs n with
  | none =>
   rw [hq] at this
   cases hq2:z0r D'.fs n with
   | none=>rw [hq2] at hn;cases hn
   | some q=>rw [hq2] at this;cases this
  | some q=>rfl
theorem zap {pre:ByteArray} {l:List SegA} {D:DiskA} (h:Cpl pre l D):Cpl pre l (z0y pre l D).2/\Fr pre D (z0y pre l D).2/\used (z0y pre l D).2.fs=used D.fs/\(z0y pre l D).2.fs.length=D.fs.length/\(Calm D->(z0y pre l D).1=0):=by
 unfold z0y
 cases hl:l.getLast? with
 | none=>exact ⟨h,.refl _ _,rfl,rfl,λ_=>rfl⟩
 | some s =>
  simp only
  obtain ⟨h1,h2,h3,h4,h5⟩:=z00f h.ok (zw pre s.base z06)
  refine ⟨h.same h1 λm hm=>?_,⟨h2,λm hm=>?_⟩,h3,h4,λhc=>?_⟩
  ·rcases h5 m with h6|⟨-,-,h6⟩
   ·rw [h6]
   ·rw [h6,Option.map_map];rfl
  ·rcases h5 m with h6|⟨h6,-,-⟩
   ·exact h6
   ·rw [h6,z6f] at hm;cases hm
  ·rcases zg2 (A:=D) (n:=zw pre s.base z06) with ⟨h6,-,-,-⟩|⟨-,h6,-⟩|⟨-,-,h6,-⟩
   ·exact h6
   ·rw [hc.gone] at h6;cases h6
   ·obtain ⟨k,hk⟩:=h.has s (List.mem_of_getLast? hl)
    rw [hk] at h6;cases h6
theorem Cpl.grow {pre:ByteArray} {l0:List SegA} {s s':SegA} {D:DiskA} {x:List UInt8} (hp:z5n pre=true) (h:Cpl pre (l0++[s]) D) (hsegs:z0s 0 (l0++[s'])) (hb:s'.base=s.base) (hx:s'.file=s.file++x) (ha:(z0a D (zw pre s.base z06) x).1=0) :
  Cpl pre (l0++[s']) (z0a D (zw pre s.base z06) x).2/\Fr pre D (z0a D (zw pre s.base z06) x).2/\used (z0a D (zw pre s.base z06) x).2.fs+z6z (l0++[s])=used D.fs+z6z (l0++[s'])/\(z0a D (zw pre s.base z06) x).2.fs.length=D.fs.length:=by
 obtain ⟨h1,h2,h3,h4,h5,h6,h7⟩:=ziq h.ok ha
 obtain ⟨k,hk⟩:=h.has s (by simp)
 obtain ⟨f1,f2,f3,f4⟩:=h.segs.front
 refine ⟨⟨h4,hsegs,λt ht=>?_,λn hn hpn=>?_⟩,⟨h5,λm hm=>?_⟩,?_,(zg9.2 (by rw [hk];rfl))⟩
 ·rcases List.mem_append.1 ht with ht|ht
  ·have hto:=(f1.mem t ht).1
   have hne:zw pre t.base z06≠zw pre s.base z06:=zi4 hto f2 (by have:=(f4 t ht).2;omega)
   rw [h7,if_neg hne]
   exact h.has t (by simp [ht])
  ·simp only [List.mem_cons,List.not_mem_nil,or_false] at ht
   subst ht
   rw [hb,h7,if_pos rfl,hk,hx]
   exact ⟨k,rfl⟩
 ·rw [h7] at hn
  by_cases hm:n=zw pre s.base z06
  ·exact ⟨s',by simp,by rw [hb];exact hm⟩
  ·rw [if_neg hm] at hn
   obtain ⟨t,ht,rfl⟩:=h.only n hn hpn
   rcases List.mem_append.1 ht with ht|ht
   ·exact ⟨t,by simp [ht],rfl⟩
   ·simp only [List.mem_cons,List.not_mem_nil,or_false] at ht
    subst ht
    exact absurd rfl hm
 ·rw [h7,if_neg]
  rintro rfl
  rw [z6f] at hm;cases hm
 ·rw [h6,zdr,zdr,hx,List.length_append];omega
theorem Cpl.begin {pre:ByteArray} {l:List SegA} {s:SegA} {D:DiskA} (h:Cpl pre l D) (hsegs:z0s 0 (l++[s])) (ha:(z0a D (zw pre s.base z06) s.file).1=0) :
  Cpl pre (l++[s]) (z0a D (zw pre s.base z06) s.file).2/\Fr pre D (z0a D (zw pre s.base z06) s.file).2/\used (z0a D (zw pre s.base z06) s.file).2.fs+z6z l=used D.fs+z6z (l++[s])/\(z0a D (zw pre s.base z06) s.file).2.fs.length<=D.fs.length+1:=by
 obtain ⟨h1,h2,h3,h4,h5,h6,h7⟩:=ziq h.ok ha
 obtain ⟨f1,f2,f3,f4⟩:=hsegs.front
 have hnone:z0r D.fs (zw pre s.base z06)=none:=by
  cases hq:z0r D.fs (zw pre s.base z06) with
  | none=>rfl
  | some q =>
   obtain ⟨t,ht,e⟩:=h.only _ (by rw [hq];rfl) (z6f pre s.base z06)
   exact absurd e (zi4 f2 (f1.mem t ht).1 (by have:=(f4 t ht).2;omega))
 refine ⟨⟨h4,hsegs,λt ht=>?_,λn hn hpn=>?_⟩,⟨h5,λm hm=>?_⟩,?_,zg9.1⟩
 ·rcases List.mem_append.1 ht with ht|ht
  ·have hto:=(f1.mem t ht).1
   have hne:zw pre t.base z06≠zw pre s.base z06:=zi4 hto f2 (by have:=(f4 t ht).2;omega)
   rw [h7,if_neg hne]
   exact h.has t ht
  ·simp only [List.mem_cons,List.not_mem_nil,or_false] at ht
   subst ht
   rw [h7,if_pos rfl,hnone]
   exact ⟨0,rfl⟩
 ·rw [h7] at hn
  by_cases hm:n=zw pre s.base z06
  ·exact ⟨s,by simp,hm⟩
  ·rw [if_neg hm] at hn
   obtain ⟨t,ht,rfl⟩:=h.only n hn hpn
   exact ⟨t,by simp [ht],rfl⟩
 ·rw [h7,if_neg]
  rintro rfl
  rw [z6f] at hm;cases hm
 ·rw [h6,zdr];omega
def Stp (pre:ByteArray) (l:List SegA) (D:DiskA) (l':List SegA) (D':DiskA):Prop :=
 Cpl pre l' D'/\Fr pre D D'/\used D'.fs+z6z l=used D.fs+z6z l'/\D'.fs.length+l.length<=D.fs.length+l'.length/\(Calm D->Calm D')
theorem Stp.same {pre:ByteArray} {l:List SegA} {D:DiskA} (h:Cpl pre l D):Stp pre l D l D:=⟨h,.refl _ _,rfl,Nat.le_refl _,id⟩
theorem Stp.trans {pre:ByteArray} {l l' l'':List SegA} {D D' D'':DiskA} (h1:Stp pre l D l' D') (h2:Stp pre l' D' l'' D''):Stp pre l D l'' D'' :=
 ⟨h2.1,h1.2.1.trans h2.2.1,by have:=h1.2.2.1;have:=h2.2.2.1;omega,by have:=h1.2.2.2.1;have:=h2.2.2.2.1;omega,λh=>h2.2.2.2.2 (h1.2.2.2.2 h)⟩
theorem zwl {pre:ByteArray} {l:List SegA} {D:DiskA} (h:Cpl pre l D):Stp pre l D l (z0y pre l D).2:=by
 obtain ⟨h1,h2,h3,h4,-⟩:=zap h
 exact ⟨h1,h2,by omega,by omega,λhc=>zgw hc _ _⟩
theorem z00b (n:Int) (bs:List BatM):(SegA.add ⟨n,0,[]⟩ bs).file=shL n 0++bs.flatMap frL:=by
 rw [za0];simp [SegA.file]
theorem zlx {pre:ByteArray} (seg:Int) {l:List SegA} {D:DiskA} (bs:List BatM) (hp:z5n pre=true) (h:Cpl pre l D):Stp pre l D (z13 pre seg l D bs).2.1 (z13 pre seg l D bs).2.2:=by
 have hsegs:=zjr (seg:=seg) (bs:=bs) h.segs
 unfold z13
 unfold z5x at hsegs
 split
 ·exact .same h
 rename_i hb
 rw [if_neg hb] at hsegs
 split
 ·exact .same h
 rename_i hpl
 rw [if_neg hpl] at hsegs
 simp only at hsegs
 split
 ·rename_i hr
  rw [if_pos hr] at hsegs
  have hne:l≠[]:=by rintro rfl;cases hr
  obtain ⟨l0,s,rfl⟩:=z7p hne
  rw [zrs]
  rw [z7u] at hsegs
  split
  ·rename_i he
   simp only
   rw [zg8 he]
   exact .same h
  ·rename_i he
   have he:=Decidable.not_not.1 he
   simp only
   rw [z7u]
   obtain ⟨c1,c2,c3,c4⟩:=h.grow hp hsegs rfl (za0 _ _) he
   exact ⟨c1,c2,c3,by rw [List.length_append,List.length_append];simp;omega,λhc=>zl1 hc _ _⟩
 ·rename_i hr
  rw [if_neg hr] at hsegs
  have hst:=zwl h
  split
  ·exact hst
  split
  ·rename_i he
   simp only
   rw [zg8 he]
   exact hst
  ·rename_i he
   have he:=Decidable.not_not.1 he
   simp only
   rw [<- z00b] at he ⊢
   obtain ⟨c1,c2,c3,c4⟩:=hst.1.begin (s:=SegA.add ⟨zy l,0,[]⟩ (z05 (zy l) bs).2) hsegs he
   refine hst.trans ⟨c1,c2,c3,?_,λhc=>zl1 hc _ _⟩
   rw [List.length_append,List.length_singleton]
   have c4:(z0a (z0y pre l D).2 (zw pre (zy l) z06) _).2.fs.length<=_:=c4
   omega
theorem zk0:∀ {xs ys:List ByteArray},xs.Pairwise (λa b=>ltS a b=true)->ys.Pairwise (λa b=>ltS a b=true)->(∀ n,n ∈ xs↔n ∈ ys)->xs=ys
 | [],[],_,_,_=>rfl
 | [],y::ys,_,_,h=>absurd ((h y).2 (List.mem_cons_self ..)) (by simp)
 | x::xs,[],_,_,h=>absurd ((h x).1 (List.mem_cons_self ..)) (by simp)
 | x::xs,y::ys,hx,hy,h=>by
  rw [List.pairwise_cons] at hx hy
  have hxy:x=y:=by
   rcases List.mem_cons.1 ((h x).1 (List.mem_cons_self ..)) with h1|h1
   ·exact h1
   ·rcases List.mem_cons.1 ((h y).2 (List.mem_cons_self ..)) with h2|h2
    ·exact h2.symm
    ·have h3:=hy.1 x h1
     have h4:=hx.1 y h2
     rw [zwm h3] at h4
     cases h4
  subst hxy
  congr 1
  refine zk0 hx.2 hy.2 λn=>?_
  constructor
  ·intro hn
   rcases List.mem_cons.1 ((h n).1 (List.mem_cons_of_mem _ hn)) with h1|h1
   ·subst h1
    have:=hx.1 n hn
    rw [z80] at this;cases this
   ·exact h1
  ·intro hn
   rcases List.mem_cons.1 ((h n).2 (List.mem_cons_of_mem _ hn)) with h1|h1
   ·subst h1
    have:=hy.1 n hn
    rw [z80] at this;cases this
   ·exact h1
theorem zqx (p s:ByteArray):Go.Proofs.YtogdpmpccmpekaaGreat.preF p s=(bl p).isPrefixOf (bl s):=by
 unfold Go.Proofs.YtogdpmpccmpekaaGreat.preF
 rw [ByteArray.toList_eq,ByteArray.toList_eq]
theorem zwq {D:DiskA} {pre n:ByteArray}:n ∈ z12 (z1m pre) D.fs↔(z0r D.fs n).isSome=true/\(bl (z1m pre)).isPrefixOf (bl n)=true:=by
 unfold z12
 rw [List.mem_filter,<- z7x,z65,zqx]
 constructor
 ·rintro ⟨h1,h2⟩
  obtain ⟨f,hf,rfl⟩:=List.mem_map.1 h1
  exact ⟨⟨f,hf,rfl⟩,h2⟩
 ·rintro ⟨⟨f,hf,rfl⟩,h2⟩
  exact ⟨List.mem_map.2 ⟨f,hf,rfl⟩,h2⟩
theorem zm2 {D:DiskA} (hok:okA D) (p:ByteArray):(z12 p D.fs).Pairwise λa b=>ltS a b=true:=by
 unfold z12
 exact ((List.pairwise_map.2 hok.sorted).filter _)
theorem zes (pre:ByteArray):∀ {n:Int} {l:List SegA},z0s n l->(l.map λs=>zw pre s.base z06).Pairwise λa b=>ltS a b=true
 | _,[],_=>List.Pairwise.nil
 | n,s::l,⟨h1,h2,h3⟩=>by
  rw [List.map_cons,List.pairwise_cons]
  refine ⟨λm hm=>?_,zes pre h3⟩
  obtain ⟨t,ht,rfl⟩:=List.mem_map.1 hm
  have h4:=h3.mem t ht
  have:=h2.base
  have:=h4.1.base
  exact (zwn pre (by omega) (by omega) z06).2 (by omega)
theorem Cpl.names {pre:ByteArray} {l:List SegA} {D:DiskA} (h:Cpl pre l D):z12 (z1m pre) D.fs=l.map λs=>zw pre s.base z06:=by
 refine zk0 (zm2 h.ok _) (zes pre h.segs) λn=>?_
 rw [zwq]
 constructor
 ·rintro ⟨h1,h2⟩
  obtain ⟨s,hs,rfl⟩:=h.only n h1 h2
  exact List.mem_map.2 ⟨s,hs,rfl⟩
 ·intro hn
  obtain ⟨s,hs,rfl⟩:=List.mem_map.1 hn
  obtain ⟨k,hk⟩:=h.has s hs
  exact ⟨by rw [hk];rfl,z6f pre s.base z06⟩
theorem zgm (pre:ByteArray) (D:DiskA):∀ {l:List SegA},(∀ s ∈ l,SegOk s)->z0x pre (l.map λs=>zw pre s.base z06) D=(0,l.map SegA.base,D)
 | [],_=>rfl
 | s::l,h=>by
  have hb:=(h s (List.mem_cons_self ..)).base
  have h1:z1f pre (zw pre s.base z06) z06=some s.base.toNat:=zeg pre (by omega) z06
  have h2:z1f pre (zw pre s.base z06) z8g=none:=ziu h1 (by decide)
  rw [List.map_cons]
  unfold z0x
  rw [h2]
  rw [if_neg (by rintro ⟨h3,-⟩;cases h3)]
  simp only [Option.isSome_none,Bool.false_eq_true,if_false]
  rw [zgm pre D λt ht=>h t (List.mem_cons_of_mem _ ht),h1]
  simp only [List.map_cons]
  have e:((s.base.toNat:Nat):Int)=s.base:=by omega
  rw [e]
  rfl
theorem zh1 {pre:ByteArray} {D:DiskA}:∀ {l l1:List SegA},z0s 0 (l1++l)->(∀ s ∈ l,∃ k,z0r D.fs (zw pre s.base z06)=some (s.file,k))->z42 pre (l.map SegA.base) l1 D=(0,l1++l,D)
 | [],l1,_,_=>by unfold z42;simp
 | s::l,l1,hok,hh=>by
  rw [List.map_cons]
  unfold z42
  have hok2:z0s 0 ((l1++[s])++l):=by rwa [List.append_assoc]
  have hs:SegOk s:=(hok.mem s (by simp)).1
  obtain ⟨k,hk⟩:=hh s (List.mem_cons_self ..)
  have hb:¬ s.base<zy l1:=by
   have:=hs.base
   by_cases h0:l1=[]
   ·subst h0;show ¬ s.base<0;omega
   ·obtain ⟨l0,t,rfl⟩:=z7p h0
    rw [z6s]
    have h1:=hok.skip l0.length (l0.length+1) (by simp) (by omega)
    have e1:(l0++[t]++s::l)[l0.length]'(by simp)=t:=by simp
    have e2:(l0++[t]++s::l)[l0.length+1]'(by simp)=s:=by
     rw [List.getElem_append_right (by simp)];simp
    rw [e1,e2] at h1
    omega
  have hsc:z2e pre l1 D s.base=((true,0),l1++[s],D):=by
   unfold z2e
   rw [hk]
   simp only
   rw [zxc hs]
   simp only
   rw [if_pos trivial]
  rw [if_neg hb,hsc,if_neg (by simp),if_pos rfl]
  simp only
  rw [zh1 hok2 λt ht=>hh t (List.mem_cons_of_mem _ ht),List.append_assoc]
  rfl
theorem Cpl.opened {pre:ByteArray} {l:List SegA} {D:DiskA} (h:Cpl pre l D):z73 pre D=(0,l,D):=by
 unfold z73
 rw [h.names,zgm pre D λs hs=>(h.segs.mem s hs).1]
 rw [if_neg (by simp)]
 simp only
 have:=zh1 (pre:=pre) (D:=D) (l:=l) (l1:=[]) h.segs h.has
 rw [this]
 rfl
theorem zd2 (pre:ByteArray) (n:Nat) (hn:n<=4194304):Cpl pre [] ⟨n,-1,false,[]⟩ :=
 ⟨⟨hn,by show (0:Nat)<=_;omega,by show (0:Nat)<=_;omega,by show -1<=(-1:Int)/\(-1:Int)<=_;omega,List.Pairwise.nil,(λf h=>by cases h),λf h=>by cases h⟩,trivial,(λs h=>by cases h),λn h=>by cases h⟩
structure SegR where
 base:Int
 fin:Int
 x:Sl
 bs:List BatM
structure RefM where
 seg:Int
 gap:Int
 SR:List SegR
theorem zk2 {nm:SegA->ByteArray}:∀ {fs:List FileA} {l:List SegA},fs.map (·.name)=l.map nm->(∀ f ∈ fs,∀ s ∈ l,f.name=nm s->f.b=s.file)->used fs=z6z l
 | [],[],_,_=>rfl
 | [],s::l,h,_=>by simp at h
 | f::fs,[],h,_=>by simp at h
 | f::fs,s::l,h,hh=>by
  rw [List.map_cons,List.map_cons,List.cons.injEq] at h
  have h1:=hh f (List.mem_cons_self ..) s (List.mem_cons_self ..) h.1
  have h2:=zk2 h.2 λf hf s hs=>hh f (List.mem_cons_of_mem _ hf) s (List.mem_cons_of_mem _ hs)
  rw [z23,h2,h1]
  simp [z6z]
theorem Cpl.sizes {pre:ByteArray} {l:List SegA} {D:DiskA} (h:Cpl pre l D):l.length<=D.fs.length/\z6z l<=used D.fs:=by
 have hn:=h.names
 have e:(D.fs.filter λf=>(bl (z1m pre)).isPrefixOf (bl f.name)).map (·.name)=l.map λs=>zw pre s.base z06:=by
  rw [<- hn]
  unfold z12
  rw [List.filter_map]
  congr 1
  apply List.filter_congr
  intro f _
  show _=Go.Proofs.YtogdpmpccmpekaaGreat.preF (z1m pre) f.name
  rw [zqx]
 have hs:=zk2 e λf hf s hs hfs=>by
  have h1:=zd3 (z3g h.ok.sorted) (List.mem_filter.1 hf).1
  obtain ⟨k,hk⟩:=h.has s hs
  rw [hfs,hk] at h1
  simp only [Option.some.injEq,Prod.mk.injEq] at h1
  exact h1.1.symm
 have hl:=congrArg List.length e
 rw [List.length_map,List.length_map] at hl
 exact ⟨by rw [<- hl];exact List.length_filter_le _ _,by rw [<- hs];exact z00l List.filter_sublist⟩
theorem zra:∀ {n:Int} {l:List SegA},z0s n l->(z0d l).length*10<=z6z l
 | _,[],_=>Nat.le_refl _
 | n,s::l,⟨h1,h2,h3⟩=>by
  have h4:=zra h3
  have h5:=zhu h2
  have e1:z0d (s::l)=s.bs++z0d l:=by simp [z0d]
  have e2:z6z (s::l)=s.file.length+z6z l:=by simp [z6z]
  rw [e1,e2,List.length_append]
  omega
theorem Cpl.len {pre:ByteArray} {l:List SegA} {D:DiskA} (h:Cpl pre l D):l.length<=128/\(z0d l).length<=500000/\∀ s ∈ l,s.file.length<=4194304:=by
 obtain ⟨h1,h2⟩:=h.sizes
 have h3:=zra h.segs
 have h4:=h.ok.many
 have h5:=h.ok.used
 refine ⟨by omega,by omega,λs hs=>?_⟩
 obtain ⟨k,hk⟩:=h.has s hs
 exact Nat.le_trans (zds hk) h5
theorem zcx (l:List SegA) (s:SegA):z0d (l++[s])=z0d l++s.bs:=by simp [z0d]
theorem zwt {a b:List BatM} (h:b≠[]):z0n (a++b)=z0n b:=by
 obtain ⟨b0,x,rfl⟩:=z7p h
 rw [<- List.append_assoc,z5l,z5l]
theorem z000 {seg:Int} {l:List SegA} {bs:List BatM} (hok:z0s 0 l) (hb:bs≠[]) (hp:(z05 (zy l) bs).1=0) :
  z0d (z5x seg l bs).2=z0d l++(z05 (zy l) bs).2.map BatM.p/\zy (z5x seg l bs).2=z0n ((z05 (zy l) bs).2.map BatM.p):=by
 have hq1:=(zdm hp).1
 have hq:(z05 (zy l) bs).2.map BatM.p≠[]:=by
  intro h
  have:=List.map_eq_nil_iff.1 h
  rw [this] at hq1
  exact hb (List.length_eq_zero_iff.1 hq1.symm)
 have hnx:=hok.next (Int.le_refl 0)
 have hlt:=((zat hnx.1 hp).1.next hnx.1).1 hq
 unfold z5x
 rw [if_neg hb,if_neg (by rw [hp];simp)]
 simp only
 split
 ·rename_i hr
  have hne:l≠[]:=by rintro rfl;cases hr
  obtain ⟨l0,s,rfl⟩:=z7p hne
  rw [z7u,zcx,zcx,z6s]
  refine ⟨by simp [SegA.add],?_⟩
  have hsr:=z6i hok.front.2.1
  rw [z6s] at hlt hq ⊢
  show max (max s.base s.fin) (z0n (s.bs++_))=_
  rw [zwt hq]
  omega
 ·rw [zcx,z6s]
  refine ⟨by simp [SegA.add],?_⟩
  show max (max (zy l) 0) (z0n ([]++_))=_
  rw [List.nil_append]
  omega
theorem z7i:∀ {n:Int} {l:List SegA},0<=n->z0s n l->z1w n (z0d l)
 | _,[],_,_=>trivial
 | n,s::l,hn,⟨h1,h2,h3⟩=>by
  have e1:z0d (s::l)=s.bs++z0d l:=by simp [z0d]
  have hr:=z6i h2
  have hb:=h2.base
  rw [e1]
  refine z1w.append hn (h2.bs.mono h1) ((z7i (by omega) h3).mono ?_)
  omega
section
variable {w:World} {l r:List HP} {lg d:Nat} {D:DiskA} {A:LogA}
theorem z062 (b:BatM) (x:Sl) {r1:List HP} [hf:Fo l lgP lg A r1] [hf2:Fo r1 dk A.d D r] (hlen:A.l.length<=1000000) (hok:z0s 0 A.l) (hfl:∀ s ∈ A.l,s.file.length<=500000000)
  (hx:FocR r x 7 ([b].flatMap zp)) (hb:FocR r b.x 4 (b.rs.flatMap z01)) (hs:Sat w l) :
  Ret P F.a115 #[.pointer (some ⟨lg,0,none⟩),x.v] w λvs w'=>vs=[.int .i64 (z13 A.pre A.seg A.l D [b]).1.1,.int .i64 (z13 A.pre A.seg A.l D [b]).1.2] /\
   Sat w' (lgP lg (A.set (z13 A.pre A.seg A.l D [b]).2.1)::dk A.d (z13 A.pre A.seg A.l D [b]).2.2::r) :=
 zwj x [b] hlen hok hfl (by show 1<=900;omega) hx (λc hc=>by
  simp only [List.mem_cons,List.not_mem_nil,or_false] at hc
  subst hc
  exact hb) hs
end
section
variable {w:World} {l r:List HP} {lg a:Nat} {A:LogA} {D:DiskA} {R:RefM}
theorem zza {r1:List HP} [hf:Fo l lgP lg A r1] [hf2:Fo r1 dk A.d D r] (hlen:A.l.length<=1000000000) (hok:z0s 0 A.l) (hs:Sat w l) :
  Ret P F.a121 #[.pointer (some ⟨lg,0,none⟩)] w λvs w'=>vs=[.int .i64 (z0y A.pre A.l D).1]/\Sat w' (lgP lg A::dk A.d (z0y A.pre A.l D).2::r):=by
 have hs:=hs.perm (hf.perm.trans (.cons _ hf2.perm))
 clear hf hf2
 obtain ⟨M,rfl,hs⟩:=z8d hs
 have hll:M.l.length=M.SM.length:=List.length_map ..
 have hMl:M.A.l=M.l:=rfl
 rw [hMl] at hlen hok
 have hs:Sat w (lgQ lg M::dk M.d D::r):=hs
 refine (zqk (lg:=lg) (M:=M) (D:=D) (by omega) hok hs).mono λvs w' h=>?_
 obtain ⟨h1,h2⟩:=h
 exact ⟨h1,z4p M h2⟩
set_option maxHeartbeats 1000000 in
end
section
variable {w:World} {l r:List HP} {lg:Nat} {A:LogA}
theorem zz8 [hf:Fo l lgP lg A r] (hlen:A.l.length<=1000000000) (hs:Sat w l):Ret P F.a117 #[.pointer (some ⟨lg,0,none⟩)] w λvs w'=>vs=[.int .i64 (zy A.l)]/\Sat w' (lgP lg A::r):=by
 have hs:=hs.perm hf.perm
 clear hf
 obtain ⟨M,hM,hsn⟩:=z8d hs
 clear hs
 subst hM
 have hll:M.l.length=M.SM.length:=List.length_map ..
 have hMl:M.A.l=M.l:=rfl
 rw [hMl] at hlen
 refine (zbg (lg:=lg) (M:=M) (by omega) hsn).mono λvs w' h=>?_
 obtain ⟨h1,h2⟩:=h
 exact ⟨h1,z4p M h2⟩
set_option maxHeartbeats 1000000 in
end
structure PartA where
 L:LogA
 most:Int
 T:TabA
 V:ViewA
def paP (p:Nat) (A:PartA):HP:=HP.ex λM:Nat × Nat × Nat=>HP.star (pt p (.cells #[.pointer (some ⟨M.1,0,none⟩),.pointer (some ⟨A.L.d,0,none⟩),.string A.L.pre,.int .i64 A.most,.pointer (some ⟨M.2.1,0,none⟩),.pointer (some ⟨M.2.2,0,none⟩)] T.a36))
 (HP.star (lgP M.1 A.L) (HP.star (tb M.2.1 A.T) (vw M.2.2 A.V)))
def z3a (A:PartA):Int:=if A.V.op.length=0 then zy A.L.l else max (z2m A.V) (z0t A.L.l)
section
variable {w:World} {l r r1 r2 r3 r4 l':List HP} {p lg t v:Nat} {A:PartA} {D:DiskA}
theorem z4k (hs:Sat w (paP p A::l)):∃ lg t v:Nat,Sat w (pt p (.cells #[.pointer (some ⟨lg,0,none⟩),.pointer (some ⟨A.L.d,0,none⟩),.string A.L.pre,.int .i64 A.most,.pointer (some ⟨t,0,none⟩),.pointer (some ⟨v,0,none⟩)] T.a36)::lgP lg A.L::tb t A.T::vw v A.V::l):=by
 obtain ⟨⟨lg,t,v⟩,hs⟩:=hs.ex
 have hs:=hs.star
 have hs:=(hs.pick [1]).star
 have hs:=(hs.pick [1]).star
 exact ⟨lg,t,v,hs.pick [3,2,0]⟩
theorem z0af (lg t v:Nat) (hs:Sat w (pt p (.cells #[.pointer (some ⟨lg,0,none⟩),.pointer (some ⟨A.L.d,0,none⟩),.string A.L.pre,.int .i64 A.most,.pointer (some ⟨t,0,none⟩),.pointer (some ⟨v,0,none⟩)] T.a36)::lgP lg A.L::tb t A.T::vw v A.V::l)):Sat w (paP p A::l):=by
 have h1:=(hs.pick [2,2]).star_mk
 have h2:=(h1.pick [2,0]).star_mk
 exact .ex_mk (lg,t,v) ((h2.pick [1]).star_mk)
theorem z2b (A:PartA) (hs:Sat w l) [h1:FocB l p (.cells [.pointer (some ⟨lg,0,none⟩),.pointer (some ⟨A.L.d,0,none⟩),.string A.L.pre,.int .i64 A.most,.pointer (some ⟨t,0,none⟩),.pointer (some ⟨v,0,none⟩)].toArray T.a36) r1] [h2:Fo r1 lgP lg A.L r2] [h3:Fo r2 tb t A.T r3] [h4:Fo r3 vw v A.V r4] [h5:Sub r4 l']:Sat w (paP p A::l'):=by
 have hs:=hs.perm (h1.perm.trans (.cons _ (h2.perm.trans (.cons _ (h3.perm.trans (.cons _ h4.perm))))))
 have hs:Sat w (paP p A::r4):=z0af lg t v hs
 exact hs.sub
theorem zia [hf:Fo l paP p A r] (hlen:A.L.l.length<=1000000000) (hs:Sat w l):Ret P F.a85 #[.pointer (some ⟨p,0,none⟩)] w λvs w'=>vs=[.int .i64 (zy A.L.l)]/\Sat w' (paP p A::r) :=
 zv8 _ <| by
  delta z09q AC AH Aa Ac Ad Ai Ak Al
  obtain ⟨lg,t,v,hs⟩:=z4k (hs.perm hf.perm)
  refine zu ?_ (by simp)
  refine zj ?_
  refine z8 hs ?_
  refine zb (zz8 (lg:=lg) (A:=A.L) hlen hs) λ_ w' hs=>?_
  obtain ⟨rfl,hs⟩:=hs
  refine zd ?_
  refine wp_lt ?_
  exact ⟨rfl,rfl,z2b A hs⟩
theorem zfw [hf:Fo l paP p A r] (hs:Sat w l):Ret P F.a83 #[.pointer (some ⟨p,0,none⟩)] w λvs w'=>vs=[.int .i64 (z0t A.L.l)]/\Sat w' (paP p A::r) :=
 zv6 _ <| by
  delta z09o AC AH Aa Ac Ad Ai Ak Al
  obtain ⟨lg,t,v,hs⟩:=z4k (hs.perm hf.perm)
  refine zu ?_ (by simp)
  refine zj ?_
  refine z8 hs ?_
  obtain ⟨M,hM,hsl⟩:=z8d (hs.pick [1])
  refine zb (zhv (lg:=lg) hsl) λ_ w' hs=>?_
  obtain ⟨rfl,hs⟩:=hs
  refine zd ?_
  refine wp_lt ?_
  have hMl:M.l=A.L.l:=congrArg LogA.l hM
  have hs:=z4p M hs
  rw [hM] at hs
  rw [hMl]
  exact ⟨rfl,rfl,z2b A hs⟩
theorem zx5 [hf:Fo l paP p A r] (hlen:A.L.l.length<=1000000000) (hs:Sat w l):Ret P F.a87 #[.pointer (some ⟨p,0,none⟩)] w λvs w'=>vs=[.int .i64 (z3a A)]/\Sat w' (paP p A::r) :=
 zho _ <| by
  delta z00x AC AH Aa Ac Ad Ag Ai Ak Al Aq;unfold z3a
  obtain ⟨lg,t,v,hs⟩:=z4k (hs.perm hf.perm)
  refine zu ?_ (by simp)
  refine zj ?_
  refine z8 hs ?_
  refine zb (z04e (v:=v) (A:=A.V) hs) λ_ w' hs=>?_
  obtain ⟨z,rfl,hs⟩:=hs
  refine zd ?_
  have hz:=hs.slen z (xs:=A.V.op) (enc:=z1b)
  refine zh (λh=>?_) λh=>?_
  ·have h0:A.V.op.length=0:=by simpa [hz] using h
   rw [if_pos h0]
   have hs:Sat w' (paP p A::r):=z2b A hs
   refine zb (zia (p:=p) (A:=A) hlen hs) λ_ w' hs=>?_
   obtain ⟨rfl,hs⟩:=hs
   refine zd ?_
   refine wp_lt ?_
   exact ⟨rfl,rfl,hs⟩
  ·have h0:¬ A.V.op.length=0:=by simpa [hz] using h
   rw [if_neg h0]
   refine zj ?_
   refine z8 hs ?_
   refine zb (zdf (v:=v) (A:=A.V) hs) λ_ w' hs=>?_
   obtain ⟨rfl,hs⟩:=hs
   refine zd ?_
   have hs:Sat w' (paP p A::r):=z2b A hs
   refine zb (zfw (p:=p) (A:=A) hs) λ_ w' hs=>?_
   obtain ⟨rfl,hs⟩:=hs
   refine zd ?_
   refine wp_lt ?_
   refine ⟨rfl,?_,hs⟩
   have e:(if z0t A.L.l>z2m A.V then z0t A.L.l else z2m A.V)=max (z2m A.V) (z0t A.L.l):=by split <;> omega
   rw [e]
def z9w (A:PartA):Prop:=∀ {w:World} {l r:List HP} {p:Nat},Fo l paP p A r->A.L.l.length<=1000000000->Sat w l->Ret P F.a87 #[.pointer (some ⟨p,0,none⟩)] w λvs w'=>vs=[.int .i64 (z3a A)]/\Sat w' (paP p A::r)
theorem zmw (A:PartA):z9w A:=λ{w l r p} hf hlen hs=>@zx5 w l r p A hf hlen hs
end
def zaz (A:PartA) (b:BatM):VerA × Int:=if (z1p A.T b).2≠0\/(z1p A.T b).1.again=true then z1p A.T b else ((z1p A.T b).1,z5h A.V b)
def z57 (A:PartA) (b:BatM):PartA:=⟨A.L,A.most,(zkq A.T b).2,(zaw A.V b).2⟩
def PartA.log (A:PartA) (l:List SegA):PartA:=⟨A.L.set l,A.most,A.T,A.V⟩
def zl0 (A:PartA) (D:DiskA) (c:BatM):(Int × Bool × Int) × PartA × DiskA :=
 if (z13 A.L.pre A.L.seg A.L.l D [c]).1.2≠0 then ((0,false,(z13 A.L.pre A.L.seg A.L.l D [c]).1.2),A.log (z13 A.L.pre A.L.seg A.L.l D [c]).2.1,(z13 A.L.pre A.L.seg A.L.l D [c]).2.2) else
 if (z0y A.L.pre (z13 A.L.pre A.L.seg A.L.l D [c]).2.1 (z13 A.L.pre A.L.seg A.L.l D [c]).2.2).1≠0 then ((0,false,(z0y A.L.pre (z13 A.L.pre A.L.seg A.L.l D [c]).2.1 (z13 A.L.pre A.L.seg A.L.l D [c]).2.2).1),A.log (z13 A.L.pre A.L.seg A.L.l D [c]).2.1,(z0y A.L.pre (z13 A.L.pre A.L.seg A.L.l D [c]).2.1 (z13 A.L.pre A.L.seg A.L.l D [c]).2.2).2) else
 (((z13 A.L.pre A.L.seg A.L.l D [c]).1.1,false,0),z57 (A.log (z13 A.L.pre A.L.seg A.L.l D [c]).2.1) (c.to (z13 A.L.pre A.L.seg A.L.l D [c]).1.1),(z0y A.L.pre (z13 A.L.pre A.L.seg A.L.l D [c]).2.1 (z13 A.L.pre A.L.seg A.L.l D [c]).2.2).2)
def z09 (A:PartA) (D:DiskA) (b:BatM):(Int × Bool × Int) × PartA × DiskA :=
 if (zaz A (b.to (zy A.L.l))).2≠0\/(zaz A (b.to (zy A.L.l))).1.again=true then (((zaz A (b.to (zy A.L.l))).1.base,(zaz A (b.to (zy A.L.l))).1.again,(zaz A (b.to (zy A.L.l))).2),A,D)
 else zl0 A D (b.to (zy A.L.l))
instance {n k:Int} {b:Bool}:IsR (.tup [.one (.int .i64),.one .bool,.one (.int .i64)]) [.int .i64 n,.bool b,.int .i64 k] (n,b,k,()):=⟨rfl⟩
section
variable {w:World} {l r r1 r2 r3 r4 l':List HP} {p lg t v:Nat} {A:PartA} {D:DiskA}
theorem zr0 (b:BatM) [hf:Fo l paP p A r] [hb:FocR r b.x 4 (b.rs.flatMap z01)] (hs:Sat w l):Ret P F.a92 #[.pointer (some ⟨p,0,none⟩),.agg (zp b).toArray] w λvs w'=>vs=[]/\Sat w' (paP p (z57 A b)::r) :=
 zve _ b.base b.pid b.epoch b.seq b.kind b.time b.x <| by
  delta z09w AC AH AL AM Aa Ad Ae Aj Al As
  obtain ⟨lg,t,v,hs⟩:=z4k (hs.perm hf.perm)
  refine zq hs λa0 w' hs=>?_
  refine zv hs λw' hs=>?_
  refine zj ?_
  refine z8 hs ?_
  refine zg hs ?_
  refine zb (z05l (t:=t) (A:=A.T) b hs) λ_ _ hs=>?_
  obtain ⟨rfl,hs⟩:=hs
  refine zd ?_
  refine ze ?_
  refine zv hs λw' hs=>?_
  refine zj ?_
  refine z8 hs ?_
  refine zg hs ?_
  refine zb (z04f (v:=v) (A:=A.V) b hs) λ_ _ hs=>?_
  obtain ⟨rfl,hs⟩:=hs
  refine zd ?_
  refine ze ?_
  exact ⟨rfl,rfl,z2b (lg:=lg) (t:=t) (v:=v) (z57 A b) hs⟩
theorem z04y (b:BatM) (hs:Sat w l):Ret P F.a95 #[.agg (zp b).toArray] w λvs w'=>vs=[.bool (z04 b)]/\Sat w' l :=
 zvh b.base b.pid b.epoch b.seq b.kind b.time b.x <| by
  delta z09z AM Ab Ad As Ay Bc
  refine zq hs λa0 w' hs=>?_
  refine z8 hs ?_
  refine z8 hs ?_
  refine wp_lt ?_
  refine ⟨rfl,?_,hs.tail⟩
  unfold z04
  rfl
theorem z076 (b:BatM) [hf:Fo l paP p A r] [hb:FocR r b.x 4 (b.rs.flatMap z01)] (hs:Sat w l):Ret P F.a88 #[.pointer (some ⟨p,0,none⟩),.agg (zp b).toArray] w λvs w'=>vs=[.agg (zgh (zaz A b).1).toArray,.int .i64 (zaz A b).2]/\Sat w' (paP p A::r) :=
 zva _ b.base b.pid b.epoch b.seq b.kind b.time b.x <| by
  delta z09s A8 AA AC AH AI AJ AL AM Aa Ac Ad Ae Ai Aj Ak Al As BH BI BQ Bk By;unfold zaz
  obtain ⟨lg,t,v,hs⟩:=z4k (hs.perm hf.perm)
  refine zq hs λa0 w' hs=>?_
  refine zn hs λa1 w' hs=>?_
  refine zl (λq w'=>∃ a:Nat,q=(⟨a,0,none⟩,(z1p A.T b).2,())/\Sat w' (pt a (.cells #[.bool (z1p A.T b).1.again,.int .i64 (z1p A.T b).1.base] T.a7)::pt a1 (.cells #[.bool false,.int .i64 0] T.a7)::pt a0 (.cells #[.int .i64 b.base,.int .i64 b.pid,.int .i64 b.epoch,.int .i64 b.seq,.int .i64 b.kind,.int .i64 b.time,.slice b.x.a b.x.len b.x.cap] T.a0)::paP p A::r)) ?_ ?_
  ·refine zv hs λw' hs=>?_
   refine zj ?_
   refine z14 hs ?_
   refine zhj hs ?_
   refine ⟨?_,?_⟩
   ·refine ze ?_
    refine zb (zg3 (t:=t) (A:=A.T) b hs) λ_ _ hs=>?_
    obtain ⟨rfl,hs⟩:=hs
    refine zd ?_
    refine zn hs λa15 w' hs=>?_
    refine zm hs λw' hs=>?_
    refine wp_lt ?_
    refine ze ?_
    have hs:Sat w' (pt a15 (.cells #[.bool (z1p A.T b).1.again,.int .i64 (z1p A.T b).1.base] T.a7)::_):=hs
    refine zf ⟨a15,rfl,?_⟩
    have hs:Sat w' (paP p A::pt a15 (.cells #[.bool (z1p A.T b).1.again,.int .i64 (z1p A.T b).1.base] T.a7)::pt a1 (.cells #[.bool false,.int .i64 0] T.a7)::pt a0 (.cells #[.int .i64 b.base,.int .i64 b.pid,.int .i64 b.epoch,.int .i64 b.seq,.int .i64 b.kind,.int .i64 b.time,.slice b.x.a b.x.len b.x.cap] T.a0)::r):=z2b (lg:=lg) (t:=t) (v:=v) A hs
    exact hs.pick [1,1,1,0]
   ·refine zn hs λa17 w' hs=>?_
    refine ze ?_
    refine zb (zg3 (t:=t) (A:=A.T) b hs) λ_ _ hs=>?_
    obtain ⟨rfl,hs⟩:=hs
    refine zd ?_
    refine zm hs λw' hs=>?_
    refine wp_lt ?_
    refine ze ?_
    refine zf ⟨a17,rfl,?_⟩
    have hs:Sat w' (paP p A::pt a17 (.cells #[.bool (z1p A.T b).1.again,.int .i64 (z1p A.T b).1.base] T.a7)::pt a1 (.cells #[.bool false,.int .i64 0] T.a7)::pt a0 (.cells #[.int .i64 b.base,.int .i64 b.pid,.int .i64 b.epoch,.int .i64 b.seq,.int .i64 b.kind,.int .i64 b.time,.slice b.x.a b.x.len b.x.cap] T.a0)::r):=z2b (lg:=lg) (t:=t) (v:=v) A hs
    exact hs.pick [1,1,1,0]
  clear hs
  rintro _ w ⟨a,rfl,hs⟩
  refine z1v _ _ ?_
  generalize z1p A.T b=j at *
  obtain ⟨v0,e⟩:=j
  simp only at hs ⊢
  refine z8 hs ?_
  refine zh (λh=>?_) λh=>?_
  ·rw [if_pos h]
   refine zg hs ?_
   refine zm hs λw' hs=>?_
   refine wp_lt ?_
   refine zg hs ?_
   exact ⟨rfl,rfl,hs.sub⟩
  rw [if_neg h]
  refine zl (λq w'=>q=(z5h A.V b,())/\Sat w' (pt a1 (.cells #[.bool v0.again,.int .i64 v0.base] T.a7)::paP p A::r)) ?_ ?_
  ·refine zv hs λw' hs=>?_
   refine zhj hs ?_
   obtain ⟨lg,t,v,hs⟩:=z4k (hs.pick [3])
   refine zj ?_
   refine z8 hs ?_
   refine zg hs ?_
   refine zb (zwf (v:=v) (A:=A.V) b hs) λ_ w' hs=>?_
   obtain ⟨rfl,hs⟩:=hs
   refine zd ?_ (by first|trivial|(repeat (first|exact trivial|exact λ_=>z08 hs|exact λ_=>z0f hs|refine And.intro ?_ ?_)))
   refine ze ?_
   refine zm hs λw' hs=>?_
   refine wp_lt ?_
   refine ze ?_
   refine zf ⟨rfl,?_⟩
   have hs:Sat w' (paP p A::pt a1 (.cells #[.bool v0.again,.int .i64 v0.base] T.a7)::r):=z2b (lg:=lg) (t:=t) (v:=v) A hs
   exact hs.pick [1]
  clear hs
  rintro _ w ⟨rfl,hs⟩
  refine zk ?_
  refine zg hs ?_
  exact ⟨rfl,rfl,hs.sub⟩
theorem zz4 (pre:ByteArray) (seg:Int) (l:List SegA) (D:DiskA) (bs:List BatM):(z13 pre seg l D bs).2.1.length<=l.length+1:=by
 unfold z13
 split
 ·exact Nat.le_succ _
 split
 ·exact Nat.le_succ _
 split
 ·split
  ·exact Nat.le_succ _
  ·unfold z6o
   split <;> simp
 split
 ·exact Nat.le_succ _
 split
 ·exact Nat.le_succ _
 ·simp
set_option maxHeartbeats 1000000 in
theorem zx4 (b:BatM) {r1:List HP} [hf:Fo l paP p A r1] [hf2:Fo r1 dk A.L.d D r] (hb:FocR r b.x 4 (b.rs.flatMap z01)) (hlen:A.L.l.length<=100000) (hok:z0s 0 A.L.l) (hfl:∀ s ∈ A.L.l,s.file.length<=500000000) (hr:b.rs.length<=1000000) (hs:Sat w l) :
  Ret P F.a90 #[.pointer (some ⟨p,0,none⟩),.agg (zp b).toArray] w λvs w'=>vs=[.int .i64 (z09 A D b).1.1,.bool (z09 A D b).1.2.1,.int .i64 (z09 A D b).1.2.2]/\Sat w' (paP p (z09 A D b).2.1::dk A.L.d (z09 A D b).2.2::r) :=
 zvc _ b.base b.pid b.epoch b.seq b.kind b.time b.x <| by
  delta z09u AA AC AH AI AJ AL AM Aa Ab Ac Ad Ae Ai Aj Ak Al Am An Ap As Ay B8 BH BI Bk Bs By Bz;unfold z09
  have hs:=hs.perm (hf.perm.trans (.cons _ hf2.perm))
  clear hf hf2
  have hb':FocR r (b.to (zy A.L.l)).x 4 ((b.to (zy A.L.l)).rs.flatMap z01):=hb
  have hr':(b.to (zy A.L.l)).rs.length<=1000000:=hr
  refine zq hs λa0 w' hs=>?_
  refine zb (zia (p:=p) (A:=A) (by omega) hs) λ_ w' hs=>?_
  obtain ⟨rfl,hs⟩:=hs
  refine zd ?_
  refine z02 hs λw' hs=>?_
  have hs:Sat w' (pt a0 (.cells (zp (b.to (zy A.L.l))).toArray T.a0)::paP p A::dk A.L.d D::r):=hs
  generalize b.to (zy A.L.l)=c at *
  have hs:Sat w' (pt a0 (.cells #[.int .i64 c.base,.int .i64 c.pid,.int .i64 c.epoch,.int .i64 c.seq,.int .i64 c.kind,.int .i64 c.time,.slice c.x.a c.x.len c.x.cap] T.a0)::paP p A::dk A.L.d D::r):=hs
  refine zg hs ?_
  refine zb (z076 (p:=p) (A:=A) c hs) λ_ w' hs=>?_
  obtain ⟨rfl,hs⟩:=hs
  refine zd ?_
  refine zn hs λa12 w' hs=>?_
  refine zm hs λw' hs=>?_
  refine wp_lt ?_
  refine z8 hs ?_
  refine zh (λh=>?_) λh=>?_
  ·rw [if_pos h]
   refine zv hs λw' hs=>?_
   refine z8 hs ?_
   refine z8 hs ?_
   refine wp_lt ?_
   refine wp_lt ?_
   refine wp_lt ?_
   refine ze ?_
   exact ⟨rfl,rfl,hs.sub⟩
  rw [if_neg h]
  have hs:Sat w' (pt a0 (.cells #[.int .i64 c.base,.int .i64 c.pid,.int .i64 c.epoch,.int .i64 c.seq,.int .i64 c.kind,.int .i64 c.time,.slice c.x.a c.x.len c.x.cap] T.a0)::paP p A::dk A.L.d D::r):=hs.sub
  unfold zl0
  have hlsg:=zwi (pre:=A.L.pre) (seg:=A.L.seg) (D:=D) (bs:=[c]) hok
  have hlln:=zz4 A.L.pre A.L.seg A.L.l D [c]
  generalize hla:z13 A.L.pre A.L.seg A.L.l D [c]=la at *
  refine zl (λq w'=>q=(la.1.2,la.1.1,())/\Sat w' (pt a0 (.cells #[.int .i64 c.base,.int .i64 c.pid,.int .i64 c.epoch,.int .i64 c.seq,.int .i64 c.kind,.int .i64 c.time,.slice c.x.a c.x.len c.x.cap] T.a0)::paP p (A.log la.2.1)::dk A.L.d la.2.2::r)) ?_ ?_
  ·refine zv hs λw' hs=>?_
   obtain ⟨lg,t,v,hs⟩:=z4k (hs.pick [1])
   refine zj ?_
   refine z14 hs ?_
   refine zg hs ?_
   refine z7r hs (enc:=zp) [c] λy w' hs=>⟨(by first|trivial|(repeat (first|exact trivial|exact λ_=>z08 hs|exact λ_=>z0f hs|refine And.intro ?_ ?_))),?_⟩
   refine ze ?_
   refine zb (z062 (lg:=lg) (A:=A.L) (D:=D) c y (by omega) hok hfl inferInstance inferInstance hs) λ_ w' hs=>?_
   obtain ⟨rfl,hs⟩:=hs
   rw [hla] at hs ⊢
   refine ⟨(la.1.1,la.1.2,()),rfl,trivial,z1v _ _ ?_⟩
   refine wp_lt ?_
   refine wp_lt ?_
   refine ze ?_
   refine zf ⟨rfl,?_⟩
   have hs:Sat w' (lgP lg (A.log la.2.1).L::_):=hs
   have hs:Sat w' (paP p (A.log la.2.1)::dk A.L.d la.2.2::pt a0 (.cells #[.int .i64 c.base,.int .i64 c.pid,.int .i64 c.epoch,.int .i64 c.seq,.int .i64 c.kind,.int .i64 c.time,.slice c.x.a c.x.len c.x.cap] T.a0)::r):=z2b (lg:=lg) (t:=t) (v:=v) (A.log la.2.1) hs
   exact hs.pick [2]
  clear hs
  rintro _ w ⟨rfl,hs⟩
  refine z1v _ _ ?_
  obtain ⟨⟨at_,e⟩,l',D'⟩:=la
  simp only at hs hlsg hlln ⊢
  refine zl (λq w'=>q=((if e≠0 then e else (z0y A.L.pre l' D').1),())/\Sat w' (pt a0 (.cells #[.int .i64 c.base,.int .i64 c.pid,.int .i64 c.epoch,.int .i64 c.seq,.int .i64 c.kind,.int .i64 c.time,.slice c.x.a c.x.len c.x.cap] T.a0)::paP p (A.log l')::dk A.L.d (if e≠0 then D' else (z0y A.L.pre l' D').2)::r)) ?_ ?_
  ·refine zh (λh1=>?_) λh1=>?_
   ·have hs:Sat w (paP p (A.log l')::pt a0 (.cells #[.int .i64 c.base,.int .i64 c.pid,.int .i64 c.epoch,.int .i64 c.seq,.int .i64 c.kind,.int .i64 c.time,.slice c.x.a c.x.len c.x.cap] T.a0)::dk (A.log l').L.d D'::r):=hs.pick [1]
    obtain ⟨lg,t,v,hs⟩:=z4k hs
    refine zj ?_
    refine z8 hs ?_
    refine zb (zza (lg:=lg) (A:=(A.log l').L) (D:=D') (by show l'.length<=_;omega) hlsg hs) λ_ w' hs=>?_
    obtain ⟨rfl,hs⟩:=hs
    refine zd ?_
    refine wp_lt ?_
    refine zf ⟨?_,?_⟩
    ·rw [if_neg (by simpa using h1)];rfl
    ·rw [if_neg (by simpa using h1)]
     have hs:Sat w' (lgP lg (A.log l').L::dk A.L.d (z0y A.L.pre l' D').2::_):=hs
     have hs:Sat w' (paP p (A.log l')::dk A.L.d (z0y A.L.pre l' D').2::pt a0 (.cells #[.int .i64 c.base,.int .i64 c.pid,.int .i64 c.epoch,.int .i64 c.seq,.int .i64 c.kind,.int .i64 c.time,.slice c.x.a c.x.len c.x.cap] T.a0)::r):=z2b (lg:=lg) (t:=t) (v:=v) (A.log l') hs
     exact hs.pick [2]
   ·refine zf ⟨?_,?_⟩
    ·rw [if_pos (by simpa using h1)]
    ·rw [if_pos (by simpa using h1)];exact hs
  clear hs
  rintro _ w ⟨rfl,hs⟩
  refine zk ?_
  by_cases he:e≠0
  ·rw [if_pos he] at hs ⊢
   rw [if_pos he]
   refine z0p ?_ (by simpa using he)
   refine wp_lt ?_
   exact ⟨rfl,rfl,hs.sub⟩
  rw [if_neg he] at hs ⊢
  rw [if_neg he]
  refine zh (λh2=>?_) λh2=>?_
  ·rw [if_pos h2]
   refine wp_lt ?_
   exact ⟨rfl,rfl,hs.sub⟩
  rw [if_neg h2]
  refine z02 hs λw' hs=>?_
  refine zg hs ?_
  have hb2:FocR r (c.to at_).x 4 ((c.to at_).rs.flatMap z01):=hb'
  refine zb (zr1 (c.to at_) hr' hs) λ_ w' hs=>?_
  obtain ⟨z,rfl,hs⟩:=hs
  refine ⟨(at_,c.pid,c.epoch,c.seq,c.kind,c.time,z,()),rfl,trivial,zks _ _ _ _ _ _ _ ?_⟩
  have hb3:FocR (slc T.a2 4 z ((c.to at_).rs.flatMap z01)::dk A.L.d (z0y A.L.pre l' D').2::r) ((c.to at_).at z).x 4 (((c.to at_).at z).rs.flatMap z01):=(FocR.head:FocR (slc T.a2 4 z ((c.to at_).rs.flatMap z01)::_) z 4 ((c.to at_).rs.flatMap z01))
  have hs:Sat w' (paP p (A.log l')::slc T.a2 4 z ((c.to at_).rs.flatMap z01)::dk A.L.d (z0y A.L.pre l' D').2::r):=hs.sub
  refine zb (zr0 (p:=p) (A:=A.log l') ((c.to at_).at z) hs) λ_ w' hs=>?_
  obtain ⟨rfl,hs⟩:=hs
  refine zd ?_
  refine wp_lt ?_
  have hs:Sat w' (paP p (z57 (A.log l') (c.to at_))::_):=hs
  exact ⟨rfl,rfl,hs.sub⟩
theorem zx1 (b:BatM) {r1:List HP} [hf:Fo l paP p A r1] [hf2:Fo r1 dk A.L.d D r] (hb:FocR r b.x 4 (b.rs.flatMap z01)) (hlen:A.L.l.length<=100000) (hok:z0s 0 A.L.l) (hfl:∀ s ∈ A.L.l,s.file.length<=500000000) (hr:b.rs.length<=1000000) (hm:z04 b=false) (hs:Sat w l) :
  Ret P F.a81 #[.pointer (some ⟨p,0,none⟩),.agg (zp b).toArray] w λvs w'=>vs=[.int .i64 (z09 A D b).1.1,.bool (z09 A D b).1.2.1,.int .i64 (z09 A D b).1.2.2]/\Sat w' (paP p (z09 A D b).2.1::dk A.L.d (z09 A D b).2.2::r) :=
 zv4 _ b.base b.pid b.epoch b.seq b.kind b.time b.x <| by
  delta z09m AL AM Ad Ai Ak Al As Au Aw Ay BD
  have hs:=hs.perm (hf.perm.trans (.cons _ hf2.perm))
  clear hf hf2
  refine zq hs λa0 w' hs=>?_
  refine wp_lt ?_
  refine zu ?_ (by simp)
  refine zg hs ?_
  refine zb (z04y b hs) λ_ w' hs=>?_
  obtain ⟨rfl,hs⟩:=hs
  refine zd ?_
  refine wp_lt ?_
  refine zu ?_ (by rw [hm];simp)
  refine zg hs ?_
  have hs:=hs.pick [1,1]
  refine zb (zx4 (p:=p) (A:=A) (D:=D) b inferInstance hlen hok hfl hr hs) λ_ w' hs=>?_
  obtain ⟨rfl,hs⟩:=hs
  refine zd ?_
  refine wp_lt ?_
  refine wp_lt ?_
  refine wp_lt ?_
  exact ⟨rfl,rfl,hs.sub⟩
def z1h (pid epoch:Int) (commit:Bool) (time:Int) (x:Sl):BatM:=⟨0,pid,epoch,0,if commit then 2 else 3,time,x,[]⟩
theorem z059 (pid epoch:Int) (commit:Bool) (time:Int) (hs:Sat w l):Ret P F.a101 #[.int .i64 pid,.int .i64 epoch,.bool commit,.int .i64 time] w λvs w'=>vs=[.agg (zp (z1h pid epoch commit time ⟨none,0,0⟩)).toArray]/\Sat w' l :=
 znl _ _ _ _ <| by
  delta z01d AI AJ AK AL AM Ac Ad Ak An
  refine zn hs λa0 w' hs=>?_
  refine zn hs λa1 w' hs=>?_
  refine zm hs λw' hs=>?_
  refine zl (λq w'=>Sat w' (pt a1 (.cells (zp (z1h pid epoch commit time ⟨none,0,0⟩)).toArray T.a0)::pt a0 (.cells #[.int .i64 0,.int .i64 0,.int .i64 0,.int .i64 0,.int .i64 0,.int .i64 0,.slice none 0 0] T.a0)::l)) ?_ ?_
  ·cases commit with
   | true =>
    refine z0p ?_ (by simp)
    refine z02 hs λw' hs=>?_
    exact zf hs
   | false =>
    refine zu ?_ (by simp)
    exact zf hs
  clear hs
  rintro _ w hs
  have hs:Sat w (pt a1 (.cells #[.int .i64 0,.int .i64 pid,.int .i64 epoch,.int .i64 0,.int .i64 (if commit then 2 else 3),.int .i64 time,.slice none 0 0] T.a0)::pt a0 (.cells #[.int .i64 0,.int .i64 0,.int .i64 0,.int .i64 0,.int .i64 0,.int .i64 0,.slice none 0 0] T.a0)::l):=hs
  refine zk ?_
  refine zg hs ?_
  refine zm hs λw' hs=>?_
  refine zg hs ?_
  exact ⟨rfl,rfl,hs.tail.tail⟩
theorem z04v (pid epoch:Int) (commit:Bool) (time:Int) {r1:List HP} [hf:Fo l paP p A r1] [hf2:Fo r1 dk A.L.d D r] (hlen:A.L.l.length<=100000) (hok:z0s 0 A.L.l) (hfl:∀ s ∈ A.L.l,s.file.length<=500000000) (hs:Sat w l) :
  Ret P F.a84 #[.pointer (some ⟨p,0,none⟩),.int .i64 pid,.int .i64 epoch,.bool commit,.int .i64 time] w λvs w'=>vs=[.int .i64 (z09 A D (z1h pid epoch commit time ⟨none,0,0⟩)).1.1,.bool (z09 A D (z1h pid epoch commit time ⟨none,0,0⟩)).1.2.1,.int .i64 (z09 A D (z1h pid epoch commit time ⟨none,0,0⟩)).1.2.2]/\Sat w' (paP p (z09 A D (z1h pid epoch commit time ⟨none,0,0⟩)).2.1::dk A.L.d (z09 A D (z1h pid epoch commit time ⟨none,0,0⟩)).2.2::r) :=
 zv7 _ _ _ _ _ <| by
  delta z09p AM Ac Ad Ai Ak Al Ay BD Bs
  have hs:=hs.perm (hf.perm.trans (.cons _ hf2.perm))
  clear hf hf2
  refine zu ?_ (by simp)
  refine zb (z059 pid epoch commit time hs) λ_ w' hs=>?_
  obtain ⟨rfl,hs⟩:=hs
  refine ⟨(0,pid,epoch,0,(if commit then 2 else 3),time,⟨none,0,0⟩,()),rfl,trivial,zks _ _ _ _ _ _ _ ?_⟩
  have hs:Sat w' (slc T.a2 4 ⟨none,0,0⟩ (([]:List RecM).flatMap z01)::_):=hs.slc_nil
  have hb:FocR (slc T.a2 4 ⟨none,0,0⟩ (([]:List RecM).flatMap z01)::r) (z1h pid epoch commit time ⟨none,0,0⟩).x 4 ((z1h pid epoch commit time ⟨none,0,0⟩).rs.flatMap z01):=(FocR.head:FocR (slc T.a2 4 ⟨none,0,0⟩ (([]:List RecM).flatMap z01)::r) ⟨none,0,0⟩ 4 (([]:List RecM).flatMap z01))
  have hs:Sat w' (paP p A::dk A.L.d D::slc T.a2 4 ⟨none,0,0⟩ (([]:List RecM).flatMap z01)::r):=hs.sub
  refine zb (zx4 (p:=p) (A:=A) (D:=D) (z1h pid epoch commit time ⟨none,0,0⟩) hb hlen hok hfl (by show 0<=_;omega) hs) λ_ w' hs=>?_
  obtain ⟨rfl,hs⟩:=hs
  refine zd ?_
  refine wp_lt ?_
  refine wp_lt ?_
  refine wp_lt ?_
  exact ⟨rfl,rfl,hs.sub⟩
end
def z2j (A:PartA) (c:Bool):Int->List BatM->List AtM × Int
 | n,[]=>([],n)
 | n,b::bs=>if c=true/\b.base>=z3a A then ([],n) else ((if c=false\/z3n A.V b=1 then z2d b else [])++(z2j A c (z1d b) bs).1,(z2j A c (z1d b) bs).2)
def z17 (A:PartA) (off most:Int) (c:Bool):(List AtM × Int) × Int:=if (z3h A.L.l off most).1≠0 then (([],0),(z3h A.L.l off most).1) else (z2j A c off (z3h A.L.l off most).2,0)
theorem zqw (A:PartA) (c:Bool):∀ (bs:List BatM) (n:Int),z2j A c n (bs.map BatM.p)=z2j A c n bs
 | [],n=>rfl
 | b::bs,n=>by
  have ih:=zqw A c bs (z1d b)
  show (if c=true/\b.base>=z3a A then (([]:List AtM),n) else ((if c=false\/z3n A.V b=1 then z2d b else [])++(z2j A c (z1d b) (bs.map BatM.p)).1,(z2j A c (z1d b) (bs.map BatM.p)).2))=_
  rw [ih]
  rfl
theorem z96 {A:PartA} {c:Bool} {n:Int} {b:BatM} {bs:List BatM} (h:c=true/\b.base>=z3a A):z2j A c n (b::bs)=([],n):=if_pos h
theorem zbi {A:PartA} {c:Bool} {n:Int} {b:BatM} {bs:List BatM} (h:¬ (c=true/\b.base>=z3a A)):z2j A c n (b::bs)=((if c=false\/z3n A.V b=1 then z2d b else [])++(z2j A c (z1d b) bs).1,(z2j A c (z1d b) bs).2):=if_neg h
theorem zjs (l:List SegA) (off most:Int):(z3h l off most).2.length<=(z0d l).length:=by
 unfold z3h
 split
 ·exact Nat.zero_le _
 split
 ·exact Nat.zero_le _
 ·simp only [List.length_take]
  exact Nat.le_trans (Nat.min_le_right _ _) (List.length_filterMap_le ..)
theorem zmk {l:List SegA} {off most:Int} {b:BatM} (hok:z0s 0 l) (h:b ∈ (z3h l off most).2):b.rs.length<=64:=by
 unfold z3h at h
 split at h
 ·cases h
 split at h
 ·cases h
 ·obtain ⟨c,hc,hf⟩:=List.mem_filterMap.1 (List.mem_of_mem_take h)
  have hv:=((z7i (Int.le_refl 0) hok).valid c hc).1
  have h64:=(z1q hv).1
  unfold z0k at hf
  split at hf
  ·cases hf
  split at hf
  ·cases hf;exact h64
  ·cases hf
   show (c.rs.drop _).length<=64
   rw [List.length_drop];omega
section
variable {w:World} {l r:List HP} {p:Nat} {A:PartA} {D:DiskA}
set_option maxHeartbeats 1000000 in
theorem z052 (hst:z9w A) (off most:Int) (c:Bool) (ho : -9223372036854775808<=off/\off<9223372036854775808) (hmo:most<9223372036854775808) {r1:List HP} [hf:Fo l paP p A r1] [hf2:Fo r1 dk A.L.d D r] (hok:z0s 0 A.L.l) (hhas:zkv A.L.pre A.L.l D) (hlen:A.L.l.length<=1000000) (hall:(z0d A.L.l).length<=1000000) (hs:Sat w l) :
  Ret P F.a86 #[.pointer (some ⟨p,0,none⟩),.int .i64 off,.int .i64 most,.bool c] w λvs w'=>∃ z:Sl,vs=[z.v,.int .i64 (z17 A off most c).1.2,.int .i64 (z17 A off most c).2]/\Sat w' (slc T.a37 5 z ((z17 A off most c).1.1.flatMap zr)::paP p A::dk A.L.d D::r) :=
 zv9 _ off most c <| by
  delta z09r A9 AC AF AH AI AJ AL AM AN AV AX Aa Ac Ad Ae Ag Ai Aj Ak Al Ao Ap Aq Av Bo;unfold z17
  have hs:=hs.perm (hf.perm.trans (.cons _ hf2.perm))
  clear hf hf2
  obtain ⟨lg,t,v,hs⟩:=z4k hs
  refine zu ?_ (by simp)
  refine zj ?_
  refine z8 hs ?_
  refine zb (zqj (lg:=lg) (A:=A.L) (D:=D) off most ho hmo hok hhas hlen hall hs) λ_ w' hs=>?_
  obtain ⟨y,outs,rfl,hmap,hs⟩:=hs
  refine ⟨(y,(z3h A.L.l off most).1,()),rfl,trivial,z1v _ _ ?_⟩
  have hs:Sat w' (slc T.a0 7 y (outs.flatMap zp)::z0i outs::paP p A::dk A.L.d D::r):=by
   have hs:Sat w' (paP p A::slc T.a0 7 y (outs.flatMap zp)::z0i outs::dk A.L.d D::r):=z2b (lg:=lg) (t:=t) (v:=v) A hs
   exact hs.pick [1,1]
  refine wp_lt ?_
  refine zh (λh=>?_) λh=>?_
  ·rw [if_pos h]
   refine wp_lt ?_
   have hs:Sat w' (slc T.a37 5 ⟨none,0,0⟩ (([]:List AtM).flatMap zr)::_):=hs.slc_nil
   exact ⟨rfl,⟨none,0,0⟩,rfl,hs.sub⟩
  rw [if_neg h,<- hmap,zqw]
  have hol:outs.length<=1000000:=by
   have:=congrArg List.length hmap
   rw [List.length_map] at this
   rw [this]
   exact Nat.le_trans (zjs _ _ _) hall
  have hov:∀ b ∈ outs,b.rs.length<=64:=λb hb=>by
   have h1:b.p ∈ (z3h A.L.l off most).2:=by rw [<- hmap];exact List.mem_map.2 ⟨b,hb,rfl⟩
   have h2:=zmk hok h1
   exact h2
  have hly:=hs.slen y (xs:=outs) (enc:=zp)
  refine wp_lt ?_
  refine zl (λq w'=>∃ z:Sl,q=(z,(z2j A c off outs).2,())/\Sat w' (slc T.a37 5 z ((z2j A c off outs).1.flatMap zr)::paP p A::dk A.L.d D::r)) ?_ ?_
  rotate_left
  ·rintro _ w2 ⟨z,rfl,hs⟩
   refine z1v _ _ ?_
   refine wp_lt ?_
   exact ⟨rfl,z,rfl,hs⟩
  have hs:Sat w' (slc T.a37 5 ⟨none,0,0⟩ (([]:List AtM).flatMap zr)::slc T.a0 7 y (outs.flatMap zp)::z0i outs::paP p A::dk A.L.d D::r):=hs.slc_nil
  refine z03 (λm q w=>∃ (i:Nat) (z:Sl) (n:Int) (done:List AtM),q=(z,n,(i:Int),())/\i<=outs.length/\outs.length-i=m/\done.length<=64*i /\
   z2j A c off outs=(done++(z2j A c n (outs.drop i)).1,(z2j A c n (outs.drop i)).2) /\
   Sat w (slc T.a37 5 z (done.flatMap zr)::slc T.a0 7 y (outs.flatMap zp)::z0i outs::paP p A::dk A.L.d D::r)) outs.length
   ⟨0,⟨none,0,0⟩,off,[],rfl,by omega,rfl,by simp,by simp,hs⟩ ?_
  clear hs
  rintro m _ w ⟨i,z,n,done,rfl,hi,hm,hdl,hq,hs⟩
  refine zea _ _ _ ?_
  refine zh (λhc=>?_) λhc=>?_
  rotate_left
  ·have e:outs.drop i=[]:=List.drop_eq_nil_of_le (by omega)
   rw [e] at hq
   have hq:z2j A c off outs=(done++[],n):=hq
   rw [List.append_nil] at hq
   refine zo (zf ⟨z,by rw [hq],?_⟩)
   rw [hq]
   exact hs.sub
  have hil:i<outs.length:=by omega
  have hdrop:outs.drop i=outs[i]::outs.drop (i+1):=List.drop_eq_getElem_cons hil
  rw [hdrop] at hq
  have hrl:outs[i].rs.length<=64:=hov _ (List.getElem_mem hil)
  generalize hb:outs[i]=b at *
  have hbm:b ∈ outs:=by rw [<- hb];exact List.getElem_mem hil
  refine z1s hs i hil ?_
  rw [hb]
  refine zn hs λa w' hs=>?_
  refine zm hs λw' hs=>?_
  have hbr:FocR (z0i outs::paP p A::dk A.L.d D::r) b.x 4 (b.rs.flatMap z01):=zdx hbm
  have hs:Sat w' (pt a (.cells #[.int .i64 b.base,.int .i64 b.pid,.int .i64 b.epoch,.int .i64 b.seq,.int .i64 b.kind,.int .i64 b.time,.slice b.x.a b.x.len b.x.cap] T.a0)::slc T.a37 5 z (done.flatMap zr)::slc T.a0 7 y (outs.flatMap zp)::z0i outs::paP p A::dk A.L.d D::r):=hs
  refine zl (λq w'=>q=(decide (c=true/\b.base>=z3a A),())/\Sat w' (pt a (.cells #[.int .i64 b.base,.int .i64 b.pid,.int .i64 b.epoch,.int .i64 b.seq,.int .i64 b.kind,.int .i64 b.time,.slice b.x.a b.x.len b.x.cap] T.a0)::slc T.a37 5 z (done.flatMap zr)::slc T.a0 7 y (outs.flatMap zp)::z0i outs::paP p A::dk A.L.d D::r)) ?_ ?_
  ·refine zv hs λw' hs=>?_
   refine z14 hs ?_
   cases c with
   | false =>
    refine zu ?_ (by simp)
    refine ze ?_
    exact zf ⟨by simp,hs⟩
   | true =>
    refine z0p ?_ (by simp)
    refine zb (hst (p:=p) inferInstance (by omega) hs) λ_ w' hs=>?_
    obtain ⟨rfl,hs⟩:=hs
    refine zd ?_ (by first|trivial|(repeat (first|exact trivial|exact λ_=>z08 hs|exact λ_=>z0f hs|refine And.intro ?_ ?_)))
    refine ze ?_
    exact zf ⟨by simp,hs.pick [1,1,1,1]⟩
  clear hs
  rintro _ w ⟨rfl,hs⟩
  refine zk ?_
  by_cases hstop:c=true/\b.base>=z3a A
  ·refine z0p ?_ (by simpa using hstop)
   have hq:z2j A c off outs=(done++[],n):=by
    rw [hq,z96 hstop]
   rw [List.append_nil] at hq
   refine zo (zf ⟨z,by rw [hq],?_⟩)
   rw [hq]
   exact hs.sub
  refine zu ?_ (by simpa using hstop)
  have hq:z2j A c off outs=(done++((if c=false\/z3n A.V b=1 then z2d b else [])++(z2j A c (z1d b) (outs.drop (i+1))).1),(z2j A c (z1d b) (outs.drop (i+1))).2):=by
   rw [hq,zbi hstop]
  refine zl (λq w'=>q=(decide (c=false\/z3n A.V b=1),())/\Sat w' (pt a (.cells #[.int .i64 b.base,.int .i64 b.pid,.int .i64 b.epoch,.int .i64 b.seq,.int .i64 b.kind,.int .i64 b.time,.slice b.x.a b.x.len b.x.cap] T.a0)::slc T.a37 5 z (done.flatMap zr)::slc T.a0 7 y (outs.flatMap zp)::z0i outs::paP p A::dk A.L.d D::r)) ?_ ?_
  ·refine zv hs λw' hs=>?_
   obtain ⟨lg,t,v,hs⟩:=z4k (hs.pick [4])
   refine z0j ?_
   refine z8 hs ?_
   refine zg hs ?_
   cases c with
   | false =>
    refine z0p ?_ (by simp)
    refine ze ?_
    refine zf ⟨by simp,?_⟩
    have hs:Sat w' (paP p A::pt a (.cells #[.int .i64 b.base,.int .i64 b.pid,.int .i64 b.epoch,.int .i64 b.seq,.int .i64 b.kind,.int .i64 b.time,.slice b.x.a b.x.len b.x.cap] T.a0)::slc T.a37 5 z (done.flatMap zr)::slc T.a0 7 y (outs.flatMap zp)::z0i outs::dk A.L.d D::r):=z2b (lg:=lg) (t:=t) (v:=v) A hs
    exact hs.pick [1,1,1,1]
   | true =>
    refine zu ?_ (by simp)
    refine zb (z04d (v:=v) (A:=A.V) b hs) λ_ w' hs=>?_
    obtain ⟨rfl,hs⟩:=hs
    refine zd ?_
    refine ze ?_
    refine zf ⟨?_,?_⟩
    ·have:(z3n A.V b == 1)=decide (true=false\/z3n A.V b=1):=by rw [Bool.eq_iff_iff];simp
     rw [this]
    have hs:Sat w' (paP p A::pt a (.cells #[.int .i64 b.base,.int .i64 b.pid,.int .i64 b.epoch,.int .i64 b.seq,.int .i64 b.kind,.int .i64 b.time,.slice b.x.a b.x.len b.x.cap] T.a0)::slc T.a37 5 z (done.flatMap zr)::slc T.a0 7 y (outs.flatMap zp)::z0i outs::dk A.L.d D::r):=z2b (lg:=lg) (t:=t) (v:=v) A hs
    exact hs.pick [1,1,1,1]
  clear hs
  rintro _ w ⟨rfl,hs⟩
  refine zk ?_
  have hfl:=zd8 b
  refine zl (λq w'=>∃ z':Sl,q=(z',())/\Sat w' (pt a (.cells #[.int .i64 b.base,.int .i64 b.pid,.int .i64 b.epoch,.int .i64 b.seq,.int .i64 b.kind,.int .i64 b.time,.slice b.x.a b.x.len b.x.cap] T.a0)::slc T.a37 5 z' ((done++(if c=false\/z3n A.V b=1 then z2d b else [])).flatMap zr)::slc T.a0 7 y (outs.flatMap zp)::z0i outs::paP p A::dk A.L.d D::r)) ?_ ?_
  ·by_cases hd:c=false\/z3n A.V b=1
   ·refine z0p ?_ (by simpa using hd)
    rw [if_pos hd]
    refine zg hs ?_
    refine zrl hs (enc:=zp) [b] λx1 w' hs=>?_
    refine zb (z06g x1 [b] (λb' hb'=>by rw [List.mem_singleton.1 hb'];infer_instance) (by simp) (λb' hb'=>by rw [List.mem_singleton.1 hb'];omega) hs) λ_ w' hs=>?_
    obtain ⟨z2,rfl,hs⟩:=hs
    refine zd ?_
    have e:z52 [b]=z2d b:=by simp [z52]
    rw [e] at hs
    refine wp_app' (xs:=done) (ys:=z2d b) (enc:=zr) hs (λz3 w' hs=>?_) (by omega)
    refine zf ⟨z3,rfl,?_⟩
    exact hs.sub
   ·refine zu ?_ (by simpa using hd)
    rw [if_neg hd,List.append_nil]
    exact zf ⟨z,rfl,hs⟩
  clear hs
  rintro _ w ⟨z',rfl,hs⟩
  refine zk ?_
  refine zg hs ?_
  refine zb (z9r b hs) λ_ w' hs=>?_
  obtain ⟨rfl,hs⟩:=hs
  refine zd ?_
  refine wp_lt ?_
  refine z1k (us':=[z'.v,.int .i64 (z1d b),.int .i64 ((i+1:Nat):Int)]) (by (try simp (disch:=omega) only [w64]);first|rfl|(congr;omega)) ?_
  refine z0l (outs.length-(i+1)) ⟨i+1,z',z1d b,done++(if c=false\/z3n A.V b=1 then z2d b else []),rfl,by omega,rfl,?_,?_,hs.sub⟩
  ·rw [List.length_append]
   split
   ·omega
   ·simp only [List.length_nil];omega
  ·rw [hq,List.append_assoc]
end
section
variable {w:World} {l r:List HP}
theorem z046 (x:Sl) (bs:List UInt8) [hx:FocR l x 1 (bs.flatMap zi)] (hcap:x.len<=x.cap) (hn:bs.length<=1000000000) (hs:Sat w l) :
  Ret P F.a40 #[x.v] w λvs w'=>∃ z:Sl,vs=[z.v,.bool (zkk bs).isSome]/\Sat w' (slc T.a58 1 z (((zkk bs).getD []).flatMap zi)::l) :=
 zu7 x <| by
  delta z08r Ac Ad Ag Ai Ay Bj
  have hl:=hs.slen x (xs:=bs) (enc:=zi)
  refine zb (zby x bs hcap hn hs) λ_ _ hs=>?_
  obtain ⟨z,rfl,hs⟩:=hs
  refine zd ?_
  refine wp_lt ?_
  refine wp_lt ?_
  unfold zkk
  cases hf:z15 bs with
  | none =>
   refine z0p ?_ (by simp)
   exact ⟨rfl,⟨none,0,0⟩,rfl,(hs.tail).slc_nil⟩
  | some q =>
   obtain ⟨body,n⟩:=q
   rw [hf] at hs
   dsimp only
   refine zh (λh=>?_) λh=>?_
   ·rw [if_neg (by simp at h;omega)]
    exact ⟨rfl,⟨none,0,0⟩,rfl,(hs.tail).slc_nil⟩
   ·rw [if_pos (by simp at h;omega)]
    exact ⟨rfl,z,rfl,hs⟩
end
def ze7 (pre:ByteArray):ByteArray:=pre++ByteArray.mk #[46,115,110,97,112]
def ze8 (pre:ByteArray):ByteArray:=pre++ByteArray.mk #[46,116,109,112]
def z79 (L:LogA) (most:Int):PartA:=⟨L,most,⟨most,0,[]⟩,⟨0,[],[]⟩⟩
def z41 (L:LogA) (most:Int):PartA:=(z0d L.l).foldl z57 (z79 L most)
theorem z07j (A:PartA) (b:BatM):z57 A b.p=z57 A b:=rfl
theorem zrd:∀ (bs:List BatM) (A:PartA),(bs.map BatM.p).foldl z57 A=bs.foldl z57 A
 | [],A=>rfl
 | b::bs,A=>by
  rw [List.map_cons,List.foldl_cons,List.foldl_cons,z07j]
  exact zrd bs _
section
variable {w:World} {l r:List HP} {p d lg t v:Nat} {A:PartA} {D:DiskA} {c1 c2 c3 c4 c5:Value}
theorem z053 (pre:ByteArray) (hp:pre.size<=100) [hf:FocB l p (.cells [c1,c2,.string pre,c3,c4,c5].toArray T.a36) r] (hs:Sat w l):Ret P F.a91 #[.pointer (some ⟨p,0,none⟩)] w λvs w'=>vs=[.string (ze7 pre)]/\Sat w' l :=
 zvd _ <| by
  delta z09v Aa Ad Be Bf
  refine zj ?_
  refine z8 hs ?_
  refine wp_must (by omega) ?_
  refine wp_lt ?_
  exact ⟨rfl,rfl,hs⟩
theorem zqy (pre:ByteArray) (hp:pre.size<=100) [hf:FocB l p (.cells [c1,c2,.string pre,c3,c4,c5].toArray T.a36) r] (hs:Sat w l):Ret P F.a93 #[.pointer (some ⟨p,0,none⟩)] w λvs w'=>vs=[.string (ze8 pre)]/\Sat w' l :=
 zvf _ <| by
  delta z09x Aa Ad Be Bf
  refine zj ?_
  refine z8 hs ?_
  refine wp_must (by omega) ?_
  refine wp_lt ?_
  exact ⟨rfl,rfl,hs⟩
theorem z04w (n:ByteArray) (hno:∀ f ∈ D.fs,f.name≠n) [hf:Fo l dk d D r] (hs:Sat w l):Ret P F.a94 #[.pointer (some ⟨d,0,none⟩),.string n] w λvs w'=>vs=[.bool false]/\Sat w' (dk d D::r) :=
 zvg _ n <| by
  delta z09y A9 Ad Ai Al Ay
  refine zb (zh5 (d:=d) (A:=D) n hs) λ_ w' h=>?_
  rcases h with ⟨f,hf1,hf2,-⟩|⟨-,rfl,hs⟩
  ·exact absurd hf2 (hno f hf1)
  refine ⟨(⟨none,0,0⟩,3,()),rfl,trivial,z1v _ _ ?_⟩
  refine wp_lt ?_
  refine wp_lt ?_
  exact ⟨rfl,rfl,hs⟩
theorem zzq (pre:ByteArray) (most:Int) (hp:pre.size<=100) (hm:1<=most/\most<=4096) (hno:∀ f ∈ D.fs,f.name≠ze7 pre) (hs:Sat w (pt p (.cells #[c1,.pointer (some ⟨d,0,none⟩),.string pre,.int .i64 most,c2,c3] T.a36)::dk d D::r)) :
  Ret P F.a89 #[.pointer (some ⟨p,0,none⟩)] w λvs w'=>vs=[.int .i64 0]/\∃ t v:Nat,Sat w' (pt p (.cells #[c1,.pointer (some ⟨d,0,none⟩),.string pre,.int .i64 most,.pointer (some ⟨t,0,none⟩),.pointer (some ⟨v,0,none⟩)] T.a36)::tb t ⟨most,0,[]⟩::vw v ⟨0,[],[]⟩::dk d D::r) :=
 zvb _ <| by
  delta z09t A9 AC AD AN AQ Aa Ab Ac Ad Ae Ah Ai Aj Ak Al An Ao Ap Av Ay Bf Bh Bk Bv
  refine zj ?_
  refine z8 hs ?_
  refine zb (z07k most hs) λ_ w' h=>?_
  rcases h with ⟨-,-,t,rfl,hs⟩|⟨h,-⟩
  rotate_left
  ·omega
  refine ⟨(some ⟨t,0,none⟩,0,()),rfl,trivial,z1v _ _ ?_⟩
  refine zj ?_
  refine z02 hs λw' hs=>?_
  refine zb (z07n hs) λ_ w' hs=>?_
  obtain ⟨v,rfl,hs⟩:=hs
  refine zd ?_
  refine zj ?_
  refine z02 hs λw' hs=>?_
  refine zl (λq w'=>q=(⟨none,0,0⟩,())/\Sat w' (pt p (.cells #[c1,.pointer (some ⟨d,0,none⟩),.string pre,.int .i64 most,.pointer (some ⟨t,0,none⟩),.pointer (some ⟨v,0,none⟩)] T.a36)::tb t ⟨most,0,[]⟩::vw v ⟨0,[],[]⟩::dk d D::r)) ?_ ?_
  ·refine zv hs λw' hs=>?_
   refine zj ?_
   refine z14 hs ?_
   refine zb (z053 (p:=p) pre hp hs) λ_ w' hs=>?_
   obtain ⟨rfl,hs⟩:=hs
   refine zd ?_ (by first|trivial|(repeat (first|exact trivial|exact λ_=>z08 hs|exact λ_=>z0f hs|refine And.intro ?_ ?_)))
   refine ze ?_
   refine zb (zh5 (d:=d) (A:=D) (ze7 pre) hs) λ_ w' h=>?_
   rcases h with ⟨f,hf1,hf2,-⟩|⟨-,rfl,hs⟩
   ·exact absurd hf2 (hno f hf1)
   refine ⟨(⟨none,0,0⟩,3,()),rfl,trivial,z1v _ _ ?_⟩
   refine wp_lt ?_
   refine ze ?_
   refine zf ⟨rfl,?_⟩
   exact hs.sub
  clear hs
  rintro _ w ⟨rfl,hs⟩
  refine zk ?_
  have hs:Sat w (slc T.a58 1 ⟨none,0,0⟩ (([]:List UInt8).flatMap zi)::_):=hs.slc_nil
  refine zb (z046 ⟨none,0,0⟩ [] (Nat.le_refl _) (Nat.zero_le _) hs) λ_ w' hs=>?_
  obtain ⟨z,rfl,hs⟩:=hs
  have e:(zkk []).isSome=false:=by kernel_rfl
  rw [e]
  refine ⟨(z,false,()),rfl,trivial,z1v _ _ ?_⟩
  refine wp_lt ?_
  refine z0p ?_ (by simp)
  exact ⟨rfl,rfl,t,v,hs.tail.tail⟩
theorem zym {fs:List FileA} {n:ByteArray} (hno:∀ f ∈ fs,f.name≠n):(z9n fs n).1=0:=by rw [z9n,zd7 hno]
set_option maxHeartbeats 1000000 in
theorem zzr (pre:ByteArray) (seg gap most:Int) (hp:z5n pre=true) (hc:zkj seg gap) (hm:1<=most/\most<=1024) (hg:D.gone=false) (S:List SegA) (D':DiskA) (ho:z73 pre D=(0,S,D')) (hno:∀ f ∈ D'.fs,f.name≠ze7 pre/\f.name≠ze8 pre)
  (hok:z0s 0 S) (hhas:zkv pre S D') (hlen:S.length<=1000000) (hall:(z0d S).length<=1000000) [hf:Fo l dk d D r] (hs:Sat w l) :
  Ret P F.a80 #[.pointer (some ⟨d,0,none⟩),.string pre,.agg #[.int .i64 seg,.int .i64 gap,.int .i64 most]] w λvs w'=>∃ p:Nat,vs=[.pointer (some ⟨p,0,none⟩),.int .i64 0]/\Sat w' (paP p (z41 ⟨d,pre,seg,gap,S⟩ most)::dk d D'::r) :=
 zv3 _ pre seg gap most <| by
  delta z09l A8 AC AD AI AJ AK AL AM AR AX Ab Ac Ad Ag Ai Ak Al Am Ao Aq Ar As Av Aw Az Bc Bq Bv
  have hs:=hs.perm hf.perm
  clear hf
  have hps:pre.size<=100:=by
   unfold z5n at hp
   rw [Bool.and_eq_true,decide_eq_true_eq] at hp
   omega
  refine zq hs λa0 w' hs=>?_
  refine z8 hs ?_
  refine z8 hs ?_
  refine zu ?_ (by simp;omega)
  refine zae hs (seg,gap,()) ?_
  refine zb (z04n (d:=d) (D:=D) pre seg gap hp hc hg hs) λ_ w' hs=>?_
  rw [ho] at hs
  rcases hs with ⟨he,-,-⟩|⟨-,lg,rfl,hs⟩
  ·exact absurd rfl he
  refine ⟨(some ⟨lg,0,none⟩,0,()),rfl,trivial,z1v _ _ ?_⟩
  refine wp_lt ?_
  refine zu ?_ (by simp)
  refine z8 hs ?_
  refine zq hs λa10 w' hs=>?_
  have hs:Sat w' (pt a10 (.cells #[.pointer (some ⟨lg,0,none⟩),.pointer (some ⟨d,0,none⟩),.string pre,.int .i64 most,.pointer none,.pointer none] T.a36)::dk d D'::lgP lg ⟨d,pre,seg,gap,S⟩::r):=hs.sub
  refine zl (λq w'=>q=(false,())/\Sat w' (pt a10 (.cells #[.pointer (some ⟨lg,0,none⟩),.pointer (some ⟨d,0,none⟩),.string pre,.int .i64 most,.pointer none,.pointer none] T.a36)::dk d D'::lgP lg ⟨d,pre,seg,gap,S⟩::r)) ?_ ?_
  ·refine zb (zqy (p:=a10) pre hps hs) λ_ w' hs=>?_
   obtain ⟨rfl,hs⟩:=hs
   refine zd ?_
   refine zb (z07f (d:=d) (A:=D') (ze8 pre) hs) λ_ w' hs=>?_
   obtain ⟨rfl,hs⟩:=hs
   refine zd ?_
   rw [zym λf hf=>(hno f hf).2]
   refine zu ?_ (by simp)
   refine zb (zqy (p:=a10) pre hps hs) λ_ w' hs=>?_
   obtain ⟨rfl,hs⟩:=hs
   refine zd ?_
   refine zb (z04w (d:=d) (D:=D') (ze8 pre) (λf hf=>(hno f hf).2) hs) λ_ w' hs=>?_
   obtain ⟨rfl,hs⟩:=hs
   refine zd ?_
   exact zf ⟨rfl,hs.sub⟩
  clear hs
  rintro _ w ⟨rfl,hs⟩
  refine zk ?_
  refine zl (λq w'=>Sat w' (pt a10 (.cells #[.pointer (some ⟨lg,0,none⟩),.pointer (some ⟨d,0,none⟩),.string pre,.int .i64 most,.pointer none,.pointer none] T.a36)::dk d D'::lgP lg ⟨d,pre,seg,gap,S⟩::r)) ?_ ?_
  ·refine zu ?_ (by simp)
   exact zf hs
  clear hs
  rintro _ w hs
  refine zk ?_
  refine zb (zzq (p:=a10) (d:=d) (D:=D') pre most hps (by omega) (λf hf=>(hno f hf).1) hs) λ_ w' hs=>?_
  obtain ⟨rfl,t,v,hs⟩:=hs
  refine zd ?_
  refine wp_lt ?_
  refine zb (zwh (lg:=lg) (A:=⟨d,pre,seg,gap,S⟩) (D:=D') hok hhas hlen hall hs) λ_ w' hs=>?_
  obtain ⟨y,outs,rfl,hmap,hs⟩:=hs
  refine zd ?_
  have hmap:outs.map BatM.p=z0d S:=hmap
  have hs:Sat w' (paP a10 (z79 ⟨d,pre,seg,gap,S⟩ most)::slc T.a0 7 y (outs.flatMap zp)::z0i outs::dk d D'::r):=by
   have hs:Sat w' (slc T.a0 7 y (outs.flatMap zp)::z0i outs::lgP lg (z79 ⟨d,pre,seg,gap,S⟩ most).L::dk d D'::pt a10 (.cells #[.pointer (some ⟨lg,0,none⟩),.pointer (some ⟨(z79 ⟨d,pre,seg,gap,S⟩ most).L.d,0,none⟩),.string (z79 ⟨d,pre,seg,gap,S⟩ most).L.pre,.int .i64 (z79 ⟨d,pre,seg,gap,S⟩ most).most,.pointer (some ⟨t,0,none⟩),.pointer (some ⟨v,0,none⟩)] T.a36)::tb t (z79 ⟨d,pre,seg,gap,S⟩ most).T::vw v (z79 ⟨d,pre,seg,gap,S⟩ most).V::r):=hs
   exact z2b (lg:=lg) (t:=t) (v:=v) (z79 ⟨d,pre,seg,gap,S⟩ most) hs
  have hlo:=congrArg List.length hmap
  rw [List.length_map] at hlo
  have hly:=hs.slen y (xs:=outs) (enc:=zp)
  have hov:∀ b ∈ outs,0<=b.base:=λb hb=>by
   have h1:b.p ∈ z0d S:=by rw [<- hmap];exact List.mem_map.2 ⟨b,hb,rfl⟩
   have hv:z07 b=0:=((z7i (Int.le_refl 0) hok).valid _ h1).1
   exact (z16 b hv).2.2.1.2.1.1
  have hop:z41 ⟨d,pre,seg,gap,S⟩ most=outs.foldl z57 (z79 ⟨d,pre,seg,gap,S⟩ most):=by
   unfold z41
   show (z0d S).foldl z57 _=_
   rw [<- hmap,zrd]
  rw [hop]
  generalize z79 ⟨d,pre,seg,gap,S⟩ most=A0 at *
  refine zl (λq w'=>Sat w' (paP a10 (outs.foldl z57 A0)::dk d D'::r)) ?_ ?_
  rotate_left
  ·rintro _ w2 hs
   refine zk ?_
   exact ⟨rfl,a10,rfl,hs⟩
  refine z03 (λm q w=>∃ i:Nat,q=((i:Int),())/\i<=outs.length/\outs.length-i=m/\Sat w (paP a10 ((outs.take i).foldl z57 A0)::slc T.a0 7 y (outs.flatMap zp)::z0i outs::dk d D'::r)) outs.length ⟨0,rfl,by omega,rfl,hs⟩ ?_
  clear hs
  rintro m _ w ⟨i,rfl,hi,hm2,hs⟩
  refine zk ?_
  refine zh (λhc2=>?_) λhc2=>?_
  rotate_left
  ·rw [List.take_of_length_le (by omega)] at hs
   refine zo (zf ?_)
   exact hs.sub
  have hil:i<outs.length:=by omega
  have hb0:=hov _ (List.getElem_mem hil)
  have hbr:FocR (z0i outs::dk d D'::r) outs[i].x 4 (outs[i].rs.flatMap z01):=zdx (List.getElem_mem hil)
  have htk:outs.take (i+1)=outs.take i++[outs[i]]:=by rw [List.take_add_one,List.getElem?_eq_getElem hil,Option.toList_some]
  refine z1s hs i hil ?_
  refine zn hs λa33 w' hs=>?_
  refine zm hs λw' hs=>?_
  refine z8 hs ?_
  refine zl (λq w'=>Sat w' (paP a10 ((outs.take (i+1)).foldl z57 A0)::slc T.a0 7 y (outs.flatMap zp)::z0i outs::dk d D'::r)) ?_ ?_
  ·refine z0p ?_ (by simpa using hb0)
   refine zg hs ?_
   refine zb (zr0 (p:=a10) (A:=(outs.take i).foldl z57 A0) outs[i] hs) λ_ w' hs=>?_
   obtain ⟨rfl,hs⟩:=hs
   refine zd ?_
   refine zf ?_
   rw [htk,List.foldl_append,List.foldl_cons,List.foldl_nil]
   exact hs.sub
  clear hs
  rintro _ w hs
  refine zk ?_
  refine z1k (us':=[.int .i64 ((i+1:Nat):Int)]) (by (try simp (disch:=omega) only [w64]);first|rfl|(congr;omega)) ?_
  exact z0l (outs.length-(i+1)) ⟨i+1,rfl,by omega,rfl,hs⟩
end
theorem zsw (A:PartA) (D:DiskA) (b:BatM):(z09 A D b).2.1.L.d=A.L.d/\(z09 A D b).2.1.L.pre=A.L.pre/\(z09 A D b).2.1.L.seg=A.L.seg/\(z09 A D b).2.1.L.gap=A.L.gap/\(z09 A D b).2.1.most=A.most:=by
 unfold z09
 split
 ·exact ⟨rfl,rfl,rfl,rfl,rfl⟩
 unfold zl0
 split
 ·exact ⟨rfl,rfl,rfl,rfl,rfl⟩
 split
 ·exact ⟨rfl,rfl,rfl,rfl,rfl⟩
 ·exact ⟨rfl,rfl,rfl,rfl,rfl⟩
theorem zid {A:PartA} {D:DiskA} (b:BatM) (hp:z5n A.L.pre=true) (h:Cpl A.L.pre A.L.l D):Cpl A.L.pre (z09 A D b).2.1.L.l (z09 A D b).2.2:=by
 unfold z09
 split
 ·exact h
 have h1:=(zlx A.L.seg [b.to (zy A.L.l)] hp h).1
 unfold zl0
 split
 ·exact h1
 split
 ·exact (zap h1).1
 ·exact (zap h1).1
section
variable {w:World} {l r:List HP} {p d:Nat} {A:PartA} {D:DiskA}
theorem z074 (b:BatM) {r1:List HP} [hf:Fo l paP p A r1] [hf2:Fo r1 dk A.L.d D r] (hb:FocR r b.x 4 (b.rs.flatMap z01)) (h:Cpl A.L.pre A.L.l D) (hr:b.rs.length<=1000000) (hm:z04 b=false) (hs:Sat w l) :
  Ret P F.a81 #[.pointer (some ⟨p,0,none⟩),.agg (zp b).toArray] w λvs w'=>vs=[.int .i64 (z09 A D b).1.1,.bool (z09 A D b).1.2.1,.int .i64 (z09 A D b).1.2.2]/\Sat w' (paP p (z09 A D b).2.1::dk A.L.d (z09 A D b).2.2::r):=by
 obtain ⟨h1,h2,h3⟩:=h.len
 exact zx1 b hb (by omega) h.segs (λs hs=>by have:=h3 s hs;omega) hr hm hs
theorem z04z (pid epoch:Int) (commit:Bool) (time:Int) {r1:List HP} [hf:Fo l paP p A r1] [hf2:Fo r1 dk A.L.d D r] (h:Cpl A.L.pre A.L.l D) (hs:Sat w l) :
  Ret P F.a84 #[.pointer (some ⟨p,0,none⟩),.int .i64 pid,.int .i64 epoch,.bool commit,.int .i64 time] w λvs w'=>vs=[.int .i64 (z09 A D (z1h pid epoch commit time ⟨none,0,0⟩)).1.1,.bool (z09 A D (z1h pid epoch commit time ⟨none,0,0⟩)).1.2.1,.int .i64 (z09 A D (z1h pid epoch commit time ⟨none,0,0⟩)).1.2.2]/\Sat w' (paP p (z09 A D (z1h pid epoch commit time ⟨none,0,0⟩)).2.1::dk A.L.d (z09 A D (z1h pid epoch commit time ⟨none,0,0⟩)).2.2::r):=by
 obtain ⟨h1,h2,h3⟩:=h.len
 exact z04v pid epoch commit time (by omega) h.segs (λs hs=>by have:=h3 s hs;omega) hs
theorem zzv (hst:z9w A) (off most:Int) (c:Bool) (ho : -9223372036854775808<=off/\off<9223372036854775808) (hmo:most<9223372036854775808) {r1:List HP} [hf:Fo l paP p A r1] [hf2:Fo r1 dk A.L.d D r] (h:Cpl A.L.pre A.L.l D) (hs:Sat w l) :
  Ret P F.a86 #[.pointer (some ⟨p,0,none⟩),.int .i64 off,.int .i64 most,.bool c] w λvs w'=>∃ z:Sl,vs=[z.v,.int .i64 (z17 A off most c).1.2,.int .i64 (z17 A off most c).2]/\Sat w' (slc T.a37 5 z ((z17 A off most c).1.1.flatMap zr)::paP p A::dk A.L.d D::r):=by
 obtain ⟨h1,h2,h3⟩:=h.len
 exact z052 hst off most c ho hmo h.segs h.has (by omega) (by omega) hs
theorem z050 (pre:ByteArray) (seg gap most:Int) (hp:z5n pre=true) (hc:zkj seg gap) (hm:1<=most/\most<=1024) (hg:D.gone=false) {S:List SegA} (h:Cpl pre S D) (hno:∀ f ∈ D.fs,f.name≠ze7 pre/\f.name≠ze8 pre) [hf:Fo l dk d D r] (hs:Sat w l) :
  Ret P F.a80 #[.pointer (some ⟨d,0,none⟩),.string pre,.agg #[.int .i64 seg,.int .i64 gap,.int .i64 most]] w λvs w'=>∃ p:Nat,vs=[.pointer (some ⟨p,0,none⟩),.int .i64 0]/\Sat w' (paP p (z41 ⟨d,pre,seg,gap,S⟩ most)::dk d D::r):=by
 obtain ⟨h1,h2,h3⟩:=h.len
 exact zzr pre seg gap most hp hc hm hg S D h.opened hno h.segs h.has (by omega) (by omega) hs
end
def kR:List RecM:=[⟨ByteArray.mk #[107],ByteArray.mk #[],false,0⟩]
def kB (x:Sl):BatM:=⟨0,3,0,0,1,0,x,kR⟩
def kA (d:Nat):PartA:=z79 ⟨d,aP,100,9,[]⟩ 4
def kD:DiskA:=⟨10000,-1,false,[]⟩
theorem k1 (d:Nat) (x:Sl):(z09 (kA d) kD (kB x)).1=(0,false,0):=by kernel_rfl
section
variable {d:Nat} {x:Sl} {S U:PartA × DiskA}
theorem k2 (h:S=(z09 (kA d) kD (kB x)).2):z09 S.1 S.2 (kB x)=((0,true,0),S):=by subst h;kernel_rfl
theorem k3 (h:S=(z09 (kA d) kD (kB x)).2):z17 S.1 0 9 true=(([],0),0):=by subst h;kernel_rfl
end
section
variable {w:World} {l r:List HP} {p d a:Nat} {A:PartA} {D:DiskA} {R:RefM}
theorem zh3 {r1:List HP} [hf:Fo l paP p A r1] [hf2:Fo r1 dk A.L.d D r] (h:Cpl A.L.pre A.L.l D) (hs:Sat w l) :
  Ret P F.a82 #[.pointer (some ⟨p,0,none⟩)] w λvs w'=>∃ (z:Sl) (outs:List BatM),vs=[z.v]/\outs.map BatM.p=z0d A.L.l/\Sat w' (slc T.a0 7 z (outs.flatMap zp)::z0i outs::paP p A::dk A.L.d D::r) :=
 zv5 _ <| by
  delta z09n AH Aa Ac Ad Al Aq
  obtain ⟨h1,h2,h3⟩:=h.len
  obtain ⟨lg,t,v,hs⟩:=z4k (hs.perm (hf.perm.trans (.cons _ hf2.perm)))
  refine zu ?_ (by simp)
  refine zj ?_
  refine z8 hs ?_
  refine zb (zwh (lg:=lg) (A:=A.L) (D:=D) h.segs h.has (by omega) (by omega) hs) λ_ w' hs=>?_
  obtain ⟨z,outs,rfl,hm,hs⟩:=hs
  refine zd ?_
  have hs:Sat w' (paP p A::slc T.a0 7 z (outs.flatMap zp)::z0i outs::dk A.L.d D::r):=z2b (lg:=lg) (t:=t) (v:=v) A hs
  exact ⟨rfl,z,outs,rfl,hm,hs.pick [1,1]⟩
end
structure TbC where
 next:Int
 l:List AtM
def z0e (l:List AtM) (k:ByteArray):Nat:=(l.filter λa=>ltS a.r.key k).length
def z3k (l:List AtM) (k:ByteArray):Bool:=(l[z0e l k]?).any λa=>decide (a.r.key=k)
def z2i (T:TbC) (r:AtM):TbC:=⟨r.off+1,if z3k T.l r.r.key=true then (if r.r.gone=true then T.l.take (z0e T.l r.r.key)++T.l.drop (z0e T.l r.r.key+1) else T.l.set (z0e T.l r.r.key) r) else if r.r.gone=true then T.l else T.l.take (z0e T.l r.r.key)++r::T.l.drop (z0e T.l r.r.key)⟩
def z29:Int->List AtM->Bool
 | _,[]=>true
 | f,a::l=>if a.off<f then false else z29 (a.off+1) l
def z60 (l:List AtM):Prop:=l.Pairwise λa b=>ltS a.r.key b.r.key=true
def ze1 (xs:List AtM):Bool:=xs.getLast?.any λa=>decide (a.off>1099511627776)
def z72 (T:TbC) (xs:List AtM):Int × TbC:=if z29 T.next xs=false\/ze1 xs=true then (8,T) else (0,xs.foldl z2i T)
def z0u (l:List AtM) (k:ByteArray):Option AtM:=if z3k l k=true then l[z0e l k]? else none
theorem zq7 (l:List AtM) (k:ByteArray):z0e l k<=l.length:=List.length_filter_le ..
theorem zyo {l:List AtM} {k:ByteArray} {i:Nat} (hs:z60 l) (hi:i<=l.length) (h1:∀ (h:i-1<l.length),0<i->ltS l[i-1].r.key k=true) (h2:∀ h:i<l.length,ltS l[i].r.key k=false):z0e l k=i:=by
 unfold z0e
 rw [zha (p:=λa=>ltS a.r.key k) hi (hs.imp λ{a b} hab hb=>z7m hab hb) h1 h2,List.length_take]
 omega
theorem z7w:∀ {l:List AtM} {k:ByteArray},z60 l->(∀ a ∈ l.take (z0e l k),ltS a.r.key k=true)/\∀ a ∈ l.drop (z0e l k),ltS a.r.key k=false
 | [],k,_=>⟨λa h=>by simp at h,λa h=>by simp at h⟩
 | a::l,k,hs=>by
  obtain ⟨h1,h2⟩:=List.pairwise_cons.1 hs
  obtain ⟨i1,i2⟩:=z7w (l:=l) (k:=k) h2
  by_cases h:ltS a.r.key k=true
  ·have e:z0e (a::l) k=z0e l k+1:=by unfold z0e;rw [List.filter_cons_of_pos (by simpa using h),List.length_cons]
   rw [e,List.take_succ_cons,List.drop_succ_cons]
   refine ⟨λb hb=>?_,i2⟩
   rcases List.mem_cons.1 hb with rfl|hb
   ·exact h
   ·exact i1 b hb
  ·have h0:∀ b ∈ a::l,ltS b.r.key k=false:=λb hb=>by
    rcases List.mem_cons.1 hb with rfl|hb
    ·simpa using h
    ·cases hk:ltS b.r.key k with
     | false=>rfl
     | true=>exact absurd (z7m (h1 b hb) hk) h
   have e:z0e (a::l) k=0:=by
    unfold z0e
    rw [List.filter_eq_nil_iff.2 λb hb=>by simp [h0 b hb]];rfl
   rw [e]
   exact ⟨λb hb=>by simp at hb,λb hb=>h0 b (by simpa using hb)⟩
theorem z6k {l:List AtM} {k:ByteArray}:z3k l k=true↔∃ h:z0e l k<l.length,l[z0e l k].r.key=k:=by
 unfold z3k
 by_cases h:z0e l k<l.length
 ·rw [List.getElem?_eq_getElem h];simp [h]
 ·rw [List.getElem?_eq_none (by omega)];simp [h]
theorem zq6 {l:List AtM} {k:ByteArray} (hs:z60 l) (ht:z3k l k=false):∀ a ∈ l.drop (z0e l k),ltS k a.r.key=true:=λa ha=>by
 have h1:=(z7w (k:=k) hs).2
 have hd:(l.drop (z0e l k)).Pairwise λa b=>ltS a.r.key b.r.key=true:=hs.sublist (List.drop_sublist ..)
 have hnt:¬ ∃ h:z0e l k<l.length,l[z0e l k].r.key=k:=λh=>by rw [z6k.2 h] at ht;cases ht
 by_cases hl:z0e l k<l.length
 ·rw [List.drop_eq_getElem_cons hl] at ha hd h1
  have h0:ltS k l[z0e l k].r.key=true:=by
   rcases zjg k l[z0e l k].r.key with h|h|h
   ·exact h
   ·exact absurd ⟨hl,h.symm⟩ hnt
   ·rw [h1 _ (List.mem_cons_self ..)] at h;cases h
  rcases List.mem_cons.1 ha with rfl|ha
  ·exact h0
  ·exact z7m h0 ((List.pairwise_cons.1 hd).1 a ha)
 ·rw [List.drop_eq_nil_of_le (by omega)] at ha;cases ha
theorem zg0 {T:TbC} (r:AtM) (hs:z60 T.l):z60 (z2i T r).l:=by
 unfold z2i
 split
 ·rename_i ht
  obtain ⟨hi,hk⟩:=z6k.1 ht
  split
  ·rw [<- List.eraseIdx_eq_take_drop_succ]
   exact hs.sublist (List.eraseIdx_sublist ..)
  ·have e:(T.l.set (z0e T.l r.r.key) r).map (λa=>a.r.key)=T.l.map λa=>a.r.key:=by
    rw [List.map_set]
    apply List.ext_getElem (by simp)
    intro j h1 h2
    rw [List.getElem_set]
    split
    ·rename_i e;subst e;simp [hk]
    ·rfl
   have h1:(T.l.map λa=>a.r.key).Pairwise λa b=>ltS a b=true:=by rw [List.pairwise_map];exact hs
   rw [<- e,List.pairwise_map] at h1
   exact h1
 ·rename_i ht
  have ht:z3k T.l r.r.key=false:=by simpa using ht
  split
  ·exact hs
  ·have hg:=zq6 hs ht
   obtain ⟨h1,-⟩:=z7w (k:=r.r.key) hs
   refine List.pairwise_append.2 ⟨hs.sublist (List.take_sublist ..),List.pairwise_cons.2 ⟨hg,hs.sublist (List.drop_sublist ..)⟩,λa ha b hb=>?_⟩
   rcases List.mem_cons.1 hb with rfl|hb
   ·exact h1 a ha
   ·exact z7m (h1 a ha) (hg b hb)
theorem zr8 (T:TbC) (r:AtM):(z2i T r).l.length<=T.l.length+1:=by
 unfold z2i
 have:=zq7 T.l r.r.key
 split
 ·split
  ·simp only [List.length_append,List.length_take,List.length_drop];omega
  ·simp
 ·split
  ·exact Nat.le_succ _
  ·simp only [List.length_append,List.length_cons,List.length_take,List.length_drop];omega
theorem zg1:∀ (xs:List AtM) (T:TbC),(xs.foldl z2i T).l.length<=T.l.length+xs.length
 | [],T=>Nat.le_refl _
 | x::xs,T=>by
  have h1:=zg1 xs (z2i T x)
  have h2:=zr8 T x
  rw [List.foldl_cons,List.length_cons];omega
section
variable {P:Program} {w:World} {l r:List HP} {Q:Post} {S:World->Prop} {T:TypeId} {sz:Nat} {x y:Sl} {cs ds:List Value}
theorem zbl {b off:Nat} (hs:Sat w (slc T sz x cs::l)) (ha:x.a=some ⟨b,off,none⟩):∃ arr fr,w.heap[b]? = some (.cells arr T fr)/\cs.length=x.len*sz/\x.len<=x.cap/\off+x.cap*sz<=arr.size/\∀ i,i<cs.length->arr[off+i]? = cs[i]? := by
 obtain ⟨p1,p2,q1,q2,hd,hA,hl⟩:=hs
 rcases hA with ⟨ha',_,_,_⟩|⟨b',off',arr,fr,ha',hb,hlen,hle,hsz,hcs,hf⟩
 ·rw [ha] at ha';cases ha'
 ·rw [ha] at ha'
  obtain ⟨rfl,rfl⟩:b=b'/\off=off':=by cases ha';exact ⟨rfl,rfl⟩
  exact ⟨arr,fr,q1 b _ hb,hlen,hle,hsz,hcs⟩
theorem z00d (hs:Sat w (slc T sz x cs::l)) (h:x.len≠0):∃ b off,x.a=some ⟨b,off,none⟩:=by
 obtain ⟨p1,p2,q1,q2,hd,hA,hl⟩:=hs
 rcases hA with ⟨_,h0,_,_⟩|⟨b,off,arr,fr,ha,_⟩
 ·exact absurd h0 h
 ·exact ⟨b,off,ha⟩
theorem z07g {b off c:Nat} {o:Obj} (hs:Sat w (slc T sz x cs::pt c o::l)) (ha:x.a=some ⟨b,off,none⟩):b≠c:=by
 obtain ⟨p1,p2,q1,q2,hd,hA,hl⟩:=hs
 rcases hA with ⟨ha',_,_,_⟩|⟨b',off',arr,fr,ha',hb,hlen,hle,hsz,hcs,hf⟩
 ·rw [ha] at ha';cases ha'
 ·rw [ha] at ha'
  obtain ⟨rfl,rfl⟩:b=b'/\off=off':=by cases ha';exact ⟨rfl,rfl⟩
  obtain ⟨p3,p4,q3,q4,hd2,hB,hl2⟩:=hl
  intro e
  subst e
  have h2:p2 b=some o:=q3 b _ hB
  rcases hd b with h|h
  ·rw [hb] at h;cases h
  ·rw [h2] at h;cases h
theorem Sat.slc_ext {b off n:Nat} (hs:Sat w (slc T sz x cs::l)) (ha:x.a=some ⟨b,off,none⟩) (h1:x.len<=n) (h2:n<=x.cap):∃ t:List Value,t.length=(n-x.len)*sz/\Sat w (slc T sz ⟨x.a,n,x.cap⟩ (cs++t)::l):=by
 obtain ⟨p1,p2,q1,q2,hd,hA,hl⟩:=hs
 rcases hA with ⟨ha',_,_,_⟩|⟨b',off',arr,fr,ha',hb,hlen,hle,hsz,hcs,hf⟩
 ·rw [ha] at ha';cases ha'
 rw [ha] at ha'
 obtain ⟨rfl,rfl⟩:b=b'/\off=off':=by cases ha';exact ⟨rfl,rfl⟩
 have hset:Sat w (pt b (.cells arr T fr)::l):=⟨p1,p2,q1,q2,hd,hb,hl⟩
 have hns:n*sz<=x.cap*sz:=Nat.mul_le_mul_right _ h2
 have hxs:x.len*sz<=n*sz:=Nat.mul_le_mul_right _ h1
 have hsub:(n-x.len)*sz=n*sz-x.len*sz:=Nat.sub_mul ..
 have hasz:arr.toList.length=arr.size:=by simp
 have htl:((arr.toList.drop (off+cs.length)).take ((n-x.len)*sz)).length=(n-x.len)*sz:=by
  rw [List.length_take,List.length_drop,hasz];omega
 refine ⟨(arr.toList.drop (off+cs.length)).take ((n-x.len)*sz),htl,?_⟩
 refine hset.imp λp hp=>.inr ⟨b,off,arr,fr,ha,hp,?_,h2,hsz,λi hi=>?_,hf⟩
 ·rw [List.length_append,htl,hlen];show _=n*sz;omega
 ·rw [List.length_append,htl] at hi
  by_cases hic:i<cs.length
  ·rw [hcs i hic,List.getElem?_append_left hic]
  ·rw [List.getElem?_append_right (by omega),List.getElem?_take,if_pos (by omega),List.getElem?_drop,Array.getElem?_toList]
   congr 1;omega
theorem ze4 {t t' ty:TypeId} {i:TypeInfo} (ht:P.underlying t=some (.slice T)) (hi:P.info? T=some i) (hsz:i.size=sz) (hs:Sat w (slc T sz x cs::l)) {b off o n dl dc sl sc:Nat} {sa:Option Addr} (ha:x.a=some ⟨b,off,none⟩)
  (hn:n=min sl dl) (hsrc:(Builtin.firstCells sz n (.slice sa sl sc)).run P w=.ok ds.toArray w) (h1:∀ v ∈ ds,v.oneCell'=true) (ho:o+ds.length<=cs.length) :
  ∃ w',(Builtin.copy_ #[t,t'] ty #[.slice (some ⟨b,off+o,none⟩) dl dc,.slice sa sl sc]).run P w=.ok (.int .i64 n) w'/\Sat w' (slc T sz x (cs.take o++ds++cs.drop (o+ds.length))::l):=by
 obtain ⟨arr,fr,hb,hlen,hle,hcap,hcs⟩:=zbl hs ha
 have hle':x.len*sz<=x.cap*sz:=Nat.mul_le_mul_right _ hle
 obtain ⟨w',hrun,-,h2⟩:=zjz (P:=P) (o:=o) (vs:=ds) hs ha (by omega) h1
 refine ⟨w',?_,h2 ho⟩
 subst hn hsz
 have hm:Nat.min sl dl=min sl dl:=rfl
 simp [Builtin.copy_,run_underlying ht,Builtin.lenOf,sizeOf,typeInfo,hi,hm,hsrc,hrun,goInt]
theorem zy8 {t tn ty:TypeId} {i:TypeInfo} {z:Value} (ht:P.underlying t=some (.slice T)) (htn:P.underlying tn=some (.int .i64)) (hi:P.info? T=some i) (hz:i.zero=some z) (hzs:z.cells.size=i.size) (hpos:0<i.size)
  (hs:Sat w (slc T i.size x cs::l)) {n k:Nat} (hn:n<=x.len) (h0:0<k) (hg:x.cap<n+k) (hb:(n+k)*i.bytes<=140737488355328) (h63:n+k<=9223372036854775807) :
  ∃ (c a:Nat) (zs:List Value) (w':World),(app t tn ty (.slice x.a n x.cap) (.int .i64 k)).run P w=.ok (.slice (some ⟨a,0,none⟩) (n+k) c) w'/\n+k<=c/\zs.length=k*i.size /\
   Sat w' (slc T i.size ⟨some ⟨a,0,none⟩,n+k,c⟩ (cs.take (n*i.size)++zs)::slc T i.size x cs::l):=by
 have hlen:=hs.rd.1
 have hnl:n*i.size<=x.len*i.size:=Nat.mul_le_mul_right _ hn
 have hold:(Builtin.firstCells i.size n (.slice x.a n x.cap)).run P w.drew=.ok (cs.take (n*i.size)).toArray w.drew:=by
  cases ha:x.a with
  | none =>
   obtain ⟨p1,p2,q1,q2,hd,hA,hl⟩:=hs
   rcases hA with ⟨_,hl0,_,rfl⟩|⟨b,off,arr,fr,ha',_⟩
   ·simp [Builtin.firstCells]
   ·rw [ha] at ha';cases ha'
  | some a =>
   have hn1:∃ b off,x.a=some ⟨b,off,none⟩:=by
    obtain ⟨p1,p2,q1,q2,hd,hA,hl⟩:=hs
    rcases hA with ⟨ha',_⟩|⟨b,off,arr,fr,ha',_⟩
    ·rw [ha] at ha';cases ha'
    ·exact ⟨b,off,ha'⟩
   obtain ⟨b,off,hab⟩:=hn1
   rw [ha] at hab
   obtain rfl:=Option.some.inj hab
   obtain ⟨arr,fr,hbk,hlen,hle,hcap,hcs⟩:=zbl hs ha
   refine run_firstCells_some (P:=P) w.drew i.size n ⟨b,off,none⟩ n x.cap _ (by rw [List.length_take];omega) (λj u hj=>?_)
   have hj2:j<(cs.take (n*i.size)).length:=(List.getElem?_eq_some_iff.1 hj).1
   rw [List.length_take] at hj2
   rw [List.getElem?_take,if_pos (by omega)] at hj
   have hbk':w.drew.heap[b]? = some (.cells arr T fr):=hbk
   rw [z2a,z37 hbk',hcs j (by omega),hj]
 have hrun:=Lib.run_append_grow_zeros (P:=P) w t tn ty T i z .i64 .i64 ht htn hi hz x.a n x.cap _ hold k h0 hpos hg (by omega) (Nat.le_trans (Nat.mul_le_mul_right _ (Nat.le_add_left k n)) (by omega)) (growslice_fits (by omega) hb)
 have hge:=grownCap_ge w (n+k) x.cap T
 have hzl:(Builtin.zeroCells z.cells k).toList.length=k*i.size:=by rw [Array.length_toList,size_zeroCells,hzs]
 refine ⟨_,w.heap.size,(Builtin.zeroCells z.cells k).toList,_,hrun,hge,hzl,?_⟩
 have hp:=hs.push (w':=w.drew.alloc (.cells ((cs.take (n*i.size)).toArray++Builtin.zeroCells z.cells k++Builtin.zeroCells z.cells (grownCap w (n+k) x.cap T-(n+k))) T)) (o:=.cells ((cs.take (n*i.size)).toArray++Builtin.zeroCells z.cells k++Builtin.zeroCells z.cells (grownCap w (n+k) x.cap T-(n+k))) T) rfl
 have htl:(cs.take (n*i.size)).length=n*i.size:=by rw [List.length_take];omega
 refine hp.imp λp hp=>.inr ⟨w.heap.size,0,_,(0,0),rfl,hp,?_,hge,?_,λj hj=>?_,z2p _ _⟩
 ·rw [List.length_append,hzl,htl,<- Nat.add_mul]
 ·simp only [Array.size_append,List.size_toArray,size_zeroCells,hzs,htl,Nat.zero_add]
  rw [<- Nat.add_mul,<- Nat.add_mul]
  exact Nat.mul_le_mul_right _ (by omega)
 ·rw [Nat.zero_add]
  rw [List.length_append,hzl,htl] at hj
  rw [Array.getElem?_append_left (by simp only [Array.size_append,List.size_toArray,size_zeroCells,hzs,htl];omega)]
  by_cases hj1:j<n*i.size
  ·rw [Array.getElem?_append_left (by simp only [List.size_toArray,htl];exact hj1),List.getElem?_append_left (by rw [htl];exact hj1)]
   simp
  ·rw [Array.getElem?_append_right (by simp only [List.size_toArray,htl];omega),List.getElem?_append_right (by rw [htl];omega),Array.getElem?_toList]
   simp only [List.size_toArray]
theorem z07s {t:TypeId} {n:Nat} {ps:Array (Nat × Value)} {el:TypeId} {cells:Array Value} {k:Sl->Prog} (hs:Sat w l)
  (h:∀ b w',Sat w' (pt b (.cells cells el)::l)->S w'/\(k ⟨some ⟨b,0,none⟩,n,n⟩).wp P S w' Q) (hc:z47 P t n ps=some (el,cells):=by kernel_rfl):(Prog.act (Instr.buildSlice t n ps) sL (u1 k)).wp P S w Q:=by
 have h':=h _ _ (hs.push (o:=.cells cells el) (w':=w.alloc (.cells cells el)) rfl)
 exact ⟨(⟨some ⟨w.heap.size,0,none⟩,n,n⟩,()),_,zh8 hc,h'.1,h'.2⟩
end
instance:EncF zr 0 (.int .i64) (λa=>a.off):=⟨λ_=>rfl⟩
instance:EncF zr 1 .str (λa=>a.r.key):=⟨λ_=>rfl⟩
def tbC (t:Nat) (C:TbC):HP:=HP.ex λz:Sl=>HP.and (z60 C.l/\C.l.length<=1000000000) (HP.star (pt t (.cells #[.int .i64 C.next,.slice z.a z.len z.cap] T.a4)) (slc T.a37 5 z (C.l.flatMap zr)))
def orC (o:Option AtM):AtM:=o.getD ⟨0,⟨ByteArray.mk #[],ByteArray.mk #[],false,0⟩⟩
theorem add_zero (a:Addr):Addr.add a 0=a:=rfl
section
variable {w:World} {l r r1 r2:List HP} {t:Nat} {C:TbC} {z:Sl}
theorem z8o (hs:Sat w (tbC t C::l)):∃ z:Sl,(z60 C.l/\C.l.length<=1000000000)/\Sat w (pt t (.cells #[.int .i64 C.next,.slice z.a z.len z.cap] T.a4)::slc T.a37 5 z (C.l.flatMap zr)::l):=by
 obtain ⟨z,hs⟩:=hs.ex
 obtain ⟨h,hs⟩:=hs.and
 exact ⟨z,h,hs.star⟩
theorem z5f (C:TbC) {z:Sl} (h:z60 C.l/\C.l.length<=1000000000) (hs:Sat w (pt t (.cells #[.int .i64 C.next,.slice z.a z.len z.cap] T.a4)::slc T.a37 5 z (C.l.flatMap zr)::l)):Sat w (tbC t C::l) :=
 .ex_mk z (.and_mk h (.star_mk hs))
theorem z066 (hs:Sat w l):Ret P F.a3 #[] w λvs w'=>∃ t:Nat,vs=[.pointer (some ⟨t,0,none⟩)]/\Sat w' (tbC t ⟨0,[]⟩::l) :=
 zee <| by
  unfold zeh
  refine zq hs λa w' hs=>?_
  refine ⟨rfl,a,rfl,?_⟩
  have h0:Sat w' (slc T.a37 5 ⟨none,0,0⟩ (([]:List AtM).flatMap zr)::_):=hs.slc_nil
  exact z5f ⟨0,[]⟩ (z:=⟨none,0,0⟩) ⟨.nil,by decide⟩ (h0.pick [1])
theorem zyc (i:Nat) (a0 a1:Nat) (k:ByteArray) (hi:i<C.l.length) [h0:FocB l a0 (.cells [.pointer (some ⟨t,0,none⟩)].toArray T.a26) r1] [h1:FocB l a1 (.cells [.string k].toArray T.a54) r2]
  [h2:FocB l t (.cells [.int .i64 C.next,.slice z.a z.len z.cap].toArray T.a4) r] [h3:FocR l z 5 (C.l.flatMap zr)] (hs:Sat w l) :
  Ret P F.a9 #[.int .i64 (i:Int),.pointer (some ⟨a0,0,none⟩),.pointer (some ⟨a1,0,none⟩)] w λvs w'=>vs=[.bool (!ltS C.l[i].r.key k)]/\Sat w' l :=
 zy4 _ _ _ <| by
  delta zf8 Aa Ad Ae Af Ag Aj Al Ay Be Bi Bl
  refine zv hs λw' hs=>?_
  refine z8 hs ?_
  refine zj ?_
  refine z8 hs ?_
  simp only [add_zero]
  refine zxu hs (xs:=C.l) (enc:=zr) i hi ?_
  refine z8 hs ?_
  refine wp_lt ?_
  refine ze ?_
  exact ⟨rfl,rfl,hs⟩
theorem zyd (k:ByteArray) (hok:z60 C.l/\C.l.length<=1000000000) [h2:FocB l t (.cells [.int .i64 C.next,.slice z.a z.len z.cap].toArray T.a4) r] [h3:FocR l z 5 (C.l.flatMap zr)] (hs:Sat w l):Ret P F.a8 #[.pointer (some ⟨t,0,none⟩),.string k] w λvs w'=>vs=[.int .i64 (z0e C.l k:Nat)]/\Sat w' l :=
 zy3 _ k <| by
  delta zf7 A8 AC AU Aa Ad Af Ag Ai Ak Al As
  have hl:=hs.slen z (xs:=C.l) (enc:=zr)
  refine zq hs λa0 w' hs=>?_
  refine zq hs λa1 w' hs=>?_
  refine z8 hs ?_
  refine zj ?_
  refine z8 hs ?_
  rw [hl]
  have hlen:=hok.2
  refine zb (zfz C.l.length (by omega) F.a9 #[.pointer (some ⟨a0,0,none⟩),.pointer (some ⟨a1,0,none⟩)] (λi=>!ltS (orC C.l[i]?).r.key k) (by kernel_rfl) (λi w hi hs=>?_) hs) λ_ w' hs=>?_
  ·have e:orC C.l[i]? = C.l[i]:=by rw [List.getElem?_eq_getElem hi];rfl
   simp only [e]
   exact zyc (C:=C) (t:=t) (z:=z) i a0 a1 k hi hs
  obtain ⟨i,hi,h1,h2,rfl,hs⟩:=hs
  refine zd ?_
  refine wp_lt ?_
  have e:z0e C.l k=i:=by
   refine zyo hok.1 hi (λh h0=>?_) λh=>?_
   ·have:=h1 h0
    rw [List.getElem?_eq_getElem h] at this
    have:(!ltS C.l[i-1].r.key k)=false:=this
    simpa using this
   ·have:=h2 h
    rw [List.getElem?_eq_getElem h] at this
    have:(!ltS C.l[i].r.key k)=true:=this
    simpa using this
  refine ⟨rfl,by rw [e],?_⟩
  exact hs.tail.tail
theorem z03n (k:ByteArray) [hf:Fo l tbC t C r] (hs:Sat w l):Ret P F.a8 #[.pointer (some ⟨t,0,none⟩),.string k] w λvs w'=>vs=[.int .i64 (z0e C.l k:Nat)]/\Sat w' (tbC t C::r):=by
 obtain ⟨z,hok,hs⟩:=z8o (hs.perm hf.perm)
 exact Ret.mono (zyd (t:=t) (C:=C) (z:=z) k hok hs) λvs w' h=>⟨h.1,z5f C (z:=z) hok h.2⟩
theorem z011 (k:ByteArray) [hf:Fo l tbC t C r] (hs:Sat w l):Ret P F.a7 #[.pointer (some ⟨t,0,none⟩),.string k] w λvs w'=>vs=[.int .i64 (z0e C.l k:Nat),.bool (z3k C.l k)]/\Sat w' (tbC t C::r) :=
 zy2 _ k <| by
  delta zf6 AC AF AG Aa Ad Ae Af Ag Ai Aj Ak Al Ay Bx
  refine zb (z03n (t:=t) (C:=C) k hs) λ_ w' hs=>?_
  obtain ⟨rfl,hs⟩:=hs
  refine zd ?_
  obtain ⟨z,hok,hs⟩:=z8o hs
  have hl:=hs.slen z (xs:=C.l) (enc:=zr)
  refine wp_lt ?_
  refine zv hs λw' hs=>?_
  refine zj ?_
  refine z8 hs ?_
  refine z0j ?_
  refine z8 hs ?_
  simp only [add_zero]
  refine zcl (xs:=C.l) (enc:=zr) hs (orC C.l[z0e C.l k]?).r.key (λhg=>?_) ?_
  ·have hg:z0e C.l k<C.l.length:=by rw [<- hl];simpa using hg
   exact ⟨_,hg,rfl,by rw [List.getElem?_eq_getElem hg];rfl⟩
  refine wp_lt ?_
  refine wp_lt ?_
  refine ze ?_
  refine ⟨rfl,?_,z5f C (z:=z) hok hs.sub⟩
  have e:(decide (((z0e C.l k:Nat):Int)<((z.len:Nat):Int)) && (ByteArray.toList (orC C.l[z0e C.l k]?).r.key == ByteArray.toList k))=z3k C.l k:=by
   rw [hl]
   unfold z3k
   by_cases h:z0e C.l k<C.l.length
   ·rw [List.getElem?_eq_getElem h]
    show (_ && (ByteArray.toList C.l[z0e C.l k].r.key == ByteArray.toList k))=decide (C.l[z0e C.l k].r.key=k)
    rw [decide_eq_true (by omega:((z0e C.l k:Nat):Int)<(C.l.length:Int)),Bool.true_and,Bool.eq_iff_iff,beq_iff_eq,decide_eq_true_iff]
    exact ⟨λh=>by rw [ByteArray.toList_eq,ByteArray.toList_eq] at h;exact ByteArray.ext (Array.ext' h),λh=>by rw [h]⟩
   ·rw [List.getElem?_eq_none (by omega),decide_eq_false (by omega)];rfl
  rw [e]
theorem zl9 (k:ByteArray) [hf:Fo l tbC t C r] (hs:Sat w l):Ret P F.a6 #[.pointer (some ⟨t,0,none⟩),.string k] w λvs w'=>vs=[.agg (zr (orC (z0u C.l k))).toArray,.bool (z0u C.l k).isSome]/\Sat w' (tbC t C::r) :=
 zy1 _ k <| by
  delta zf5 AI AJ Aa Ac Ad Af Ag Ai Ak Al Ay BE BF BG Bg
  refine zn (hs.perm hf.perm) λa0 w' hs=>?_
  refine zu ?_ (by simp)
  refine zb (z011 (t:=t) (C:=C) k hs) λ_ w' hs=>?_
  obtain ⟨rfl,hs⟩:=hs
  refine ⟨(((z0e C.l k:Nat):Int),z3k C.l k,()),rfl,trivial,z1v _ _ ?_⟩
  refine wp_lt ?_
  refine wp_lt ?_
  by_cases ht:z3k C.l k=true
  ·refine zu ?_ (by rw [ht];simp)
   obtain ⟨hi,hk⟩:=z6k.1 ht
   have e:z0u C.l k=some C.l[z0e C.l k]:=by unfold z0u;rw [if_pos ht,List.getElem?_eq_getElem hi]
   obtain ⟨z,hok,hs⟩:=z8o hs
   refine zj ?_
   refine z8 hs ?_
   refine z1s hs (xs:=C.l) (enc:=zr) (z0e C.l k) hi ?_
   refine zm hs λw' hs=>?_
   refine zg hs ?_
   rw [e]
   exact ⟨rfl,rfl,z5f C (z:=z) hok hs.sub⟩
  ·have ht:z3k C.l k=false:=by simpa using ht
   refine z0p ?_ (by rw [ht];simp)
   have e:z0u C.l k=none:=by unfold z0u;rw [if_neg (by rw [ht];simp)]
   refine zm hs λw' hs=>?_
   refine zg hs ?_
   rw [e]
   exact ⟨rfl,rfl,hs.sub⟩
theorem zju:∀ (xs:List AtM) (f:Int) (a:AtM),z29 f (xs++[a])=(z29 f xs && decide ((match xs.getLast? with|none=>f|some b=>b.off+1)<=a.off))
 | [],f,a=>by
  show (if a.off<f then false else true)=(true && decide (f<=a.off))
  by_cases h:a.off<f
  ·rw [if_pos h,decide_eq_false (by omega)];rfl
  ·rw [if_neg h,decide_eq_true (by omega)];rfl
 | x::xs,f,a=>by
  have ih:=zju xs (x.off+1) a
  show (if x.off<f then false else z29 (x.off+1) (xs++[a]))=((if x.off<f then false else z29 (x.off+1) xs) && _)
  by_cases h:x.off<f
  ·rw [if_pos h,if_pos h];rfl
  ·rw [if_neg h,if_neg h,ih]
   cases xs with
   | nil=>rfl
   | cons y ys =>
    rw [List.getLast?_cons_cons]
    have:∃ u,(y::ys).getLast? = some u:=⟨_,List.getLast?_eq_some_getLast (by simp)⟩
    obtain ⟨u,hu⟩:=this
    rw [hu]
theorem zmm:∀ (xs ys:List AtM) (f:Int),z29 f xs=false->z29 f (xs++ys)=false
 | [],ys,f,h=>by cases h
 | x::xs,ys,f,h=>by
  have h:(if x.off<f then false else z29 (x.off+1) xs)=false:=h
  show (if x.off<f then false else z29 (x.off+1) (xs++ys))=false
  by_cases hx:x.off<f
  ·rw [if_pos hx]
  ·rw [if_neg hx] at h ⊢
   exact zmm xs ys _ h
theorem z03r (f:Int) (x:Sl) (xs:List AtM) (hn:xs.length<=1000000000) [hx:FocR l x 5 (xs.flatMap zr)] (hs:Sat w l):Ret P F.a11 #[.int .i64 f,x.v] w λvs w'=>vs=[.bool (z29 f xs)]/\Sat w' l :=
 ztf _ x <| by
  delta z080 AI AJ AK AR Ac Ad Ae Ag Ai Aj Ak Ao BF BG Bc
  have hl:=hs.slen x (xs:=xs) (enc:=zr)
  refine z4m ?_
  refine z03 (λm q w=>∃ i:Nat,q=((i:Int),())/\i<=xs.length/\xs.length-i=m/\z29 f (xs.take i)=true/\Sat w l) xs.length ⟨0,rfl,by omega,rfl,rfl,hs⟩ ?_
  clear hs
  rintro m _ w ⟨i,rfl,hi,hm,hr,hs⟩
  refine zk ?_
  refine zh (λhc=>?_) λhc=>?_
  rotate_left
  ·rw [List.take_of_length_le (by omega)] at hr
   refine zo (z4z ⟨(),rfl,?_⟩)
   exact ⟨rfl,by rw [hr],hs⟩
  have hil:i<xs.length:=by omega
  have htk:xs.take (i+1)=xs.take i++[xs[i]]:=by rw [List.take_add_one,List.getElem?_eq_getElem hil,Option.toList_some]
  have hst:z29 f (xs.take (i+1))=decide ((match (xs.take i).getLast? with|none=>f|some b=>b.off+1)<=xs[i].off):=by rw [htk,zju,hr,Bool.true_and]
  have hlast:0<i->(xs.take i).getLast? = some (xs[i-1]'(by omega)):=λh0=>by
   rw [List.getLast?_eq_getElem?,List.length_take,Nat.min_eq_left (by omega),List.getElem?_take,if_pos (by omega),List.getElem?_eq_getElem (by omega)]
  refine z1s hs i hil ?_
  refine zn hs λa8 w' hs=>?_
  refine wp_lt ?_
  refine zm hs λw' hs=>?_
  refine zv hs λw' hs=>?_
  refine z8 hs ?_
  refine z8 hs ?_
  refine zcl (xs:=xs) (enc:=zr) hs (orC xs[i-1]?).off (λhg=>?_) ?_
  ·have h0:0<i:=by have:=hg.2;simp at this;omega
   exact ⟨i-1,by omega,by rw [w64 (by omega) (by omega)];omega,by rw [List.getElem?_eq_getElem (by omega)];rfl⟩
  refine ze ?_
  have hcond:((i:Int)=0/\xs[i].off<f\/(i:Int)>0/\xs[i].off<=(orC xs[i-1]?).off)↔z29 f (xs.take (i+1))=false:=by
   rw [hst]
   by_cases h0:i=0
   ·subst h0
    show _↔decide (f<=xs[0].off)=false
    rw [decide_eq_false_iff_not]
    omega
   ·have e:orC xs[i-1]? = xs[i-1]'(by omega):=by rw [List.getElem?_eq_getElem (by omega)];rfl
    rw [e,hlast (by omega)]
    show _↔decide ((xs[i-1]'(by omega)).off+1<=xs[i].off)=false
    rw [decide_eq_false_iff_not]
    omega
  refine zh (λh=>?_) λh=>?_
  ·have h:z29 f (xs.take (i+1))=false:=hcond.1 h
   refine zo (zo ?_)
   have:=zmm _ (xs.drop (i+1)) f h
   rw [List.take_append_drop] at this
   exact ⟨rfl,by rw [this],hs.tail⟩
  ·have h:z29 f (xs.take (i+1))=true:=by
    cases hh:z29 f (xs.take (i+1)) with
    | true=>rfl
    | false=>exact absurd (hcond.2 hh) h
   refine z1k (us':=[.int .i64 ((i+1:Nat):Int)]) (by (try simp (disch:=omega) only [w64]);first|rfl|(congr;omega)) ?_
   exact z0l (xs.length-(i+1)) ⟨i+1,rfl,by omega,rfl,h,hs.tail⟩
theorem zvt (x:Sl) (xs:List AtM) (i:Nat) (hi:i<xs.length) (hn:xs.length<=1000000000) (hs:Sat w (slc T.a37 5 x (xs.flatMap zr)::l)) :
  Ret P F.a144 #[x.v,.int .i64 (i:Int),.int .i64 ((i+1:Nat):Int)] w λvs w'=>∃ z:Sl,vs=[z.v]/\Sat w' (slc T.a37 5 z ((xs.take i++xs.drop (i+1)).flatMap zr)::l) :=
 zos x _ _ <| by
  delta z02k Ac Ad Ae Ag Ai Aj Ap B7
  have hl:=hs.slen x (xs:=xs) (enc:=zr)
  have hcap:=hs.slc_cap
  refine wp_must (by omega) ?_
  refine zu ?_ (by simp;omega)
  refine wp_lt ?_
  refine zv hs λw' hs=>?_
  refine wp_must (by omega) ?_
  refine wp_must (by omega) ?_
  rw [Int.toNat_natCast,Int.toNat_natCast]
  have hrd:Rd w' 5 ⟨z0q x.a 5 (i+1) x.cap,x.len-(i+1),x.cap-(i+1)⟩ ((xs.drop (i+1)).flatMap zr) :=
   (FocR.post (l:=slc T.a37 5 x (xs.flatMap zr)::l) (x:=x) (sz:=5) (xs:=xs) (enc:=zr) (n:=i+1) (m:=x.cap) (c:=x.cap-(i+1)) hcap).rd w' hs
  have hs:=hs.slc_pre (n:=i) (by omega)
  rw [z7q] at hs
  have hroom:i+(x.len-(i+1))<=x.cap:=by omega
  refine z05p (x:=⟨x.a,i,x.cap⟩) (y:=⟨z0q x.a 5 (i+1) x.cap,x.len-(i+1),x.cap-(i+1)⟩) (el:=T.a37) (sz:=5) (xs:=xs.take i) (ys:=xs.drop (i+1)) (enc:=zr) hs hrd hroom (λw' hs=>?_)
  refine ze ?_
  refine wp_must (by show (0:Int)<=((i+(x.len-(i+1)):Nat):Int)/\((i+(x.len-(i+1)):Nat):Int)<=((x.len:Nat):Int)/\((x.len:Nat):Int)<=((x.cap:Nat):Int);omega) ?_
  rw [Int.toNat_natCast,Int.toNat_natCast]
  have hroom2:i+(x.len-(i+1))+(x.len-(i+(x.len-(i+1))))<=x.cap:=by omega
  refine z07t (t:=T.a46) (el:=T.a37) (x:=⟨x.a,i+(x.len-(i+1)),x.cap⟩) (n:=i+(x.len-(i+1))) (m:=x.len-(i+(x.len-(i+1)))) hs (Nat.le_refl _) hroom2 (λw' hs=>?_)
  exact ⟨rfl,_,rfl,hs⟩
theorem z073 (w:World) {b o lb cb vb vc:Nat} {arr va:Array Value} {fr:Nat × Nat} (hne:vb≠b) (hv:w.heap[vb]? = some (.cells va T.a37)) (hb:w.heap[b]? = some (.cells arr T.a37 fr)) (hsz:arr.size≠0) :
  (zht 264 (#[]++#[.slice (some ⟨vb,0,none⟩) 1 vc,.slice (some ⟨b,o,none⟩) lb cb]++#[])).run P w=.ok (.bool false) w:=by
 have ht:SlT P T.a46 T.a37 5 _:=inferInstance
 obtain ⟨i,z,hi,h5,-,-,-⟩:=ht.parts
 have h:=Lib.run_overlaps_apart (P:=P) w T.a46 T.a3 T.a37 ht.ok.1 5 (λw=>by simp [sizeOf,typeInfo,hi,h5]) ⟨vb,0,none⟩ ⟨b,o,none⟩ 1 vc lb cb hne T.a37 T.a37 va.size arr.size
  (by simp [World.shape?,hv]) (by simp [World.shape?,hb]) hsz (by simp [World.frozen?,hv]) (by simp [World.frozen?,hv])
 unfold zht
 rw [Sem.run_bind,run_callFunc_extern Go.Proofs.Tryz.func264 (by kernel_rfl) (by kernel_rfl) (by kernel_rfl) (e:=Extern.SlicesOverlaps.overlaps #[T.a46,T.a46] #[T.a3]) (by kernel_rfl)]
 have e:(#[]++#[Value.slice (some ⟨vb,0,none⟩) 1 vc,Value.slice (some ⟨b,o,none⟩) lb cb]++#[]:Array Value)=#[Value.slice (some ⟨vb,0,none⟩) 1 vc,Value.slice (some ⟨b,o,none⟩) lb cb]:=by simp
 rw [e,h]
 simp
set_option maxHeartbeats 1000000 in
theorem z03o (x:Sl) (xs:List AtM) (a:AtM) (i:Nat) (hi:i<=xs.length) (hn:xs.length<=1000000000) {vb:Nat} (hs:Sat w (slc T.a37 5 x (xs.flatMap zr)::pt vb (.cells (zr a).toArray T.a37)::l)) :
  Ret P F.a146 #[x.v,.int .i64 (i:Int),.slice (some ⟨vb,0,none⟩) 1 1] w λvs w'=>∃ z:Sl,vs=[z.v]/\Sat w' (slc T.a37 5 z ((xs.take i++a::xs.drop i).flatMap zr)::l) :=
 zou x _ ⟨some ⟨vb,0,none⟩,1,1⟩ <| by
  delta z02m Ac Ad Ae Ag Ai Aj Ak Am Ao Ap BS
  have hl:=hs.slen x (xs:=xs) (enc:=zr)
  have hcap:=hs.slc_cap
  have hcl:(xs.flatMap zr).length=xs.length*5:=z2x (enc:=zr) xs
  have hea:(zr a).length=5:=rfl
  refine wp_must (by omega) ?_
  refine wp_lt ?_
  refine zu ?_ (by simp)
  refine wp_lt ?_
  by_cases hin:i=xs.length
  ·refine z0p ?_ (by rw [hl,hin])
   have hs2:Sat w (slc T.a37 5 ⟨some ⟨vb,0,none⟩,1,1⟩ ([a].flatMap zr)::slc T.a37 5 x (xs.flatMap zr)::l):=by
    have h:=(hs.pick [1]).slc_of (sz:=5) (n:=1) rfl
    exact h
   refine wp_app' (x:=x) (y:=⟨some ⟨vb,0,none⟩,1,1⟩) (xs:=xs) (ys:=[a]) (enc:=zr) hs2 (λz w' hs=>?_) (by simp only [List.length_cons,List.length_nil];omega)
   refine ⟨rfl,z,rfl,?_⟩
   have e:xs.take i++a::xs.drop i=xs++[a]:=by rw [hin,List.take_length,List.drop_length]
   rw [e]
   exact hs.sub
  have hil:i<xs.length:=by omega
  refine zu ?_ (by rw [hl];omega)
  obtain ⟨b,off,ha⟩:=z00d hs (by omega)
  have hne:=z07g hs ha
  obtain ⟨arr,fr,hb,-,-,hsz,hcs⟩:=zbl hs ha
  have hv:w.heap[vb]? = some (.cells (zr a).toArray T.a37):=(hs.pick [1]).get
  have e1:IntKind.wrap .i64 (((x.len:Nat):Int)+((1:Nat):Int))=((xs.length+1:Nat):Int):=by rw [hl,w64 (by omega) (by omega)];omega
  have e2:IntKind.wrap .i64 ((i:Int)+((1:Nat):Int))=((i+1:Nat):Int):=by rw [w64 (by omega) (by omega)];omega
  have e3:IntKind.wrap .i64 (((xs.length+1:Nat):Int)-(i:Int))=((xs.length+1-i:Nat):Int):=by rw [w64 (by omega) (by omega)];omega
  simp only [e1,e2,e3,Int.toNat_natCast]
  have hfl:(xs.take i++a::xs.drop i).flatMap zr=(xs.flatMap zr).take (i*5)++zr a++(xs.flatMap zr).drop (i*5):=by
   rw [List.flatMap_append,List.flatMap_cons,z7q,zaj,List.append_assoc]
  have ht:SlT P T.a46 T.a37 5 _:=inferInstance
  obtain ⟨ii,z0,hii,h5,hby,hz0,hzs⟩:=ht.parts
  have hone:∀ v ∈ xs.flatMap zr,v.oneCell'=true:=λv hv=>by
   obtain ⟨y,-,hy⟩:=List.mem_flatMap.1 hv
   exact EncN.one (enc:=zr) (sz:=5) y v hy
  have h1d:∀ v ∈ (xs.flatMap zr).drop (i*5),v.oneCell'=true:=λv hv=>hone v (List.mem_of_mem_drop hv)
  have h1a:∀ v ∈ zr a,v.oneCell'=true:=λv hv=>EncN.one (enc:=zr) (sz:=5) a v hv
  have hfa:∀ (w':World),w'.heap[vb]? = some (.cells (zr a).toArray T.a37)->(Builtin.firstCells 5 1 (.slice (some ⟨vb,0,none⟩) 1 1)).run P w'=.ok (zr a).toArray w':=λw' hv'=>by
   refine run_firstCells_some (P:=P) w' 5 1 ⟨vb,0,none⟩ 1 1 (zr a) rfl λj u hj=>?_
   rw [z2a,z37 hv',Nat.zero_add]
   simpa using hj
  have hdl:((xs.flatMap zr).drop (i*5)).length=(xs.length-i)*5:=by rw [List.length_drop,hcl];omega
  by_cases hroom:xs.length+1<=x.cap
  ·refine zu ?_ (by omega)
   refine wp_must (by omega) ?_
   refine wp_must (by omega) ?_
   have ec1:z0q x.a 5 (i+1) x.cap=some ⟨b,off+(i+1)*5,none⟩:=by unfold z0q;rw [if_neg (by omega),ha,Option.map_some,z2a]
   have ec2:z0q x.a 5 i x.cap=some ⟨b,off+i*5,none⟩:=by unfold z0q;rw [if_neg (by omega),ha,Option.map_some,z2a]
   simp only [ec1,ec2]
   refine ⟨(false,()),w,z073 w hne.symm hv hb (by omega),trivial,?_⟩
   refine zk ?_
   refine z0p ?_ (by simp)
   refine zv hs λw' hs=>?_
   refine wp_must (by omega) ?_
   refine wp_must (by omega) ?_
   obtain ⟨t,htl,hs2⟩:=hs.slc_ext ha (n:=xs.length+1) (by omega) hroom
   have htl:t.length=5:=by rw [htl,hl];omega
   obtain ⟨arr2,fr2,hb2,-,-,hsz2,hcs2⟩:=zbl hs ha
   have hsrc:(Builtin.firstCells 5 (xs.length-i) (.slice (some ⟨b,off+i*5,none⟩) (xs.length+1-i) (x.cap-i))).run P w'=.ok ((xs.flatMap zr).drop (i*5)).toArray w':=by
    refine run_firstCells_some (P:=P) w' 5 (xs.length-i) ⟨b,off+i*5,none⟩ _ _ _ hdl λj u hj=>?_
    have hj2:j<((xs.flatMap zr).drop (i*5)).length:=(List.getElem?_eq_some_iff.1 hj).1
    rw [List.getElem?_drop] at hj
    rw [z2a,z37 hb2,Nat.add_assoc,hcs2 (i*5+j) (by omega),hj]
   obtain ⟨w2,hrun,hs3⟩:=ze4 (P:=P) (t:=T.a46) (t':=T.a46) (ty:=T.a13) (o:=(i+1)*5) (n:=xs.length-i) (dl:=xs.length+1-(i+1)) (dc:=x.cap-(i+1)) (sl:=xs.length+1-i) (sc:=x.cap-i) (x:=⟨x.a,xs.length+1,x.cap⟩) ht.ok.1 hii h5 hs2 ha (by omega) hsrc h1d (by rw [List.length_append,htl,hdl];omega)
   refine ⟨(((xs.length-i:Nat):Int),()),w2,hrun,trivial,?_⟩
   refine zk ?_
   refine ze ?_
   refine wp_must (by omega) ?_
   have hv2:w2.heap[vb]? = some (.cells (zr a).toArray T.a37):=(hs3.pick [1]).get
   obtain ⟨w3,hrun3,hs4⟩:=ze4 (P:=P) (t:=T.a46) (t':=T.a46) (ty:=T.a13) (o:=i*5) (n:=1) (dl:=xs.length+1-i) (dc:=x.cap-i) (sl:=1) (sc:=1) (x:=⟨x.a,xs.length+1,x.cap⟩) ht.ok.1 hii h5 hs3 ha (by omega) (hfa w2 hv2) h1a (by rw [hea];simp only [List.length_append,List.length_take,List.length_drop,htl,hcl];omega)
   refine ⟨(((1:Nat):Int),()),w3,hrun3,trivial,?_⟩
   refine zk ?_
   refine ⟨rfl,⟨x.a,xs.length+1,x.cap⟩,rfl,?_⟩
   rw [hfl]
   have hX:((xs.flatMap zr++t).take ((i+1)*5)).length=(i+1)*5:=by rw [List.length_take,List.length_append,htl,hcl];omega
   have hE:(xs.flatMap zr++t).drop ((i+1)*5+((xs.flatMap zr).drop (i*5)).length)=[]:=List.drop_eq_nil_of_le (by rw [List.length_append,htl,hcl,hdl];omega)
   rw [hE,List.append_nil] at hs4
   have hA1:((xs.flatMap zr++t).take ((i+1)*5)++(xs.flatMap zr).drop (i*5)).take (i*5)=(xs.flatMap zr).take (i*5):=by
    rw [List.take_append_of_le_length (by rw [hX];omega),List.take_take,Nat.min_eq_left (by omega),List.take_append_of_le_length (by rw [hcl];omega)]
   have hA2:((xs.flatMap zr++t).take ((i+1)*5)++(xs.flatMap zr).drop (i*5)).drop (i*5+(zr a).length)=(xs.flatMap zr).drop (i*5):=by
    rw [List.drop_left' (by rw [hX,hea];omega)]
   rw [hA1,hA2] at hs4
   exact hs4.sub
  ·refine z0p ?_ (by omega)
   refine wp_must (by omega) ?_
   have hbytes:(xs.length+1)*ii.bytes<=140737488355328:=by rw [hby];omega
   have hs5:Sat w (slc T.a37 ii.size x (xs.flatMap zr)::pt vb (.cells (zr a).toArray T.a37)::l):=by rw [h5];exact hs
   obtain ⟨c,za,zs,w1,hrun,hcge,hzl,hs1⟩:=zy8 (P:=P) (t:=T.a46) (tn:=T.a13) (ty:=T.a46) ht.ok.1 (by kernel_rfl) hii hz0 (by rw [hzs,h5]) (by omega) hs5 (n:=i) (k:=xs.length+1-i) (by omega) (by omega) (by omega) (by rw [show i+(xs.length+1-i)=xs.length+1 by omega];exact hbytes) (by omega)
   rw [h5] at hs1 hzl
   have en:i+(xs.length+1-i)=xs.length+1:=by omega
   rw [en] at hs1 hrun hcge
   refine ⟨(⟨some ⟨za,0,none⟩,xs.length+1,c⟩,()),w1,hrun,trivial,?_⟩
   refine zk ?_
   refine wp_must (by show (0:Int)<=(i:Int)/\(i:Int)<=((xs.length+1:Nat):Int);omega) ?_
   have ec1:z0q (some ⟨za,0,none⟩:Option Addr) 5 i c=some ⟨za,0+i*5,none⟩:=by unfold z0q;rw [if_neg (by omega),Option.map_some,z2a]
   have ec2:z0q (some ⟨za,0,none⟩:Option Addr) 5 (i+1) c=some ⟨za,0+(i+1)*5,none⟩:=by unfold z0q;rw [if_neg (by omega),Option.map_some,z2a]
   have ec3:z0q x.a 5 i x.cap=some ⟨b,off+i*5,none⟩:=by unfold z0q;rw [if_neg (by omega),ha,Option.map_some,z2a]
   simp only [ec1,ec2,ec3]
   have hv1:w1.heap[vb]? = some (.cells (zr a).toArray T.a37):=(hs1.pick [2]).get
   have htk:((xs.flatMap zr).take (i*5)).length=i*5:=by rw [List.length_take,hcl];omega
   obtain ⟨w2,hrun2,hs2⟩:=ze4 (P:=P) (t:=T.a46) (t':=T.a46) (ty:=T.a13) (o:=i*5) (n:=1) (dl:=xs.length+1-i) (dc:=c-i) (sl:=1) (sc:=1) (x:=⟨some ⟨za,0,none⟩,xs.length+1,c⟩) ht.ok.1 hii h5 hs1 rfl (by omega) (hfa w1 hv1) h1a (by rw [hea,List.length_append,htk,hzl];omega)
   refine ⟨(((1:Nat):Int),()),w2,hrun2,trivial,?_⟩
   refine zk ?_
   refine zv hs2 λw3 hs3=>?_
   refine wp_must (by show (0:Int)<=((i+1:Nat):Int)/\((i+1:Nat):Int)<=((xs.length+1:Nat):Int);omega) ?_
   refine wp_must (by omega) ?_
   obtain ⟨arr2,fr2,hb2,-,-,hsz2,hcs2⟩:=zbl (hs3.pick [1]) ha
   have hsrc:(Builtin.firstCells 5 (xs.length-i) (.slice (some ⟨b,off+i*5,none⟩) (x.len-i) (x.cap-i))).run P w3=.ok ((xs.flatMap zr).drop (i*5)).toArray w3:=by
    refine run_firstCells_some (P:=P) w3 5 (xs.length-i) ⟨b,off+i*5,none⟩ _ _ _ hdl λj u hj=>?_
    have hj2:j<((xs.flatMap zr).drop (i*5)).length:=(List.getElem?_eq_some_iff.1 hj).1
    rw [List.getElem?_drop] at hj
    rw [z2a,z37 hb2,Nat.add_assoc,hcs2 (i*5+j) (by omega),hj]
   obtain ⟨w4,hrun4,hs4⟩:=ze4 (P:=P) (t:=T.a46) (t':=T.a46) (ty:=T.a13) (o:=(i+1)*5) (n:=xs.length-i) (dl:=xs.length+1-(i+1)) (dc:=c-(i+1)) (sl:=x.len-i) (sc:=x.cap-i) (x:=⟨some ⟨za,0,none⟩,xs.length+1,c⟩) ht.ok.1 hii h5 hs3 rfl (by omega) hsrc h1d (by simp only [List.length_append,List.length_take,List.length_drop,hzl,hcl,hea];omega)
   refine ⟨(((xs.length-i:Nat):Int),()),w4,hrun4,trivial,?_⟩
   refine zk ?_
   refine ze ?_
   refine ⟨rfl,⟨some ⟨za,0,none⟩,xs.length+1,c⟩,rfl,?_⟩
   rw [hfl]
   have hA1:((xs.flatMap zr).take (i*5)++zs).take (i*5)=(xs.flatMap zr).take (i*5):=List.take_left' htk
   rw [hA1] at hs4
   have hA2:((xs.flatMap zr).take (i*5)++zr a++((xs.flatMap zr).take (i*5)++zs).drop (i*5+(zr a).length)).take ((i+1)*5)=(xs.flatMap zr).take (i*5)++zr a:=List.take_left' (by rw [List.length_append,htk,hea];omega)
   have hA3:((xs.flatMap zr).take (i*5)++zr a++((xs.flatMap zr).take (i*5)++zs).drop (i*5+(zr a).length)).drop ((i+1)*5+((xs.flatMap zr).drop (i*5)).length)=[]:=List.drop_eq_nil_of_le (by simp only [List.length_append,List.length_take,List.length_drop,hzl,hcl,hea];omega)
   rw [hA2,hA3,List.append_nil] at hs4
   exact hs4.sub
def zlh (C:TbC) (a:AtM):Bool:=true
def zbv (C:TbC) (xs:List AtM):Bool:=true
theorem z03x (xs:List AtM) (C:TbC) (i:Nat) (h:i<xs.length) (_:zbv C xs=true):zlh ((xs.take i).foldl z2i C) xs[i]=true:=rfl
set_option maxHeartbeats 1000000 in
theorem z067 (a:AtM) (he:zlh C a=true) (hlo : -9223372036854775808<=a.off) (hhi:a.off<=1099511627776) (hlen:C.l.length<1000000000) [hf:Fo l tbC t C r] (hs:Sat w l) :
  Ret P F.a10 #[.pointer (some ⟨t,0,none⟩),.agg (zr a).toArray] w λvs w'=>vs=[]/\Sat w' (tbC t (z2i C a)::r) :=
 zy5 _ a.off a.r.key a.r.value a.r.gone a.r.time <| by
  delta zf9 AK Aa Ab Ac Ad Ae Af Ag Ai Aj Ak Al An Ao Ap Aq As Ay BE BF Be Bg By Bz
  refine zq (hs.perm hf.perm) λa0 w' hs=>?_
  clear hf
  refine z8 hs ?_
  refine zb (z011 (t:=t) (C:=C) a.r.key hs) λ_ w' hs=>?_
  obtain ⟨rfl,hs⟩:=hs
  refine ⟨(((z0e C.l a.r.key:Nat):Int),z3k C.l a.r.key,()),rfl,trivial,z1v _ _ ?_⟩
  refine wp_lt ?_
  refine wp_lt ?_
  refine z8 hs ?_
  refine wp_lt ?_
  obtain ⟨z,hok,hs⟩:=z8o hs
  have hl:=hs.slen z (xs:=C.l) (enc:=zr)
  have hokS:z60 (z2i C a).l/\(z2i C a).l.length<=1000000000:=⟨zg0 a hok.1,by have:=zr8 C a;omega⟩
  refine zl (λq w'=>∃ z':Sl,Sat w' (pt a0 (.cells #[.int .i64 a.off,.string a.r.key,.string a.r.value,.bool a.r.gone,.int .i64 a.r.time] T.a37)::pt t (.cells #[.int .i64 C.next,.slice z'.a z'.len z'.cap] T.a4)::slc T.a37 5 z' ((z2i C a).l.flatMap zr)::r)) ?_ ?_
  rotate_left
  ·rintro _ w2 ⟨z',hs⟩
   refine zk ?_
   refine z8 hs ?_
   refine zj ?_
   rw [w64 (by omega) (by omega)]
   refine z02 hs λw' hs=>?_
   have hs:Sat w' (pt t (.cells #[.int .i64 (z2i C a).next,.slice z'.a z'.len z'.cap] T.a4)::pt a0 (.cells #[.int .i64 a.off,.string a.r.key,.string a.r.value,.bool a.r.gone,.int .i64 a.r.time] T.a37)::slc T.a37 5 z' ((z2i C a).l.flatMap zr)::r):=hs
   exact ⟨rfl,rfl,z5f (z2i C a) (z:=z') hokS hs.sub⟩
  by_cases ht:z3k C.l a.r.key=true
  ·obtain ⟨hi,hk⟩:=z6k.1 ht
   by_cases hg:a.r.gone=true
   ·refine z0p ?_ ⟨ht,hg⟩
    have e:(z2i C a).l=C.l.take (z0e C.l a.r.key)++C.l.drop (z0e C.l a.r.key+1):=by unfold z2i;rw [if_pos ht,if_pos hg]
    refine zj ?_
    refine z8 hs ?_
    rw [show IntKind.wrap .i64 (((z0e C.l a.r.key:Nat):Int)+1)=((z0e C.l a.r.key+1:Nat):Int) by rw [w64 (by omega) (by omega)];omega]
    have hs:=hs.pick [1]
    refine zb (zvt z C.l (z0e C.l a.r.key) hi hok.2 hs) λ_ w' hs=>?_
    obtain ⟨z2,rfl,hs⟩:=hs
    refine zd ?_
    refine zj ?_
    refine z02 hs λw' hs=>?_
    refine zf ⟨z2,?_⟩
    rw [e]
    exact hs.sub
   ·have hg:a.r.gone=false:=by simpa using hg
    refine zu ?_ (by rw [hg];simp)
    have e:(z2i C a).l=C.l.set (z0e C.l a.r.key) a:=by unfold z2i;rw [if_pos ht,if_neg (by rw [hg];simp)]
    refine wp_lt ?_
    refine zl (λq w'=>Sat w' (pt a0 (.cells #[.int .i64 a.off,.string a.r.key,.string a.r.value,.bool a.r.gone,.int .i64 a.r.time] T.a37)::pt t (.cells #[.int .i64 C.next,.slice z.a z.len z.cap] T.a4)::slc T.a37 5 z ((C.l.set (z0e C.l a.r.key) a).flatMap zr)::r)) ?_ ?_
    rotate_left
    ·rintro _ w2 hs
     refine zk ?_
     refine zf ⟨z,?_⟩
     rw [e];exact hs.sub
    refine z0p ?_ ht
    refine zv hs λw' hs=>?_
    refine zj ?_
    refine z8 hs ?_
    refine zg hs ?_
    refine z05s hs (xs:=C.l) (enc:=zr) (z0e C.l a.r.key) hi a λw' hs=>?_
    refine ze ?_
    exact zf hs.sub
  have ht:z3k C.l a.r.key=false:=by simpa using ht
  refine zu ?_ (by rw [ht];simp)
  refine wp_lt ?_
  refine zl (λq w'=>∃ z':Sl,Sat w' (pt a0 (.cells #[.int .i64 a.off,.string a.r.key,.string a.r.value,.bool a.r.gone,.int .i64 a.r.time] T.a37)::pt t (.cells #[.int .i64 C.next,.slice z'.a z'.len z'.cap] T.a4)::slc T.a37 5 z' ((z2i C a).l.flatMap zr)::r)) ?_ ?_
  rotate_left
  ·rintro _ w2 ⟨z',hs⟩
   refine zk ?_
   exact zf ⟨z',hs⟩
  refine zu ?_ (by rw [ht];simp)
  refine z8 hs ?_
  refine wp_lt ?_
  refine zl (λq w'=>∃ z':Sl,Sat w' (pt a0 (.cells #[.int .i64 a.off,.string a.r.key,.string a.r.value,.bool a.r.gone,.int .i64 a.r.time] T.a37)::pt t (.cells #[.int .i64 C.next,.slice z'.a z'.len z'.cap] T.a4)::slc T.a37 5 z' ((z2i C a).l.flatMap zr)::r)) ?_ ?_
  rotate_left
  ·rintro _ w2 ⟨z',hs⟩
   refine zk ?_
   exact zf ⟨z',hs⟩
  by_cases hg:a.r.gone=true
  ·refine zu ?_ (by rw [hg];simp)
   have e:(z2i C a).l=C.l:=by unfold z2i;rw [if_neg (by rw [ht];simp),if_pos hg]
   refine zf ⟨z,?_⟩
   rw [e];exact hs.sub
  ·have hg:a.r.gone=false:=by simpa using hg
   refine z0p ?_ (by rw [hg];simp)
   have e:(z2i C a).l=C.l.take (z0e C.l a.r.key)++a::C.l.drop (z0e C.l a.r.key):=by
    unfold z2i
    rw [if_neg (by rw [ht];simp),if_neg (by rw [hg];simp)]
   refine zl (λq w'=>∃ z':Sl,Sat w' (pt a0 (.cells #[.int .i64 a.off,.string a.r.key,.string a.r.value,.bool a.r.gone,.int .i64 a.r.time] T.a37)::pt t (.cells #[.int .i64 C.next,.slice z'.a z'.len z'.cap] T.a4)::slc T.a37 5 z' ((z2i C a).l.flatMap zr)::r)) ?_ ?_
   rotate_left
   ·rintro _ w2 ⟨z',hs⟩
    refine zk ?_
    exact zf ⟨z',hs⟩
   refine zv hs λw' hs=>?_
   refine zj ?_
   refine z14 hs ?_
   refine zg hs ?_
   refine z07s hs (el:=T.a37) (cells:=(zr a).toArray) λvb w' hs=>⟨(by first|trivial|(repeat (first|exact trivial|exact λ_=>z08 hs|exact λ_=>z0f hs|refine And.intro ?_ ?_))),?_⟩
   refine ze ?_
   have hs:Sat w' (slc T.a37 5 z (C.l.flatMap zr)::pt vb (.cells (zr a).toArray T.a37)::pt a0 (.cells #[.int .i64 a.off,.string a.r.key,.string a.r.value,.bool a.r.gone,.int .i64 a.r.time] T.a37)::pt t (.cells #[.int .i64 C.next,.slice z.a z.len z.cap] T.a4)::r):=hs.sub
   refine zb (z03o z C.l a (z0e C.l a.r.key) (zq7 ..) hok.2 hs) λ_ w' hs=>?_
   obtain ⟨z2,rfl,hs⟩:=hs
   refine zd ?_
   refine zj ?_
   refine z02 hs λw' hs=>?_
   refine ze ?_
   refine zf ⟨z2,?_⟩
   rw [e]
   exact hs.sub
theorem zr2:∀ (xs:List AtM) (f:Int),z29 f xs=true->∀ a ∈ xs,∀ b,xs.getLast? = some b->a.off<=b.off
 | [],f,_,a,ha,_,_=>by cases ha
 | x::xs,f,h,a,ha,b,hb=>by
  have h:(if x.off<f then false else z29 (x.off+1) xs)=true:=h
  by_cases hx:x.off<f
  ·rw [if_pos hx] at h;cases h
  rw [if_neg hx] at h
  cases xs with
  | nil =>
   simp at ha hb
   subst ha hb
   omega
  | cons y ys =>
   rw [List.getLast?_cons_cons] at hb
   have ih:=zr2 (y::ys) (x.off+1) h
   rcases List.mem_cons.1 ha with rfl|ha
   ·have h1:y.off<=b.off:=ih y (List.mem_cons_self ..) b hb
    have h2:(if y.off<a.off+1 then false else z29 (y.off+1) ys)=true:=h
    by_cases hy:y.off<a.off+1
    ·rw [if_pos hy] at h2;cases h2
    ·omega
   ·exact ih a ha b hb
set_option maxHeartbeats 1000000 in
theorem zyb (x:Sl) (xs:List AtM) (hlo:∀ a ∈ xs,-9223372036854775808<=a.off) (he:zbv C xs=true) (hlen:C.l.length+xs.length<=1000000000) [hf:Fo l tbC t C r] [hx:FocR r x 5 (xs.flatMap zr)] (hs:Sat w l) :
  Ret P F.a5 #[.pointer (some ⟨t,0,none⟩),x.v] w λvs w'=>vs=[.int .i64 (z72 C xs).1]/\Sat w' (tbC t (z72 C xs).2::r) :=
 zy0 _ x <| by
  delta zf4 AI AJ AK AR Aa Ab Ac Ad Ag Ak Al Am Ao Au Aw BE BF BG Bc;unfold z72
  have hs:=hs.perm hf.perm
  clear hf
  refine wp_lt ?_
  refine zu ?_ (by simp)
  obtain ⟨z,hok,hs⟩:=z8o hs
  have hl:=hs.slen x (xs:=xs) (enc:=zr)
  refine zj ?_
  refine z8 hs ?_
  refine zb (z03r C.next x xs (by omega) hs) λ_ w' hs=>?_
  obtain ⟨rfl,hs⟩:=hs
  refine zd ?_
  have hgl:∀ h0:0<xs.length,xs.getLast? = some (xs[xs.length-1]'(by omega)):=λh0=>by
   rw [List.getLast?_eq_getElem?,List.getElem?_eq_getElem (by omega)]
  refine zcl (xs:=xs) (enc:=zr) hs (orC xs.getLast?).off (λhg=>?_) ?_
  ·have h0:0<xs.length:=by have:=hg.2;rw [hl] at this;simp at this;omega
   exact ⟨xs.length-1,by omega,by rw [hl,w64 (by omega) (by omega)];omega,by rw [hgl h0];rfl⟩
  refine wp_lt ?_
  have hcond:(!z29 C.next xs || (decide (((x.len:Nat):Int)>0) && decide ((orC xs.getLast?).off>1099511627776)))=true↔(z29 C.next xs=false\/ze1 xs=true):=by
   rw [hl]
   unfold ze1
   by_cases h0:xs.length=0
   ·have e:xs=[]:=List.length_eq_zero_iff.1 h0
    subst e
    simp
   ·rw [hgl (by omega)]
    rw [decide_eq_true (by omega:((xs.length:Nat):Int)>0)]
    show (!z29 C.next xs || (true && decide ((xs[xs.length-1]'(by omega)).off>1099511627776)))=true↔(z29 C.next xs=false\/decide ((xs[xs.length-1]'(by omega)).off>1099511627776)=true)
    simp
  by_cases hc:z29 C.next xs=false\/ze1 xs=true
  ·rw [if_pos hc]
   refine z3b (hcond.2 hc) ?_
   exact ⟨rfl,rfl,z5f C (z:=z) hok hs⟩
  rw [if_neg hc]
  refine z1r (by cases hh:(!z29 C.next xs || (decide (((x.len:Nat):Int)>0) && decide ((orC xs.getLast?).off>1099511627776))) with|false=>rfl|true=>exact absurd (hcond.1 hh) hc) ?_
  have hrise:z29 C.next xs=true:=by
   cases h:z29 C.next xs with
   | true=>rfl
   | false=>exact absurd (.inl h) hc
  have hhi:∀ a ∈ xs,a.off<=1099511627776:=λa ha=>by
   have h0:0<xs.length:=by
    rcases Nat.eq_zero_or_pos xs.length with h|h
    ·rw [List.length_eq_zero_iff.1 h] at ha;cases ha
    ·exact h
   have h1:=zr2 xs C.next hrise a ha _ (hgl h0)
   have h2:¬ ze1 xs=true:=λh=>hc (.inr h)
   unfold ze1 at h2
   rw [hgl h0] at h2
   have h2:¬ decide ((xs[xs.length-1]'(by omega)).off>1099511627776)=true:=h2
   rw [decide_eq_true_iff] at h2
   omega
  have hs:Sat w' (tbC t C::r):=z5f C (z:=z) hok hs
  refine zl (λq w'=>Sat w' (tbC t (xs.foldl z2i C)::r)) ?_ ?_
  rotate_left
  ·rintro _ w2 hs
   refine zk ?_
   exact ⟨rfl,rfl,hs⟩
  refine z03 (λm q w=>∃ i:Nat,q=((i:Int),())/\i<=xs.length/\xs.length-i=m/\Sat w (tbC t ((xs.take i).foldl z2i C)::r)) xs.length ⟨0,rfl,by omega,rfl,hs⟩ ?_
  clear hs
  rintro m _ w ⟨i,rfl,hi,hm,hs⟩
  refine zk ?_
  refine zh (λhc2=>?_) λhc2=>?_
  rotate_left
  ·rw [List.take_of_length_le (by omega)] at hs
   exact zo (zf hs)
  have hil:i<xs.length:=by omega
  have htk:xs.take (i+1)=xs.take i++[xs[i]]:=by rw [List.take_add_one,List.getElem?_eq_getElem hil,Option.toList_some]
  refine z1s hs i hil ?_
  refine zn hs λa17 w' hs=>?_
  refine zm hs λw' hs=>?_
  refine zg hs ?_
  have hs:=hs.pick [1]
  refine zb (z067 (t:=t) (C:=(xs.take i).foldl z2i C) xs[i] (z03x xs C i hil he) (hlo _ (List.getElem_mem hil)) (hhi _ (List.getElem_mem hil)) (by have:=zg1 (xs.take i) C;rw [List.length_take] at this;omega) hs) λ_ w' hs=>?_
  obtain ⟨rfl,hs⟩:=hs
  refine zd ?_
  refine z1k (us':=[.int .i64 ((i+1:Nat):Int)]) (by (try simp (disch:=omega) only [w64]);first|rfl|(congr;omega)) ?_
  refine z0l (xs.length-(i+1)) ⟨i+1,rfl,by omega,rfl,?_⟩
  rw [htk,List.foldl_append,List.foldl_cons,List.foldl_nil]
  exact hs.sub
end
abbrev LedA:=PartA × TbC
def z7z (M:LedA) (D:DiskA) (b:BatM):Int × LedA × DiskA :=
 if (z09 M.1 D b).1.2.2≠0 then ((z09 M.1 D b).1.2.2,((z09 M.1 D b).2.1,M.2),(z09 M.1 D b).2.2)
 else (0,((z09 M.1 D b).2.1,(z72 M.2 (z2d (b.to (z09 M.1 D b).1.1))).2),(z09 M.1 D b).2.2)
def z4f (time:Int) (x:Sl) (rs:List RecM):BatM:=⟨0,0,0,0,0,time,x,rs⟩
def z5u (k v:ByteArray) (time:Int):RecM:=⟨k,v,false,time⟩
def zkh (k:ByteArray) (time:Int):RecM:=⟨k,ByteArray.mk #[],true,time⟩
theorem zyn {b:BatM}:∀ a ∈ z2d b,-9223372036854775808<=a.off:=λa ha=>by
 unfold z2d at ha
 split at ha
 ·cases ha
 ·obtain ⟨i,hi,rfl⟩:=List.mem_mapIdx.1 ha
  show -9223372036854775808<=IntKind.wrap .i64 _
  rw [zim]
  split <;> omega
section
variable {w:World} {l r r1 r2 r3 l':List HP} {b d t p:Nat} {M:LedA} {D:DiskA}
def zvx:List BatM->Nat
 | []=>0
 | b::bs=>b.rs.length+zvx bs
def z07h (M:LedA):Int:=(zvx (z0d M.1.L.l):Nat)-(M.2.l.length:Nat)
end
structure SortI where
 T:TypeId
 s:Sh1
 sz:Nat
 less:HL s.prims->HL s.prims->(Bool->Prog)->Prog
 ex:List Value
 xs:TypeId
 ti:TypeId
 fNext:FuncId
 fPow:FuncId
 f_sift:FuncId
 f_heap:FuncId
 f_ins:FuncId
 f_brk:FuncId
 f_rev:FuncId
 f_pins:FuncId
 f_peq:FuncId
 f_part:FuncId
 f_ord2:FuncId
 f_med:FuncId
 f_medj:FuncId
 f_piv:FuncId
 f_pdq:FuncId
def tr (i j p:Nat):Nat:=if p=i then j else if p=j then i else p
end Go.Dec
