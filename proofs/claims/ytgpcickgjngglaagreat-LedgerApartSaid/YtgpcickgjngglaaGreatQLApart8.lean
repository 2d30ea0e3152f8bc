/- What the claim of this folder leans on: our own texts, joined, without what it does not use. -/
import Derived.Test.YtgpcickgjngglaaGreatQLApart7
set_option linter.unusedVariables false
set_option linter.unusedSimpArgs false
namespace Go.Dec
instance:EncF zq 0 (.int .i64) (λa=>a.off):=⟨λ_=>rfl⟩
instance:EncF zq 1 .str (λa=>a.r.key):=⟨λ_=>rfl⟩
def tbC (t:Nat) (C:TbC):HP:=HP.ex λz:Sl=>HP.and (z66 C.l/\C.l.length<=1000000000) (HP.star (pt t (.cells #[.int .i64 C.next,.slice z.a z.len z.cap] T.a4)) (slc T.a35 5 z (C.l.flatMap zq)))
def orC (o:Option AtM):AtM:=o.getD ⟨0,⟨ByteArray.mk #[],ByteArray.mk #[],false,0⟩⟩
instance {a:AtM} {b:Bool}:IsR (.tup [.agg [.int .i64,.str,.str,.bool,.int .i64],.one .bool]) [.agg (zq a).toArray,.bool b] (a.off,a.r.key,a.r.value,a.r.gone,a.r.time,b,()):=⟨rfl⟩
theorem add_zero (a:Addr):Addr.add a 0=a:=rfl
section
variable {w:World} {l r r1 r2:List HP} {t:Nat} {C:TbC} {z:Sl}
theorem z7g (hs:Sat w (tbC t C::l)):∃ z:Sl,(z66 C.l/\C.l.length<=1000000000)/\Sat w (pt t (.cells #[.int .i64 C.next,.slice z.a z.len z.cap] T.a4)::slc T.a35 5 z (C.l.flatMap zq)::l):=by
 obtain ⟨z,hs⟩:=hs.ex
 obtain ⟨h,hs⟩:=hs.and
 exact ⟨z,h,hs.star⟩
theorem z50 (C:TbC) {z:Sl} (h:z66 C.l/\C.l.length<=1000000000) (hs:Sat w (pt t (.cells #[.int .i64 C.next,.slice z.a z.len z.cap] T.a4)::slc T.a35 5 z (C.l.flatMap zq)::l)):Sat w (tbC t C::l) :=
 .ex_mk z (.and_mk h (.star_mk hs))
theorem z05y (hs:Sat w l):Ret P F.a3 #[] w λvs w'=>∃ t:Nat,vs=[.pointer (some ⟨t,0,none⟩)]/\Sat w' (tbC t ⟨0,[]⟩::l) :=
 zeo <| by
  unfold zet
  refine zr hs λa w' hs=>?_
  refine ⟨rfl,a,rfl,?_⟩
  have h0:Sat w' (slc T.a35 5 ⟨none,0,0⟩ (([]:List AtM).flatMap zq)::_):=hs.slc_nil
  exact z50 ⟨0,[]⟩ (z:=⟨none,0,0⟩) ⟨.nil,by decide⟩ (h0.pick [1])
theorem zyk (i:Nat) (a0 a1:Nat) (k:ByteArray) (hi:i<C.l.length) [h0:FocB l a0 (.cells [.pointer (some ⟨t,0,none⟩)].toArray T.a24) r1] [h1:FocB l a1 (.cells [.string k].toArray T.a49) r2]
  [h2:FocB l t (.cells [.int .i64 C.next,.slice z.a z.len z.cap].toArray T.a4) r] [h3:FocR l z 5 (C.l.flatMap zq)] (hs:Sat w l) :
  Ret P F.a10 #[.int .i64 (i:Int),.pointer (some ⟨a0,0,none⟩),.pointer (some ⟨a1,0,none⟩)] w λvs w'=>vs=[.bool (!ltS C.l[i].r.key k)]/\Sat w' l :=
 zyc _ _ _ <| by
  delta zf9 AC AD AG AI AY Ah Ak An Ax BB
  refine z02 hs λw' hs=>?_
  refine zb hs ?_
  refine zi ?_
  refine zb hs ?_
  simp only [add_zero]
  refine zdx hs (xs:=C.l) (enc:=zq) i hi ?_
  refine zb hs ?_
  refine wp_lt ?_
  refine ze ?_
  exact ⟨rfl,rfl,hs⟩
theorem zlg (k:ByteArray) (hok:z66 C.l/\C.l.length<=1000000000) [h2:FocB l t (.cells [.int .i64 C.next,.slice z.a z.len z.cap].toArray T.a4) r] [h3:FocR l z 5 (C.l.flatMap zq)] (hs:Sat w l):Ret P F.a9 #[.pointer (some ⟨t,0,none⟩),.string k] w λvs w'=>vs=[.int .i64 (z0g C.l k:Nat)]/\Sat w' l :=
 zyb _ k <| by
  delta zf8 AA AI AY Aa Af Ah Ai Ak An Ar B2
  have hl:=hs.slen z (xs:=C.l) (enc:=zq)
  refine zr hs λa0 w' hs=>?_
  refine zr hs λa1 w' hs=>?_
  refine zb hs ?_
  refine zi ?_
  refine zb hs ?_
  rw [hl]
  have hlen:=hok.2
  refine z8 (zgd C.l.length (by omega) F.a10 #[.pointer (some ⟨a0,0,none⟩),.pointer (some ⟨a1,0,none⟩)] (λi=>!ltS (orC C.l[i]?).r.key k) (by kernel_rfl) (λi w hi hs=>?_) hs) λ_ w' hs=>?_
  ·have e:orC C.l[i]? = C.l[i]:=by rw [List.getElem?_eq_getElem hi];rfl
   simp only [e]
   exact zyk (C:=C) (t:=t) (z:=z) i a0 a1 k hi hs
  obtain ⟨i,hi,h1,h2,rfl,hs⟩:=hs
  refine zd ?_
  refine wp_lt ?_
  have e:z0g C.l k=i:=by
   refine zz0 hok.1 hi (λh h0=>?_) λh=>?_
   ·have:=h1 h0
    rw [List.getElem?_eq_getElem h] at this
    have:(!ltS C.l[i-1].r.key k)=false:=this
    simpa using this
   ·have:=h2 h
    rw [List.getElem?_eq_getElem h] at this
    have:(!ltS C.l[i].r.key k)=true:=this
    simpa using this
  refine ⟨rfl,by rw [e],?_⟩
  exact hs.tail.tail
theorem z03n (k:ByteArray) [hf:Fo l tbC t C r] (hs:Sat w l):Ret P F.a9 #[.pointer (some ⟨t,0,none⟩),.string k] w λvs w'=>vs=[.int .i64 (z0g C.l k:Nat)]/\Sat w' (tbC t C::r):=by
 obtain ⟨z,hok,hs⟩:=z7g (hs.perm hf.perm)
 exact Ret.mono (zlg (t:=t) (C:=C) (z:=z) k hok hs) λvs w' h=>⟨h.1,z50 C (z:=z) hok h.2⟩
theorem z018 (k:ByteArray) [hf:Fo l tbC t C r] (hs:Sat w l):Ret P F.a8 #[.pointer (some ⟨t,0,none⟩),.string k] w λvs w'=>vs=[.int .i64 (z0g C.l k:Nat),.bool (z38 C.l k)]/\Sat w' (tbC t C::r) :=
 zya _ k <| by
  delta zf7 AA AC AG AI AW AY Aa Af Ah Ak An Ax B1 Bk
  refine z8 (z03n (t:=t) (C:=C) k hs) λ_ w' hs=>?_
  obtain ⟨rfl,hs⟩:=hs
  refine zd ?_
  obtain ⟨z,hok,hs⟩:=z7g hs
  have hl:=hs.slen z (xs:=C.l) (enc:=zq)
  refine wp_lt ?_
  refine z02 hs λw' hs=>?_
  refine zi ?_
  refine zb hs ?_
  refine z0n ?_
  refine zb hs ?_
  simp only [add_zero]
  refine z7h (xs:=C.l) (enc:=zq) hs (orC C.l[z0g C.l k]?).r.key (λhg=>?_) ?_
  ·have hg:z0g C.l k<C.l.length:=by rw [<- hl];simpa using hg
   exact ⟨_,hg,rfl,by rw [List.getElem?_eq_getElem hg];rfl⟩
  refine wp_lt ?_
  refine wp_lt ?_
  refine ze ?_
  refine ⟨rfl,?_,z50 C (z:=z) hok hs.sub⟩
  have e:(decide (((z0g C.l k:Nat):Int)<((z.len:Nat):Int)) && (ByteArray.toList (orC C.l[z0g C.l k]?).r.key == ByteArray.toList k))=z38 C.l k:=by
   rw [hl]
   unfold z38
   by_cases h:z0g C.l k<C.l.length
   ·rw [List.getElem?_eq_getElem h]
    show (_ && (ByteArray.toList C.l[z0g C.l k].r.key == ByteArray.toList k))=decide (C.l[z0g C.l k].r.key=k)
    rw [decide_eq_true (by omega:((z0g C.l k:Nat):Int)<(C.l.length:Int)),Bool.true_and,Bool.eq_iff_iff,beq_iff_eq,decide_eq_true_iff]
    exact ⟨λh=>by rw [ByteArray.toList_eq,ByteArray.toList_eq] at h;exact ByteArray.ext (Array.ext' h),λh=>by rw [h]⟩
   ·rw [List.getElem?_eq_none (by omega),decide_eq_false (by omega)];rfl
  rw [e]
theorem zw4 (k:ByteArray) [hf:Fo l tbC t C r] (hs:Sat w l):Ret P F.a5 #[.pointer (some ⟨t,0,none⟩),.string k] w λvs w'=>vs=[.agg (zq (orC (z24 C.l k))).toArray,.bool (z24 C.l k).isSome]/\Sat w' (tbC t C::r) :=
 zy7 _ k <| by
  delta zf4 AI AY AZ Aa Ab Ac Af Ah Aj Ak An Ax Bn Bo Bq
  refine zt (hs.perm hf.perm) λa0 w' hs=>?_
  refine z03 ?_ (by simp)
  refine z8 (z018 (t:=t) (C:=C) k hs) λ_ w' hs=>?_
  obtain ⟨rfl,hs⟩:=hs
  refine ⟨(((z0g C.l k:Nat):Int),z38 C.l k,()),rfl,trivial,z1v _ _ ?_⟩
  refine wp_lt ?_
  refine wp_lt ?_
  by_cases ht:z38 C.l k=true
  ·refine z03 ?_ (by rw [ht];simp)
   obtain ⟨hi,hk⟩:=z5n.1 ht
   have e:z24 C.l k=some C.l[z0g C.l k]:=by unfold z24;rw [if_pos ht,List.getElem?_eq_getElem hi]
   obtain ⟨z,hok,hs⟩:=z7g hs
   refine zi ?_
   refine zb hs ?_
   refine z2v hs (xs:=C.l) (enc:=zq) (z0g C.l k) hi ?_
   refine zv hs λw' hs=>?_
   refine zj hs ?_
   rw [e]
   exact ⟨rfl,rfl,z50 C (z:=z) hok hs.sub⟩
  ·have ht:z38 C.l k=false:=by simpa using ht
   refine z0u ?_ (by rw [ht];simp)
   have e:z24 C.l k=none:=by unfold z24;rw [if_neg (by rw [ht];simp)]
   refine zv hs λw' hs=>?_
   refine zj hs ?_
   rw [e]
   exact ⟨rfl,rfl,hs.sub⟩
theorem z05x [hf:Fo l tbC t C r] (hs:Sat w l):Ret P F.a6 #[.pointer (some ⟨t,0,none⟩)] w λvs w'=>vs=[.int .i64 (C.l.length:Nat)]/\Sat w' (tbC t C::r) :=
 zy8 _ <| by
  delta zf5 AI AY Aa Af Aj Ak An
  obtain ⟨z,hok,hs⟩:=z7g (hs.perm hf.perm)
  have hl:=hs.slen z (xs:=C.l) (enc:=zq)
  refine z03 ?_ (by simp)
  refine zi ?_
  refine zb hs ?_
  refine wp_lt ?_
  exact ⟨rfl,by rw [hl],z50 C (z:=z) hok hs⟩
theorem zk3:∀ (xs:List AtM) (f:Int) (a:AtM),z1j f (xs++[a])=(z1j f xs && decide ((match xs.getLast? with|none=>f|some b=>b.off+1)<=a.off))
 | [],f,a=>by
  show (if a.off<f then false else true)=(true && decide (f<=a.off))
  by_cases h:a.off<f
  ·rw [if_pos h,decide_eq_false (by omega)];rfl
  ·rw [if_neg h,decide_eq_true (by omega)];rfl
 | x::xs,f,a=>by
  have ih:=zk3 xs (x.off+1) a
  show (if x.off<f then false else z1j (x.off+1) (xs++[a]))=((if x.off<f then false else z1j (x.off+1) xs) && _)
  by_cases h:x.off<f
  ·rw [if_pos h,if_pos h];rfl
  ·rw [if_neg h,if_neg h,ih]
   cases xs with
   | nil=>rfl
   | cons y ys =>
    rw [List.getLast?_cons_cons]
    have:∃ u,(y::ys).getLast? = some u:=⟨_,List.getLast?_eq_some_getLast (by simp)⟩
    obtain ⟨u,hu⟩:=this
    rw [hu]
theorem zms:∀ (xs ys:List AtM) (f:Int),z1j f xs=false->z1j f (xs++ys)=false
 | [],ys,f,h=>by cases h
 | x::xs,ys,f,h=>by
  have h:(if x.off<f then false else z1j (x.off+1) xs)=false:=h
  show (if x.off<f then false else z1j (x.off+1) (xs++ys))=false
  by_cases hx:x.off<f
  ·rw [if_pos hx]
  ·rw [if_neg hx] at h ⊢
   exact zms xs ys _ h
theorem z03r (f:Int) (x:Sl) (xs:List AtM) (hn:xs.length<=1000000000) [hx:FocR l x 5 (xs.flatMap zq)] (hs:Sat w l):Ret P F.a12 #[.int .i64 f,x.v] w λvs w'=>vs=[.bool (z1j f xs)]/\Sat w' l :=
 ztp _ x <| by
  delta z07q AC AG AZ Aa Ab Ac Af Aj Ak Al Am An Ao Aw Bn
  have hl:=hs.slen x (xs:=xs) (enc:=zq)
  refine z44 ?_
  refine z0c (λm q w=>∃ i:Nat,q=((i:Int),())/\i<=xs.length/\xs.length-i=m/\z1j f (xs.take i)=true/\Sat w l) xs.length ⟨0,rfl,by omega,rfl,rfl,hs⟩ ?_
  clear hs
  rintro m _ w ⟨i,rfl,hi,hm,hr,hs⟩
  refine zl ?_
  refine zf (λhc=>?_) λhc=>?_
  rotate_left
  ·rw [List.take_of_length_le (by omega)] at hr
   refine zn (z48 ⟨(),rfl,?_⟩)
   exact ⟨rfl,by rw [hr],hs⟩
  have hil:i<xs.length:=by omega
  have htk:xs.take (i+1)=xs.take i++[xs[i]]:=by rw [List.take_add_one,List.getElem?_eq_getElem hil,Option.toList_some]
  have hst:z1j f (xs.take (i+1))=decide ((match (xs.take i).getLast? with|none=>f|some b=>b.off+1)<=xs[i].off):=by rw [htk,zk3,hr,Bool.true_and]
  have hlast:0<i->(xs.take i).getLast? = some (xs[i-1]'(by omega)):=λh0=>by
   rw [List.getLast?_eq_getElem?,List.length_take,Nat.min_eq_left (by omega),List.getElem?_take,if_pos (by omega),List.getElem?_eq_getElem (by omega)]
  refine z2v hs i hil ?_
  refine zt hs λa8 w' hs=>?_
  refine wp_lt ?_
  refine zv hs λw' hs=>?_
  refine z02 hs λw' hs=>?_
  refine zb hs ?_
  refine zb hs ?_
  refine z7h (xs:=xs) (enc:=zq) hs (orC xs[i-1]?).off (λhg=>?_) ?_
  ·have h0:0<i:=by have:=hg.2;simp at this;omega
   exact ⟨i-1,by omega,by rw [w64 (by omega) (by omega)];omega,by rw [List.getElem?_eq_getElem (by omega)];rfl⟩
  refine ze ?_
  have hcond:((i:Int)=0/\xs[i].off<f\/(i:Int)>0/\xs[i].off<=(orC xs[i-1]?).off)↔z1j f (xs.take (i+1))=false:=by
   rw [hst]
   by_cases h0:i=0
   ·subst h0
    show _↔decide (f<=xs[0].off)=false
    rw [decide_eq_false_iff_not]
    omega
   ·have e:orC xs[i-1]? = xs[i-1]'(by omega):=by rw [List.getElem?_eq_getElem (by omega)];rfl
    rw [e,hlast (by omega)]
    show _↔decide ((xs[i-1]'(by omega)).off+1<=xs[i].off)=false
    rw [decide_eq_false_iff_not]
    omega
  refine zf (λh=>?_) λh=>?_
  ·have h:z1j f (xs.take (i+1))=false:=hcond.1 h
   refine zn (zn ?_)
   have:=zms _ (xs.drop (i+1)) f h
   rw [List.take_append_drop] at this
   exact ⟨rfl,by rw [this],hs.tail⟩
  ·have h:z1j f (xs.take (i+1))=true:=by
    cases hh:z1j f (xs.take (i+1)) with
    | true=>rfl
    | false=>exact absurd (hcond.2 hh) h
   refine z29 (us':=[.int .i64 ((i+1:Nat):Int)]) (by (try simp (disch:=omega) only [w64]);first|rfl|(congr;omega)) ?_
   exact z0z (xs.length-(i+1)) ⟨i+1,rfl,by omega,rfl,h,hs.tail⟩
theorem zw2 (x:Sl) (xs:List AtM) (i:Nat) (hi:i<xs.length) (hn:xs.length<=1000000000) (hs:Sat w (slc T.a35 5 x (xs.flatMap zq)::l)) :
  Ret P F.a137 #[x.v,.int .i64 (i:Int),.int .i64 ((i+1:Nat):Int)] w λvs w'=>∃ z:Sl,vs=[z.v]/\Sat w' (slc T.a35 5 z ((xs.take i++xs.drop (i+1)).flatMap zq)::l) :=
 zp0 x _ _ <| by
  delta z02j AC AG AO Af Aj Ak An B7
  have hl:=hs.slen x (xs:=xs) (enc:=zq)
  have hcap:=hs.slc_cap
  refine wp_must (by omega) ?_
  refine z03 ?_ (by simp;omega)
  refine wp_lt ?_
  refine z02 hs λw' hs=>?_
  refine wp_must (by omega) ?_
  refine wp_must (by omega) ?_
  rw [Int.toNat_natCast,Int.toNat_natCast]
  have hrd:Rd w' 5 ⟨z0w x.a 5 (i+1) x.cap,x.len-(i+1),x.cap-(i+1)⟩ ((xs.drop (i+1)).flatMap zq) :=
   (FocR.post (l:=slc T.a35 5 x (xs.flatMap zq)::l) (x:=x) (sz:=5) (xs:=xs) (enc:=zq) (n:=i+1) (m:=x.cap) (c:=x.cap-(i+1)) hcap).rd w' hs
  have hs:=hs.slc_pre (n:=i) (by omega)
  rw [z7o] at hs
  have hroom:i+(x.len-(i+1))<=x.cap:=by omega
  refine z05h (x:=⟨x.a,i,x.cap⟩) (y:=⟨z0w x.a 5 (i+1) x.cap,x.len-(i+1),x.cap-(i+1)⟩) (el:=T.a35) (sz:=5) (xs:=xs.take i) (ys:=xs.drop (i+1)) (enc:=zq) hs hrd hroom (λw' hs=>?_)
  refine ze ?_
  refine wp_must (by show (0:Int)<=((i+(x.len-(i+1)):Nat):Int)/\((i+(x.len-(i+1)):Nat):Int)<=((x.len:Nat):Int)/\((x.len:Nat):Int)<=((x.cap:Nat):Int);omega) ?_
  rw [Int.toNat_natCast,Int.toNat_natCast]
  have hroom2:i+(x.len-(i+1))+(x.len-(i+(x.len-(i+1))))<=x.cap:=by omega
  refine z07j (t:=T.a42) (el:=T.a35) (x:=⟨x.a,i+(x.len-(i+1)),x.cap⟩) (n:=i+(x.len-(i+1))) (m:=x.len-(i+(x.len-(i+1)))) hs (Nat.le_refl _) hroom2 (λw' hs=>?_)
  exact ⟨rfl,_,rfl,hs⟩
theorem z06s (w:World) {b o lb cb vb vc:Nat} {arr va:Array Value} {fr:Nat × Nat} (hne:vb≠b) (hv:w.heap[vb]? = some (.cells va T.a35)) (hb:w.heap[b]? = some (.cells arr T.a35 fr)) (hsz:arr.size≠0) :
  (zi2 272 (#[]++#[.slice (some ⟨vb,0,none⟩) 1 vc,.slice (some ⟨b,o,none⟩) lb cb]++#[])).run P w=.ok (.bool false) w:=by
 have ht:SlT P T.a42 T.a35 5 _:=inferInstance
 obtain ⟨i,z,hi,h5,-,-,-⟩:=ht.parts
 have h:=Lib.run_overlaps_apart (P:=P) w T.a42 T.a3 T.a35 ht.ok.1 5 (λw=>by simp [sizeOf,typeInfo,hi,h5]) ⟨vb,0,none⟩ ⟨b,o,none⟩ 1 vc lb cb hne T.a35 T.a35 va.size arr.size
  (by simp [World.shape?,hv]) (by simp [World.shape?,hb]) hsz (by simp [World.frozen?,hv]) (by simp [World.frozen?,hv])
 unfold zi2
 rw [Sem.run_bind,run_callFunc_extern Go.Proofs.Tryz.func272 (by kernel_rfl) (by kernel_rfl) (by kernel_rfl) (e:=Extern.SlicesOverlaps.overlaps #[T.a42,T.a42] #[T.a3]) (by kernel_rfl)]
 have e:(#[]++#[Value.slice (some ⟨vb,0,none⟩) 1 vc,Value.slice (some ⟨b,o,none⟩) lb cb]++#[]:Array Value)=#[Value.slice (some ⟨vb,0,none⟩) 1 vc,Value.slice (some ⟨b,o,none⟩) lb cb]:=by simp
 rw [e,h]
 simp
set_option maxHeartbeats 1000000 in
theorem z03o (x:Sl) (xs:List AtM) (a:AtM) (i:Nat) (hi:i<=xs.length) (hn:xs.length<=1000000000) {vb:Nat} (hs:Sat w (slc T.a35 5 x (xs.flatMap zq)::pt vb (.cells (zq a).toArray T.a35)::l)) :
  Ret P F.a138 #[x.v,.int .i64 (i:Int),.slice (some ⟨vb,0,none⟩) 1 1] w λvs w'=>∃ z:Sl,vs=[z.v]/\Sat w' (slc T.a35 5 z ((xs.take i++a::xs.drop i).flatMap zq)::l) :=
 zp1 x _ ⟨some ⟨vb,0,none⟩,1,1⟩ <| by
  delta z02k AC AG AO Aa Af Aj Ak An Aw B9 Bh
  have hl:=hs.slen x (xs:=xs) (enc:=zq)
  have hcap:=hs.slc_cap
  have hcl:(xs.flatMap zq).length=xs.length*5:=z3n (enc:=zq) xs
  have hea:(zq a).length=5:=rfl
  refine wp_must (by omega) ?_
  refine wp_lt ?_
  refine z03 ?_ (by simp)
  refine wp_lt ?_
  by_cases hin:i=xs.length
  ·refine z0u ?_ (by rw [hl,hin])
   have hs2:Sat w (slc T.a35 5 ⟨some ⟨vb,0,none⟩,1,1⟩ ([a].flatMap zq)::slc T.a35 5 x (xs.flatMap zq)::l):=by
    have h:=(hs.pick [1]).slc_of (sz:=5) (n:=1) rfl
    exact h
   refine wp_app' (x:=x) (y:=⟨some ⟨vb,0,none⟩,1,1⟩) (xs:=xs) (ys:=[a]) (enc:=zq) hs2 (λz w' hs=>?_) (by simp only [List.length_cons,List.length_nil];omega)
   refine ⟨rfl,z,rfl,?_⟩
   have e:xs.take i++a::xs.drop i=xs++[a]:=by rw [hin,List.take_length,List.drop_length]
   rw [e]
   exact hs.sub
  have hil:i<xs.length:=by omega
  refine z03 ?_ (by rw [hl];omega)
  obtain ⟨b,off,ha⟩:=z00l hs (by omega)
  have hne:=z077 hs ha
  obtain ⟨arr,fr,hb,-,-,hsz,hcs⟩:=zbi hs ha
  have hv:w.heap[vb]? = some (.cells (zq a).toArray T.a35):=(hs.pick [1]).get
  have e1:IntKind.wrap .i64 (((x.len:Nat):Int)+((1:Nat):Int))=((xs.length+1:Nat):Int):=by rw [hl,w64 (by omega) (by omega)];omega
  have e2:IntKind.wrap .i64 ((i:Int)+((1:Nat):Int))=((i+1:Nat):Int):=by rw [w64 (by omega) (by omega)];omega
  have e3:IntKind.wrap .i64 (((xs.length+1:Nat):Int)-(i:Int))=((xs.length+1-i:Nat):Int):=by rw [w64 (by omega) (by omega)];omega
  simp only [e1,e2,e3,Int.toNat_natCast]
  have hfl:(xs.take i++a::xs.drop i).flatMap zq=(xs.flatMap zq).take (i*5)++zq a++(xs.flatMap zq).drop (i*5):=by
   rw [List.flatMap_append,List.flatMap_cons,z7o,za9,List.append_assoc]
  have ht:SlT P T.a42 T.a35 5 _:=inferInstance
  obtain ⟨ii,z0,hii,h5,hby,hz0,hzs⟩:=ht.parts
  have hone:∀ v ∈ xs.flatMap zq,v.oneCell'=true:=λv hv=>by
   obtain ⟨y,-,hy⟩:=List.mem_flatMap.1 hv
   exact EncN.one (enc:=zq) (sz:=5) y v hy
  have h1d:∀ v ∈ (xs.flatMap zq).drop (i*5),v.oneCell'=true:=λv hv=>hone v (List.mem_of_mem_drop hv)
  have h1a:∀ v ∈ zq a,v.oneCell'=true:=λv hv=>EncN.one (enc:=zq) (sz:=5) a v hv
  have hfa:∀ (w':World),w'.heap[vb]? = some (.cells (zq a).toArray T.a35)->(Builtin.firstCells 5 1 (.slice (some ⟨vb,0,none⟩) 1 1)).run P w'=.ok (zq a).toArray w':=λw' hv'=>by
   refine run_firstCells_some (P:=P) w' 5 1 ⟨vb,0,none⟩ 1 1 (zq a) rfl λj u hj=>?_
   rw [z23,z33 hv',Nat.zero_add]
   simpa using hj
  have hdl:((xs.flatMap zq).drop (i*5)).length=(xs.length-i)*5:=by rw [List.length_drop,hcl];omega
  by_cases hroom:xs.length+1<=x.cap
  ·refine z03 ?_ (by omega)
   refine wp_must (by omega) ?_
   refine wp_must (by omega) ?_
   have ec1:z0w x.a 5 (i+1) x.cap=some ⟨b,off+(i+1)*5,none⟩:=by unfold z0w;rw [if_neg (by omega),ha,Option.map_some,z23]
   have ec2:z0w x.a 5 i x.cap=some ⟨b,off+i*5,none⟩:=by unfold z0w;rw [if_neg (by omega),ha,Option.map_some,z23]
   simp only [ec1,ec2]
   refine ⟨(false,()),w,z06s w hne.symm hv hb (by omega),trivial,?_⟩
   refine zl ?_
   refine z0u ?_ (by simp)
   refine z02 hs λw' hs=>?_
   refine wp_must (by omega) ?_
   refine wp_must (by omega) ?_
   obtain ⟨t,htl,hs2⟩:=hs.slc_ext ha (n:=xs.length+1) (by omega) hroom
   have htl:t.length=5:=by rw [htl,hl];omega
   obtain ⟨arr2,fr2,hb2,-,-,hsz2,hcs2⟩:=zbi hs ha
   have hsrc:(Builtin.firstCells 5 (xs.length-i) (.slice (some ⟨b,off+i*5,none⟩) (xs.length+1-i) (x.cap-i))).run P w'=.ok ((xs.flatMap zq).drop (i*5)).toArray w':=by
    refine run_firstCells_some (P:=P) w' 5 (xs.length-i) ⟨b,off+i*5,none⟩ _ _ _ hdl λj u hj=>?_
    have hj2:j<((xs.flatMap zq).drop (i*5)).length:=(List.getElem?_eq_some_iff.1 hj).1
    rw [List.getElem?_drop] at hj
    rw [z23,z33 hb2,Nat.add_assoc,hcs2 (i*5+j) (by omega),hj]
   obtain ⟨w2,hrun,hs3⟩:=zeb (P:=P) (t:=T.a42) (t':=T.a42) (ty:=T.a13) (o:=(i+1)*5) (n:=xs.length-i) (dl:=xs.length+1-(i+1)) (dc:=x.cap-(i+1)) (sl:=xs.length+1-i) (sc:=x.cap-i) (x:=⟨x.a,xs.length+1,x.cap⟩) ht.ok.1 hii h5 hs2 ha (by omega) hsrc h1d (by rw [List.length_append,htl,hdl];omega)
   refine ⟨(((xs.length-i:Nat):Int),()),w2,hrun,trivial,?_⟩
   refine zl ?_
   refine ze ?_
   refine wp_must (by omega) ?_
   have hv2:w2.heap[vb]? = some (.cells (zq a).toArray T.a35):=(hs3.pick [1]).get
   obtain ⟨w3,hrun3,hs4⟩:=zeb (P:=P) (t:=T.a42) (t':=T.a42) (ty:=T.a13) (o:=i*5) (n:=1) (dl:=xs.length+1-i) (dc:=x.cap-i) (sl:=1) (sc:=1) (x:=⟨x.a,xs.length+1,x.cap⟩) ht.ok.1 hii h5 hs3 ha (by omega) (hfa w2 hv2) h1a (by rw [hea];simp only [List.length_append,List.length_take,List.length_drop,htl,hcl];omega)
   refine ⟨(((1:Nat):Int),()),w3,hrun3,trivial,?_⟩
   refine zl ?_
   refine ⟨rfl,⟨x.a,xs.length+1,x.cap⟩,rfl,?_⟩
   rw [hfl]
   have hX:((xs.flatMap zq++t).take ((i+1)*5)).length=(i+1)*5:=by rw [List.length_take,List.length_append,htl,hcl];omega
   have hE:(xs.flatMap zq++t).drop ((i+1)*5+((xs.flatMap zq).drop (i*5)).length)=[]:=List.drop_eq_nil_of_le (by rw [List.length_append,htl,hcl,hdl];omega)
   rw [hE,List.append_nil] at hs4
   have hA1:((xs.flatMap zq++t).take ((i+1)*5)++(xs.flatMap zq).drop (i*5)).take (i*5)=(xs.flatMap zq).take (i*5):=by
    rw [List.take_append_of_le_length (by rw [hX];omega),List.take_take,Nat.min_eq_left (by omega),List.take_append_of_le_length (by rw [hcl];omega)]
   have hA2:((xs.flatMap zq++t).take ((i+1)*5)++(xs.flatMap zq).drop (i*5)).drop (i*5+(zq a).length)=(xs.flatMap zq).drop (i*5):=by
    rw [List.drop_left' (by rw [hX,hea];omega)]
   rw [hA1,hA2] at hs4
   exact hs4.sub
  ·refine z0u ?_ (by omega)
   refine wp_must (by omega) ?_
   have hbytes:(xs.length+1)*ii.bytes<=140737488355328:=by rw [hby];omega
   have hs5:Sat w (slc T.a35 ii.size x (xs.flatMap zq)::pt vb (.cells (zq a).toArray T.a35)::l):=by rw [h5];exact hs
   obtain ⟨c,za,zs,w1,hrun,hcge,hzl,hs1⟩:=zyg (P:=P) (t:=T.a42) (tn:=T.a13) (ty:=T.a42) ht.ok.1 (by kernel_rfl) hii hz0 (by rw [hzs,h5]) (by omega) hs5 (n:=i) (k:=xs.length+1-i) (by omega) (by omega) (by omega) (by rw [show i+(xs.length+1-i)=xs.length+1 by omega];exact hbytes) (by omega)
   rw [h5] at hs1 hzl
   have en:i+(xs.length+1-i)=xs.length+1:=by omega
   rw [en] at hs1 hrun hcge
   refine ⟨(⟨some ⟨za,0,none⟩,xs.length+1,c⟩,()),w1,hrun,trivial,?_⟩
   refine zl ?_
   refine wp_must (by show (0:Int)<=(i:Int)/\(i:Int)<=((xs.length+1:Nat):Int);omega) ?_
   have ec1:z0w (some ⟨za,0,none⟩:Option Addr) 5 i c=some ⟨za,0+i*5,none⟩:=by unfold z0w;rw [if_neg (by omega),Option.map_some,z23]
   have ec2:z0w (some ⟨za,0,none⟩:Option Addr) 5 (i+1) c=some ⟨za,0+(i+1)*5,none⟩:=by unfold z0w;rw [if_neg (by omega),Option.map_some,z23]
   have ec3:z0w x.a 5 i x.cap=some ⟨b,off+i*5,none⟩:=by unfold z0w;rw [if_neg (by omega),ha,Option.map_some,z23]
   simp only [ec1,ec2,ec3]
   have hv1:w1.heap[vb]? = some (.cells (zq a).toArray T.a35):=(hs1.pick [2]).get
   have htk:((xs.flatMap zq).take (i*5)).length=i*5:=by rw [List.length_take,hcl];omega
   obtain ⟨w2,hrun2,hs2⟩:=zeb (P:=P) (t:=T.a42) (t':=T.a42) (ty:=T.a13) (o:=i*5) (n:=1) (dl:=xs.length+1-i) (dc:=c-i) (sl:=1) (sc:=1) (x:=⟨some ⟨za,0,none⟩,xs.length+1,c⟩) ht.ok.1 hii h5 hs1 rfl (by omega) (hfa w1 hv1) h1a (by rw [hea,List.length_append,htk,hzl];omega)
   refine ⟨(((1:Nat):Int),()),w2,hrun2,trivial,?_⟩
   refine zl ?_
   refine z02 hs2 λw3 hs3=>?_
   refine wp_must (by show (0:Int)<=((i+1:Nat):Int)/\((i+1:Nat):Int)<=((xs.length+1:Nat):Int);omega) ?_
   refine wp_must (by omega) ?_
   obtain ⟨arr2,fr2,hb2,-,-,hsz2,hcs2⟩:=zbi (hs3.pick [1]) ha
   have hsrc:(Builtin.firstCells 5 (xs.length-i) (.slice (some ⟨b,off+i*5,none⟩) (x.len-i) (x.cap-i))).run P w3=.ok ((xs.flatMap zq).drop (i*5)).toArray w3:=by
    refine run_firstCells_some (P:=P) w3 5 (xs.length-i) ⟨b,off+i*5,none⟩ _ _ _ hdl λj u hj=>?_
    have hj2:j<((xs.flatMap zq).drop (i*5)).length:=(List.getElem?_eq_some_iff.1 hj).1
    rw [List.getElem?_drop] at hj
    rw [z23,z33 hb2,Nat.add_assoc,hcs2 (i*5+j) (by omega),hj]
   obtain ⟨w4,hrun4,hs4⟩:=zeb (P:=P) (t:=T.a42) (t':=T.a42) (ty:=T.a13) (o:=(i+1)*5) (n:=xs.length-i) (dl:=xs.length+1-(i+1)) (dc:=c-(i+1)) (sl:=x.len-i) (sc:=x.cap-i) (x:=⟨some ⟨za,0,none⟩,xs.length+1,c⟩) ht.ok.1 hii h5 hs3 rfl (by omega) hsrc h1d (by simp only [List.length_append,List.length_take,List.length_drop,hzl,hcl,hea];omega)
   refine ⟨(((xs.length-i:Nat):Int),()),w4,hrun4,trivial,?_⟩
   refine zl ?_
   refine ze ?_
   refine ⟨rfl,⟨some ⟨za,0,none⟩,xs.length+1,c⟩,rfl,?_⟩
   rw [hfl]
   have hA1:((xs.flatMap zq).take (i*5)++zs).take (i*5)=(xs.flatMap zq).take (i*5):=List.take_left' htk
   rw [hA1] at hs4
   have hA2:((xs.flatMap zq).take (i*5)++zq a++((xs.flatMap zq).take (i*5)++zs).drop (i*5+(zq a).length)).take ((i+1)*5)=(xs.flatMap zq).take (i*5)++zq a:=List.take_left' (by rw [List.length_append,htk,hea];omega)
   have hA3:((xs.flatMap zq).take (i*5)++zq a++((xs.flatMap zq).take (i*5)++zs).drop (i*5+(zq a).length)).drop ((i+1)*5+((xs.flatMap zq).drop (i*5)).length)=[]:=List.drop_eq_nil_of_le (by simp only [List.length_append,List.length_take,List.length_drop,hzl,hcl,hea];omega)
   rw [hA2,hA3,List.append_nil] at hs4
   exact hs4.sub
def z062 (C:TbC) (a:AtM):Bool:=true
def z8j (C:TbC) (xs:List AtM):Bool:=true
theorem z03w (xs:List AtM) (C:TbC) (i:Nat) (h:i<xs.length) (_:z8j C xs=true):z062 ((xs.take i).foldl z21 C) xs[i]=true:=rfl
set_option maxHeartbeats 1000000 in
theorem z05z (a:AtM) (he:z062 C a=true) (hlo : -9223372036854775808<=a.off) (hhi:a.off<=1099511627776) (hlen:C.l.length<1000000000) [hf:Fo l tbC t C r] (hs:Sat w l) :
  Ret P F.a11 #[.pointer (some ⟨t,0,none⟩),.agg (zq a).toArray] w λvs w'=>vs=[]/\Sat w' (tbC t (z21 C a)::r) :=
 zto _ a.off a.r.key a.r.value a.r.gone a.r.time <| by
  delta z07p AC AD AG AH AI AO AP AT AX AY AZ Aa Af Ah Ai Aj Ak Al An Aw Ax Bo Bp Bq Br
  refine zr (hs.perm hf.perm) λa0 w' hs=>?_
  clear hf
  refine zb hs ?_
  refine z8 (z018 (t:=t) (C:=C) a.r.key hs) λ_ w' hs=>?_
  obtain ⟨rfl,hs⟩:=hs
  refine ⟨(((z0g C.l a.r.key:Nat):Int),z38 C.l a.r.key,()),rfl,trivial,z1v _ _ ?_⟩
  refine wp_lt ?_
  refine wp_lt ?_
  refine zb hs ?_
  refine wp_lt ?_
  obtain ⟨z,hok,hs⟩:=z7g hs
  have hl:=hs.slen z (xs:=C.l) (enc:=zq)
  have hokS:z66 (z21 C a).l/\(z21 C a).l.length<=1000000000:=⟨zge a hok.1,by have:=zri C a;omega⟩
  refine zm (λq w'=>∃ z':Sl,Sat w' (pt a0 (.cells #[.int .i64 a.off,.string a.r.key,.string a.r.value,.bool a.r.gone,.int .i64 a.r.time] T.a35)::pt t (.cells #[.int .i64 C.next,.slice z'.a z'.len z'.cap] T.a4)::slc T.a35 5 z' ((z21 C a).l.flatMap zq)::r)) ?_ ?_
  rotate_left
  ·rintro _ w2 ⟨z',hs⟩
   refine zl ?_
   refine zb hs ?_
   refine zi ?_
   rw [w64 (by omega) (by omega)]
   refine z08 hs λw' hs=>?_
   have hs:Sat w' (pt t (.cells #[.int .i64 (z21 C a).next,.slice z'.a z'.len z'.cap] T.a4)::pt a0 (.cells #[.int .i64 a.off,.string a.r.key,.string a.r.value,.bool a.r.gone,.int .i64 a.r.time] T.a35)::slc T.a35 5 z' ((z21 C a).l.flatMap zq)::r):=hs
   exact ⟨rfl,rfl,z50 (z21 C a) (z:=z') hokS hs.sub⟩
  by_cases ht:z38 C.l a.r.key=true
  ·obtain ⟨hi,hk⟩:=z5n.1 ht
   by_cases hg:a.r.gone=true
   ·refine z0u ?_ ⟨ht,hg⟩
    have e:(z21 C a).l=C.l.take (z0g C.l a.r.key)++C.l.drop (z0g C.l a.r.key+1):=by unfold z21;rw [if_pos ht,if_pos hg]
    refine zi ?_
    refine zb hs ?_
    rw [show IntKind.wrap .i64 (((z0g C.l a.r.key:Nat):Int)+1)=((z0g C.l a.r.key+1:Nat):Int) by rw [w64 (by omega) (by omega)];omega]
    have hs:=hs.pick [1]
    refine z8 (zw2 z C.l (z0g C.l a.r.key) hi hok.2 hs) λ_ w' hs=>?_
    obtain ⟨z2,rfl,hs⟩:=hs
    refine zd ?_
    refine zi ?_
    refine z08 hs λw' hs=>?_
    refine zg ⟨z2,?_⟩
    rw [e]
    exact hs.sub
   ·have hg:a.r.gone=false:=by simpa using hg
    refine z03 ?_ (by rw [hg];simp)
    have e:(z21 C a).l=C.l.set (z0g C.l a.r.key) a:=by unfold z21;rw [if_pos ht,if_neg (by rw [hg];simp)]
    refine wp_lt ?_
    refine zm (λq w'=>Sat w' (pt a0 (.cells #[.int .i64 a.off,.string a.r.key,.string a.r.value,.bool a.r.gone,.int .i64 a.r.time] T.a35)::pt t (.cells #[.int .i64 C.next,.slice z.a z.len z.cap] T.a4)::slc T.a35 5 z ((C.l.set (z0g C.l a.r.key) a).flatMap zq)::r)) ?_ ?_
    rotate_left
    ·rintro _ w2 hs
     refine zl ?_
     refine zg ⟨z,?_⟩
     rw [e];exact hs.sub
    refine z0u ?_ ht
    refine z02 hs λw' hs=>?_
    refine zi ?_
    refine zb hs ?_
    refine zj hs ?_
    refine z05l hs (xs:=C.l) (enc:=zq) (z0g C.l a.r.key) hi a λw' hs=>?_
    refine ze ?_
    exact zg hs.sub
  have ht:z38 C.l a.r.key=false:=by simpa using ht
  refine z03 ?_ (by rw [ht];simp)
  refine wp_lt ?_
  refine zm (λq w'=>∃ z':Sl,Sat w' (pt a0 (.cells #[.int .i64 a.off,.string a.r.key,.string a.r.value,.bool a.r.gone,.int .i64 a.r.time] T.a35)::pt t (.cells #[.int .i64 C.next,.slice z'.a z'.len z'.cap] T.a4)::slc T.a35 5 z' ((z21 C a).l.flatMap zq)::r)) ?_ ?_
  rotate_left
  ·rintro _ w2 ⟨z',hs⟩
   refine zl ?_
   exact zg ⟨z',hs⟩
  refine z03 ?_ (by rw [ht];simp)
  refine zb hs ?_
  refine wp_lt ?_
  refine zm (λq w'=>∃ z':Sl,Sat w' (pt a0 (.cells #[.int .i64 a.off,.string a.r.key,.string a.r.value,.bool a.r.gone,.int .i64 a.r.time] T.a35)::pt t (.cells #[.int .i64 C.next,.slice z'.a z'.len z'.cap] T.a4)::slc T.a35 5 z' ((z21 C a).l.flatMap zq)::r)) ?_ ?_
  rotate_left
  ·rintro _ w2 ⟨z',hs⟩
   refine zl ?_
   exact zg ⟨z',hs⟩
  by_cases hg:a.r.gone=true
  ·refine z03 ?_ (by rw [hg];simp)
   have e:(z21 C a).l=C.l:=by unfold z21;rw [if_neg (by rw [ht];simp),if_pos hg]
   refine zg ⟨z,?_⟩
   rw [e];exact hs.sub
  ·have hg:a.r.gone=false:=by simpa using hg
   refine z0u ?_ (by rw [hg];simp)
   have e:(z21 C a).l=C.l.take (z0g C.l a.r.key)++a::C.l.drop (z0g C.l a.r.key):=by
    unfold z21
    rw [if_neg (by rw [ht];simp),if_neg (by rw [hg];simp)]
   refine zm (λq w'=>∃ z':Sl,Sat w' (pt a0 (.cells #[.int .i64 a.off,.string a.r.key,.string a.r.value,.bool a.r.gone,.int .i64 a.r.time] T.a35)::pt t (.cells #[.int .i64 C.next,.slice z'.a z'.len z'.cap] T.a4)::slc T.a35 5 z' ((z21 C a).l.flatMap zq)::r)) ?_ ?_
   rotate_left
   ·rintro _ w2 ⟨z',hs⟩
    refine zl ?_
    exact zg ⟨z',hs⟩
   refine z02 hs λw' hs=>?_
   refine zi ?_
   refine z0s hs ?_
   refine zj hs ?_
   refine z07i hs (el:=T.a35) (cells:=(zq a).toArray) λvb w' hs=>⟨(by first|trivial|(repeat (first|exact trivial|exact λ_=>z07 hs|exact λ_=>z0d hs|refine And.intro ?_ ?_))),?_⟩
   refine ze ?_
   have hs:Sat w' (slc T.a35 5 z (C.l.flatMap zq)::pt vb (.cells (zq a).toArray T.a35)::pt a0 (.cells #[.int .i64 a.off,.string a.r.key,.string a.r.value,.bool a.r.gone,.int .i64 a.r.time] T.a35)::pt t (.cells #[.int .i64 C.next,.slice z.a z.len z.cap] T.a4)::r):=hs.sub
   refine z8 (z03o z C.l a (z0g C.l a.r.key) (zi5 ..) hok.2 hs) λ_ w' hs=>?_
   obtain ⟨z2,rfl,hs⟩:=hs
   refine zd ?_
   refine zi ?_
   refine z08 hs λw' hs=>?_
   refine ze ?_
   refine zg ⟨z2,?_⟩
   rw [e]
   exact hs.sub
theorem zrc:∀ (xs:List AtM) (f:Int),z1j f xs=true->∀ a ∈ xs,∀ b,xs.getLast? = some b->a.off<=b.off
 | [],f,_,a,ha,_,_=>by cases ha
 | x::xs,f,h,a,ha,b,hb=>by
  have h:(if x.off<f then false else z1j (x.off+1) xs)=true:=h
  by_cases hx:x.off<f
  ·rw [if_pos hx] at h;cases h
  rw [if_neg hx] at h
  cases xs with
  | nil =>
   simp at ha hb
   subst ha hb
   omega
  | cons y ys =>
   rw [List.getLast?_cons_cons] at hb
   have ih:=zrc (y::ys) (x.off+1) h
   rcases List.mem_cons.1 ha with rfl|ha
   ·have h1:y.off<=b.off:=ih y (List.mem_cons_self ..) b hb
    have h2:(if y.off<a.off+1 then false else z1j (y.off+1) ys)=true:=h
    by_cases hy:y.off<a.off+1
    ·rw [if_pos hy] at h2;cases h2
    ·omega
   ·exact ih a ha b hb
set_option maxHeartbeats 1000000 in
theorem zlf (x:Sl) (xs:List AtM) (hlo:∀ a ∈ xs,-9223372036854775808<=a.off) (he:z8j C xs=true) (hlen:C.l.length+xs.length<=1000000000) [hf:Fo l tbC t C r] [hx:FocR r x 5 (xs.flatMap zq)] (hs:Sat w l) :
  Ret P F.a4 #[.pointer (some ⟨t,0,none⟩),x.v] w λvs w'=>vs=[.int .i64 (z3g C xs).1]/\Sat w' (tbC t (z3g C xs).2::r) :=
 zy6 _ x <| by
  delta zf3 AP AS AY AZ Aa Ab Ac Ah Aj Ak Al Am An Ao Av Aw Bh Bn Bo;unfold z3g
  have hs:=hs.perm hf.perm
  clear hf
  refine wp_lt ?_
  refine z03 ?_ (by simp)
  obtain ⟨z,hok,hs⟩:=z7g hs
  have hl:=hs.slen x (xs:=xs) (enc:=zq)
  refine zi ?_
  refine zb hs ?_
  refine z8 (z03r C.next x xs (by omega) hs) λ_ w' hs=>?_
  obtain ⟨rfl,hs⟩:=hs
  refine zd ?_
  have hgl:∀ h0:0<xs.length,xs.getLast? = some (xs[xs.length-1]'(by omega)):=λh0=>by
   rw [List.getLast?_eq_getElem?,List.getElem?_eq_getElem (by omega)]
  refine z7h (xs:=xs) (enc:=zq) hs (orC xs.getLast?).off (λhg=>?_) ?_
  ·have h0:0<xs.length:=by have:=hg.2;rw [hl] at this;simp at this;omega
   exact ⟨xs.length-1,by omega,by rw [hl,w64 (by omega) (by omega)];omega,by rw [hgl h0];rfl⟩
  refine wp_lt ?_
  have hcond:(!z1j C.next xs || (decide (((x.len:Nat):Int)>0) && decide ((orC xs.getLast?).off>1099511627776)))=true↔(z1j C.next xs=false\/z8m xs=true):=by
   rw [hl]
   unfold z8m
   by_cases h0:xs.length=0
   ·have e:xs=[]:=List.length_eq_zero_iff.1 h0
    subst e
    simp
   ·rw [hgl (by omega)]
    rw [decide_eq_true (by omega:((xs.length:Nat):Int)>0)]
    show (!z1j C.next xs || (true && decide ((xs[xs.length-1]'(by omega)).off>1099511627776)))=true↔(z1j C.next xs=false\/decide ((xs[xs.length-1]'(by omega)).off>1099511627776)=true)
    simp
  by_cases hc:z1j C.next xs=false\/z8m xs=true
  ·rw [if_pos hc]
   refine z6s (hcond.2 hc) ?_
   exact ⟨rfl,rfl,z50 C (z:=z) hok hs⟩
  rw [if_neg hc]
  refine z3p (by cases hh:(!z1j C.next xs || (decide (((x.len:Nat):Int)>0) && decide ((orC xs.getLast?).off>1099511627776))) with|false=>rfl|true=>exact absurd (hcond.1 hh) hc) ?_
  have hrise:z1j C.next xs=true:=by
   cases h:z1j C.next xs with
   | true=>rfl
   | false=>exact absurd (.inl h) hc
  have hhi:∀ a ∈ xs,a.off<=1099511627776:=λa ha=>by
   have h0:0<xs.length:=by
    rcases Nat.eq_zero_or_pos xs.length with h|h
    ·rw [List.length_eq_zero_iff.1 h] at ha;cases ha
    ·exact h
   have h1:=zrc xs C.next hrise a ha _ (hgl h0)
   have h2:¬ z8m xs=true:=λh=>hc (.inr h)
   unfold z8m at h2
   rw [hgl h0] at h2
   have h2:¬ decide ((xs[xs.length-1]'(by omega)).off>1099511627776)=true:=h2
   rw [decide_eq_true_iff] at h2
   omega
  have hs:Sat w' (tbC t C::r):=z50 C (z:=z) hok hs
  refine zm (λq w'=>Sat w' (tbC t (xs.foldl z21 C)::r)) ?_ ?_
  rotate_left
  ·rintro _ w2 hs
   refine zl ?_
   exact ⟨rfl,rfl,hs⟩
  refine z0c (λm q w=>∃ i:Nat,q=((i:Int),())/\i<=xs.length/\xs.length-i=m/\Sat w (tbC t ((xs.take i).foldl z21 C)::r)) xs.length ⟨0,rfl,by omega,rfl,hs⟩ ?_
  clear hs
  rintro m _ w ⟨i,rfl,hi,hm,hs⟩
  refine zl ?_
  refine zf (λhc2=>?_) λhc2=>?_
  rotate_left
  ·rw [List.take_of_length_le (by omega)] at hs
   exact zn (zg hs)
  have hil:i<xs.length:=by omega
  have htk:xs.take (i+1)=xs.take i++[xs[i]]:=by rw [List.take_add_one,List.getElem?_eq_getElem hil,Option.toList_some]
  refine z2v hs i hil ?_
  refine zt hs λa17 w' hs=>?_
  refine zv hs λw' hs=>?_
  refine zj hs ?_
  have hs:=hs.pick [1]
  refine z8 (z05z (t:=t) (C:=(xs.take i).foldl z21 C) xs[i] (z03w xs C i hil he) (hlo _ (List.getElem_mem hil)) (hhi _ (List.getElem_mem hil)) (by have:=zc9 (xs.take i) C;rw [List.length_take] at this;omega) hs) λ_ w' hs=>?_
  obtain ⟨rfl,hs⟩:=hs
  refine zd ?_
  refine z29 (us':=[.int .i64 ((i+1:Nat):Int)]) (by (try simp (disch:=omega) only [w64]);first|rfl|(congr;omega)) ?_
  refine z0z (xs.length-(i+1)) ⟨i+1,rfl,by omega,rfl,?_⟩
  rw [htk,List.foldl_append,List.foldl_cons,List.foldl_nil]
  exact hs.sub
end
abbrev LedA:=PartA × TbC
def leP (b:Nat) (M:LedA):HP:=HP.ex λq:Nat × Nat=>HP.star (pt b (.cells #[.pointer (some ⟨q.1,0,none⟩),.pointer (some ⟨q.2,0,none⟩)] T.a19)) (HP.star (tbC q.1 M.2) (paP q.2 M.1))
def z0v (M:LedA) (D:DiskA) (b:BatM):Int × LedA × DiskA :=
 if (z0j M.1 D b).1.2.2≠0 then ((z0j M.1 D b).1.2.2,((z0j M.1 D b).2.1,M.2),(z0j M.1 D b).2.2)
 else (0,((z0j M.1 D b).2.1,(z3g M.2 (z0r (b.to (z0j M.1 D b).1.1))).2),(z0j M.1 D b).2.2)
def z01 (time:Int) (x:Sl) (rs:List RecM):BatM:=⟨0,0,0,0,0,time,x,rs⟩
def z1u (k v:ByteArray) (time:Int):RecM:=⟨k,v,false,time⟩
def z3h (k:ByteArray) (time:Int):RecM:=⟨k,ByteArray.mk #[],true,time⟩
theorem zlu {b:BatM}:∀ a ∈ z0r b,-9223372036854775808<=a.off:=λa ha=>by
 unfold z0r at ha
 split at ha
 ·cases ha
 ·obtain ⟨i,hi,rfl⟩:=List.mem_mapIdx.1 ha
  show -9223372036854775808<=IntKind.wrap .i64 _
  rw [ziu]
  split <;> omega
theorem zwc (C:TbC) (k:ByteArray) (time n:Int) (x:Sl):z8j C (z0r ((z01 time x [z3h k time]).to n))=true:=rfl
section
variable {w:World} {l r r1 r2 r3 l':List HP} {b d t p:Nat} {M:LedA} {D:DiskA}
theorem z9c (hs:Sat w (leP b M::l)):∃ t p:Nat,Sat w (pt b (.cells #[.pointer (some ⟨t,0,none⟩),.pointer (some ⟨p,0,none⟩)] T.a19)::tbC t M.2::paP p M.1::l):=by
 obtain ⟨⟨t,p⟩,hs⟩:=hs.ex
 have hs:=hs.star
 have hs:=(hs.pick [1]).star
 exact ⟨t,p,hs.pick [2]⟩
theorem z0a3 (t p:Nat) (hs:Sat w (pt b (.cells #[.pointer (some ⟨t,0,none⟩),.pointer (some ⟨p,0,none⟩)] T.a19)::tbC t M.2::paP p M.1::l)):Sat w (leP b M::l):=by
 have h1:=(hs.pick [1,1]).star_mk
 exact .ex_mk (t,p) ((h1.pick [1]).star_mk)
theorem z6k (M:LedA) (hs:Sat w l) [h1:FocB l b (.cells [.pointer (some ⟨t,0,none⟩),.pointer (some ⟨p,0,none⟩)].toArray T.a19) r1] [h2:Fo r1 tbC t M.2 r2] [h3:Fo r2 paP p M.1 r3] [h4:Sub r3 l']:Sat w (leP b M::l'):=by
 have hs:=hs.perm (h1.perm.trans (.cons _ (h2.perm.trans (.cons _ h3.perm))))
 have hs:Sat w (leP b M::r3):=z0a3 t p hs
 exact hs.sub
theorem zic (k:ByteArray) [hf:Fo l leP b M r] (hs:Sat w l):Ret P F.a68 #[.pointer (some ⟨b,0,none⟩),.string k] w λvs w'=>vs=[.string (orC (z24 M.2.l k)).r.value,.bool (z24 M.2.l k).isSome]/\Sat w' (leP b M::r) :=
 zv3 _ k <| by
  delta z092 AB AD AU AY AZ Ab Ac Ah Aj Ak Ax
  obtain ⟨t,p,hs⟩:=z9c (hs.perm hf.perm)
  refine z03 ?_ (by simp)
  refine zi ?_
  refine zb hs ?_
  refine z8 (zw4 (t:=t) (C:=M.2) k hs) λ_ w' hs=>?_
  obtain ⟨rfl,hs⟩:=hs
  refine ⟨((orC (z24 M.2.l k)).off,(orC (z24 M.2.l k)).r.key,(orC (z24 M.2.l k)).r.value,(orC (z24 M.2.l k)).r.gone,(orC (z24 M.2.l k)).r.time,(z24 M.2.l k).isSome,()),rfl,trivial,z01g _ _ _ _ _ _ ?_⟩
  refine zt hs λa9 w' hs=>?_
  refine zv hs λw' hs=>?_
  refine wp_lt ?_
  refine zb hs ?_
  refine wp_lt ?_
  refine wp_lt ?_
  exact ⟨rfl,rfl,z6k M hs⟩
theorem zid [hf:Fo l leP b M r] (hs:Sat w l):Ret P F.a69 #[.pointer (some ⟨b,0,none⟩)] w λvs w'=>vs=[.int .i64 (M.2.l.length:Nat)]/\Sat w' (leP b M::r) :=
 zv4 _ <| by
  delta z093 AA AB AY Aa Af Ah Aj Ak
  obtain ⟨t,p,hs⟩:=z9c (hs.perm hf.perm)
  refine z03 ?_ (by simp)
  refine zi ?_
  refine zb hs ?_
  refine z8 (z05x (t:=t) (C:=M.2) hs) λ_ w' hs=>?_
  obtain ⟨rfl,hs⟩:=hs
  refine zd ?_
  refine wp_lt ?_
  exact ⟨rfl,rfl,z6k M hs⟩
set_option maxHeartbeats 1000000 in
theorem zib (time:Int) (x:Sl) (rs:List RecM) {r1:List HP} [hf:Fo l leP b M r1] [hf2:Fo r1 dk M.1.L.d D r] (hb:FocR r x 4 (rs.flatMap zu)) (h:Cpl M.1.L.pre M.1.L.l D) (hr:rs.length<=1000) (hn:M.2.l.length<=100000000) (hends:(z0j M.1 D (z01 time x rs)).1.2.2=0->z8j M.2 (z0r ((z01 time x rs).to (z0j M.1 D (z01 time x rs)).1.1))=true) (hs:Sat w l) :
  Ret P F.a66 #[.pointer (some ⟨b,0,none⟩),.int .i64 time,x.v] w λvs w'=>vs=[.int .i64 (z0v M D (z01 time x rs)).1]/\Sat w' (leP b (z0v M D (z01 time x rs)).2.1::dk M.1.L.d (z0v M D (z01 time x rs)).2.2::r) :=
 zv1 _ time x <| by
  delta z090 AA AB AC AG AH AO AT AY Aa Ab Ac Af Ah Aj Ak Al Ax Ba Bb Bc;unfold z0v
  have hs:=hs.perm (hf.perm.trans (.cons _ hf2.perm))
  clear hf hf2
  obtain ⟨t,p,hs⟩:=z9c hs
  refine z03 ?_ (by simp)
  refine zt hs λa0 w' hs=>?_
  refine zv hs λw' hs=>?_
  refine z02 hs λw' hs=>?_
  refine zi ?_
  refine zb hs ?_
  refine zj hs ?_
  have hb0:FocR (pt b (.cells #[.pointer (some ⟨t,0,none⟩),.pointer (some ⟨p,0,none⟩)] T.a19)::tbC t M.2::pt a0 (.cells #[.int .i64 0,.int .i64 0,.int .i64 0,.int .i64 0,.int .i64 0,.int .i64 time,.slice x.a x.len x.cap] T.a0)::r) (z01 time x rs).x 4 ((z01 time x rs).rs.flatMap zu) :=
   (inferInstance:FocR (pt b (.cells #[.pointer (some ⟨t,0,none⟩),.pointer (some ⟨p,0,none⟩)] T.a19)::tbC t M.2::pt a0 (.cells #[.int .i64 0,.int .i64 0,.int .i64 0,.int .i64 0,.int .i64 0,.int .i64 time,.slice x.a x.len x.cap] T.a0)::r) x 4 (rs.flatMap zu))
  have hs:Sat w' (paP p M.1::dk M.1.L.d D::pt b (.cells #[.pointer (some ⟨t,0,none⟩),.pointer (some ⟨p,0,none⟩)] T.a19)::tbC t M.2::pt a0 (.cells #[.int .i64 0,.int .i64 0,.int .i64 0,.int .i64 0,.int .i64 0,.int .i64 time,.slice x.a x.len x.cap] T.a0)::r):=hs.sub
  refine z8 (z06t (p:=p) (A:=M.1) (D:=D) (z01 time x rs) hb0 h (by show rs.length<=_;omega) rfl hs) λ_ w' hs=>?_
  obtain ⟨rfl,hs⟩:=hs
  have hd:=(z01b M.1 D (z01 time x rs)).1
  generalize hq:z0j M.1 D (z01 time x rs)=q at *
  obtain ⟨⟨n,again,e⟩,A',D'⟩:=q
  simp only at hs hd hends ⊢
  refine ⟨(n,again,e,()),rfl,trivial,zek _ _ _ ?_⟩
  refine wp_lt ?_
  refine wp_lt ?_
  refine wp_lt ?_
  refine ze ?_
  refine zf (λhe=>?_) λhe=>?_
  ·have he:e≠0:=by simpa using he
   rw [if_pos he]
   refine wp_lt ?_
   exact ⟨rfl,rfl,z6k (t:=t) (p:=p) (A',M.2) hs⟩
  have he:e=0:=by simpa using he
  subst he
  rw [if_neg (by simp)]
  refine z08 hs λw' hs=>?_
  have hs:Sat w' (pt a0 (.cells #[.int .i64 n,.int .i64 0,.int .i64 0,.int .i64 0,.int .i64 0,.int .i64 time,.slice x.a x.len x.cap] T.a0)::_):=hs
  refine zm (λq w'=>Sat w' (pt b (.cells #[.pointer (some ⟨t,0,none⟩),.pointer (some ⟨p,0,none⟩)] T.a19)::tbC t (z3g M.2 (z0r ((z01 time x rs).to n))).2::paP p A'::dk M.1.L.d D'::r)) ?_ ?_
  rotate_left
  ·rintro _ w2 hs
   refine zl ?_
   exact ⟨rfl,rfl,z6k (t:=t) (p:=p) (A',(z3g M.2 (z0r ((z01 time x rs).to n))).2) hs⟩
  refine z02 hs λw' hs=>?_
  refine zi ?_
  refine z0s hs ?_
  refine zj hs ?_
  refine z61 hs (enc:=z00) [(z01 time x rs).to n] λy w' hs=>⟨(by first|trivial|(repeat (first|exact trivial|exact λ_=>z07 hs|exact λ_=>z0d hs|refine And.intro ?_ ?_))),?_⟩
  refine z8 (zwj y [(z01 time x rs).to n] (λb' hb'=>by
   rw [List.mem_singleton.1 hb']
   show FocR _ x 4 (rs.flatMap zu)
   infer_instance) (by simp) (λb' hb'=>by rw [List.mem_singleton.1 hb'];exact hr) hs) λ_ w' hs=>?_
  obtain ⟨z,rfl,hs⟩:=hs
  refine zd ?_ (by first|trivial|(repeat (first|exact trivial|exact λ_=>z07 hs|exact λ_=>z0d hs|refine And.intro ?_ ?_)))
  refine ze ?_
  have e:z18 [(z01 time x rs).to n]=z0r ((z01 time x rs).to n):=by simp [z18]
  rw [e] at hs
  have hs:Sat w' (tbC t M.2::slc T.a35 5 z ((z0r ((z01 time x rs).to n)).flatMap zq)::pt b (.cells #[.pointer (some ⟨t,0,none⟩),.pointer (some ⟨p,0,none⟩)] T.a19)::paP p A'::dk M.1.L.d D'::r):=hs.sub
  refine z8 (zlf (t:=t) (C:=M.2) z (z0r ((z01 time x rs).to n)) zlu (hends rfl) (by have:=zab ((z01 time x rs).to n);have:((z01 time x rs).to n).rs.length=rs.length:=rfl;omega) hs) λ_ w' hs=>?_
  obtain ⟨rfl,hs⟩:=hs
  refine zd ?_
  refine ze ?_
  exact zg hs.sub
theorem zbd (k v:ByteArray) (time:Int) {r1:List HP} [hf:Fo l leP b M r1] [hf2:Fo r1 dk M.1.L.d D r] (h:Cpl M.1.L.pre M.1.L.l D) (hn:M.2.l.length<=100000000) (he:∀ x,(z0j M.1 D (z01 time x [z1u k v time])).1.2.2=0->z8j M.2 (z0r ((z01 time x [z1u k v time]).to (z0j M.1 D (z01 time x [z1u k v time])).1.1))=true) (hs:Sat w l) :
  Ret P F.a71 #[.pointer (some ⟨b,0,none⟩),.string k,.string v,.int .i64 time] w λvs w'=>∃ x:Sl,vs=[.int .i64 (z0v M D (z01 time x [z1u k v time])).1]/\Sat w' (leP b (z0v M D (z01 time x [z1u k v time])).2.1::dk M.1.L.d (z0v M D (z01 time x [z1u k v time])).2.2::r) :=
 zv6 _ k v time <| by
  delta z095 AA AM AO Aa Af Ah Ak
  have hs:=hs.perm (hf.perm.trans (.cons _ hf2.perm))
  clear hf hf2
  refine zei hs (enc:=zu) [z1u k v time] λx w' hs=>?_
  have hs:Sat w' (leP b M::dk M.1.L.d D::slc T.a2 4 x ([z1u k v time].flatMap zu)::r):=hs.sub
  refine z8 (zib (b:=b) (M:=M) (D:=D) time x [z1u k v time] inferInstance h (by simp) hn (he x) hs) λ_ w' hs=>?_
  obtain ⟨rfl,hs⟩:=hs
  refine zd ?_
  refine wp_lt ?_
  exact ⟨rfl,x,rfl,hs.sub⟩
theorem zg4 (k:ByteArray) (time:Int) {r1:List HP} [hf:Fo l leP b M r1] [hf2:Fo r1 dk M.1.L.d D r] (h:Cpl M.1.L.pre M.1.L.l D) (hn:M.2.l.length<=100000000) (hs:Sat w l) :
  Ret P F.a67 #[.pointer (some ⟨b,0,none⟩),.string k,.int .i64 time] w λvs w'=>(z24 M.2.l k=none/\vs=[.int .i64 3]/\Sat w' (leP b M::dk M.1.L.d D::r)) \/
   ((z24 M.2.l k).isSome=true/\∃ x:Sl,vs=[.int .i64 (z0v M D (z01 time x [z3h k time])).1]/\Sat w' (leP b (z0v M D (z01 time x [z3h k time])).2.1::dk M.1.L.d (z0v M D (z01 time x [z3h k time])).2.2::r)) :=
 zv2 _ k time <| by
  delta z091 AA AB AO AY AZ Aa Ab Ac Af Ah Aj Ak Ax
  have hs:=hs.perm (hf.perm.trans (.cons _ hf2.perm))
  clear hf hf2
  obtain ⟨t,p,hs⟩:=z9c hs
  refine z03 ?_ (by simp)
  refine zi ?_
  refine zb hs ?_
  refine z8 (zw4 (t:=t) (C:=M.2) k hs) λ_ w' hs=>?_
  obtain ⟨rfl,hs⟩:=hs
  refine ⟨((orC (z24 M.2.l k)).off,(orC (z24 M.2.l k)).r.key,(orC (z24 M.2.l k)).r.value,(orC (z24 M.2.l k)).r.gone,(orC (z24 M.2.l k)).r.time,(z24 M.2.l k).isSome,()),rfl,trivial,z01g _ _ _ _ _ _ ?_⟩
  refine zt hs λa9 w' hs=>?_
  refine zv hs λw' hs=>?_
  refine wp_lt ?_
  have hs:Sat w' (leP b M::dk M.1.L.d D::r):=z6k (t:=t) (p:=p) M hs
  by_cases hg:z24 M.2.l k=none
  ·refine z0u ?_ (by rw [hg];simp)
   exact ⟨rfl,.inl ⟨hg,rfl,hs⟩⟩
  have hg:(z24 M.2.l k).isSome=true:=by
   cases hq:z24 M.2.l k with
   | none=>exact absurd hq hg
   | some _=>rfl
  refine z03 ?_ (by rw [hg];simp)
  refine zei hs (enc:=zu) [z3h k time] λx w' hs=>?_
  have hs:Sat w' (leP b M::dk M.1.L.d D::slc T.a2 4 x ([z3h k time].flatMap zu)::r):=hs.sub
  refine z8 (zib (b:=b) (M:=M) (D:=D) time x [z3h k time] inferInstance h (by simp) hn (λ_=>zwc _ _ _ _ _) hs) λ_ w' hs=>?_
  obtain ⟨rfl,hs⟩:=hs
  refine zd ?_
  refine wp_lt ?_
  exact ⟨rfl,.inr ⟨hg,x,rfl,hs.sub⟩⟩
def z2i:List BatM->Nat
 | []=>0
 | b::bs=>b.rs.length+z2i bs
def zn4 (M:LedA):Int:=(z2i (z04 M.1.L.l):Nat)-(M.2.l.length:Nat)
theorem zlj:∀ bs:List BatM,z2i (bs.map BatM.p)=z2i bs
 | []=>rfl
 | b::bs=>by
  rw [List.map_cons]
  show b.rs.length+z2i (bs.map BatM.p)=b.rs.length+z2i bs
  rw [zlj bs]
theorem zgr:∀ xs ys:List BatM,z2i (xs++ys)=z2i xs+z2i ys
 | [],ys=>by rw [List.nil_append];show _=0+_;omega
 | x::xs,ys=>by
  rw [List.cons_append]
  show x.rs.length+z2i (xs++ys)=x.rs.length+z2i xs+z2i ys
  rw [zgr xs ys];omega
theorem zj4 {n:Nat}:∀ bs:List BatM,(∀ b ∈ bs,b.rs.length<=n)->z2i bs<=bs.length*n
 | [],_=>Nat.zero_le _
 | b::bs,h=>by
  have h1:=zj4 bs λc hc=>h c (List.mem_cons_of_mem _ hc)
  have h2:=h b (List.mem_cons_self ..)
  show b.rs.length+z2i bs<=(bs.length+1)*n
  rw [Nat.succ_mul];omega
end
instance:EncF zu 0 .str (λr=>r.key):=⟨λ_=>rfl⟩
instance:EncF zu 1 .str (λr=>r.value):=⟨λ_=>rfl⟩
instance:EncF zu 2 .bool (λr=>r.gone):=⟨λ_=>rfl⟩
def z7c (L:List RecM) (k:ByteArray):ByteArray × Bool:=match z7u L k with
 | some r=>(r.value,!r.gone)
 | none=>(ByteArray.mk #[],false)
theorem zji (L:List RecM) (k:ByteArray):(z7c L k).2=(z57 L k).isSome:=by
 unfold z7c z57
 cases z7u L k with
 | none=>rfl
 | some r =>
  show (!r.gone)=(Option.filter (λr=>!r.gone) (some r)).isSome
  rw [Option.filter_some]
  cases r.gone <;> rfl
theorem zxp (a b:ByteArray):(ByteArray.toList a == ByteArray.toList b)=decide (a=b):=by
 rw [Bool.eq_iff_iff,beq_iff_eq,decide_eq_true_iff]
 exact ⟨λh=>by rw [ByteArray.toList_eq,ByteArray.toList_eq] at h;exact ByteArray.ext (Array.ext' h),λh=>by rw [h]⟩
def rlP (a:Nat) (L:List RecM):HP:=HP.ex λz:Sl=>HP.and (L.length<=1000000) (HP.star (pt a (.cells #[.slice z.a z.len z.cap] T.a51)) (slc T.a2 4 z (L.flatMap zu)))
section
variable {w:World} {l r r1:List HP} {a:Nat} {L:List RecM}
theorem zio (hs:Sat w (rlP a L::l)):∃ z:Sl,L.length<=1000000/\Sat w (pt a (.cells #[.slice z.a z.len z.cap] T.a51)::slc T.a2 4 z (L.flatMap zu)::l):=by
 obtain ⟨z,hs⟩:=hs.ex
 obtain ⟨h,hs⟩:=hs.and
 exact ⟨z,h,hs.star⟩
theorem z9u (L:List RecM) {z:Sl} (h:L.length<=1000000) (hs:Sat w (pt a (.cells #[.slice z.a z.len z.cap] T.a51)::slc T.a2 4 z (L.flatMap zu)::l)):Sat w (rlP a L::l):=.ex_mk z (.and_mk h (.star_mk hs))
theorem zmu (k:ByteArray) {z:Sl} (hL:L.length<=1000000) [h1:FocB l a (.cells [.slice z.a z.len z.cap].toArray T.a51) r] [h2:FocR l z 4 (L.flatMap zu)] (hs:Sat w l):Ret P F.a166 #[.pointer (some ⟨a,0,none⟩),.string k] w λvs w'=>vs=[.string (z7c L k).1,.bool (z7c L k).2]/\Sat w' l :=
 zpi _ k <| by
  delta z031 AC AD AG AI AU AY Aa Af Aj Ak Al Am An Aw Ax Bp
  have hl:=hs.slen z (xs:=L) (enc:=zu)
  refine zi ?_
  refine zb hs ?_
  rw [hl,w64 (by omega) (by omega)]
  refine wp_lt ?_
  refine zm (λq w'=>z7u L k=none/\Sat w' l) ?_ ?_
  rotate_left
  ·rintro _ w2 ⟨h,hs⟩
   refine zl ?_
   refine ⟨rfl,?_,hs⟩
   unfold z7c
   rw [h]
  refine z0c (λm q w=>∃ i:Nat,q=((i:Int)-1,())/\i<=L.length/\i=m/\z7u L k=z7u (L.take i) k/\Sat w l) L.length
   ⟨L.length,rfl,by omega,rfl,by rw [List.take_length],hs⟩ ?_
  clear hs
  rintro m _ w ⟨i,rfl,hi,hm,hq,hs⟩
  refine zl ?_
  refine zf (λhc=>?_) λhc=>?_
  rotate_left
  ·have:i=0:=by omega
   subst this
   exact zn (zg ⟨hq,hs⟩)
  obtain ⟨j,rfl⟩:∃ j,i=j+1:=⟨i-1,by omega⟩
  have hjl:j<L.length:=by omega
  have ej:((j+1:Nat):Int)-1=(j:Int):=by omega
  rw [ej]
  have htk:L.take (j+1)=L.take j++[L[j]]:=by rw [List.take_add_one,List.getElem?_eq_getElem hjl,Option.toList_some]
  rw [htk,zjp] at hq
  refine zi ?_
  refine zb hs ?_
  refine zdx hs (xs:=L) (enc:=zu) j hjl ?_
  rw [zxp]
  by_cases hk:L[j].key=k
  ·rw [if_pos hk] at hq
   refine z6s (decide_eq_true hk) ?_
   refine z02 hs λw' hs=>?_
   refine zi ?_
   refine zb hs ?_
   refine zdx hs (xs:=L) (enc:=zu) j hjl ?_
   refine zi ?_
   refine zb hs ?_
   refine zdx hs (xs:=L) (enc:=zu) j hjl ?_
   refine wp_lt ?_
   refine wp_lt ?_
   refine ze ?_
   refine zn (zn ?_)
   refine ⟨rfl,?_,hs⟩
   unfold z7c
   rw [hq]
  ·rw [if_neg hk] at hq
   refine z3p (decide_eq_false hk) ?_
   rw [w64 (by omega) (by omega)]
   refine wp_lt ?_
   exact z0z j ⟨j,rfl,by omega,rfl,hq,hs⟩
theorem zrd (k:ByteArray) [hf:Fo l rlP a L r] (hs:Sat w l):Ret P F.a166 #[.pointer (some ⟨a,0,none⟩),.string k] w λvs w'=>vs=[.string (z7c L k).1,.bool (z7c L k).2]/\Sat w' (rlP a L::r):=by
 obtain ⟨z,hL,hs⟩:=zio (hs.perm hf.perm)
 exact Ret.mono (zmu (a:=a) (L:=L) (z:=z) k hL hs) λvs w' h=>⟨h.1,z9u L hL h.2⟩
theorem zea (time:Int) (x:Sl) (rs:List RecM) [hf:Fo l rlP a L r] (hb:FocR r x 4 (rs.flatMap zu)) (hr:rs.length<=1000) (hL:L.length<=100000) (hs:Sat w l) :
  Ret P F.a164 #[.pointer (some ⟨a,0,none⟩),.int .i64 time,x.v] w λvs w'=>vs=[.int .i64 (zy (z01 time x rs))]/\Sat w' (rlP a (if zy (z01 time x rs)=0 then L++rs else L)::r) :=
 zpg _ time x <| by
  delta z02z AA AH AI AO AY Aa Af Aj Ak Al Ba
  have hs:=hs.perm hf.perm
  clear hf
  have hb0:FocR (rlP a L::r) (z01 time x rs).x 4 ((z01 time x rs).rs.flatMap zu):=(inferInstance:FocR (rlP a L::r) x 4 (rs.flatMap zu))
  refine z8 (zyt (z01 time x rs) hs) λ_ w' hs=>?_
  obtain ⟨rfl,hs⟩:=hs
  refine zd ?_
  refine wp_lt ?_
  refine zm (λq w'=>Sat w' (rlP a (if zy (z01 time x rs)=0 then L++rs else L)::r)) ?_ ?_
  rotate_left
  ·rintro _ w2 hs
   refine zl ?_
   refine wp_lt ?_
   exact ⟨rfl,rfl,hs⟩
  refine zf (λh=>?_) λh=>?_
  ·rw [if_pos (by simpa using h)]
   obtain ⟨z,hL0,hs⟩:=zio hs
   refine zi ?_
   refine zb hs ?_
   have hs:Sat w' (slc T.a2 4 ⟨none,0,0⟩ (([]:List RecM).flatMap zu)::_):=hs.slc_nil
   refine wp_app' (x:=⟨none,0,0⟩) (y:=z) (xs:=([]:List RecM)) (ys:=L) (enc:=zu) hs (λz2 w' hs=>?_) (by simp only [List.length_nil];omega)
   rw [List.nil_append] at hs
   refine wp_app' (x:=z2) (y:=x) (xs:=L) (ys:=rs) (enc:=zu) hs (λz3 w' hs=>?_) (by omega)
   refine zi ?_
   refine z08 hs λw' hs=>?_
   have hs:Sat w' (pt a (.cells #[.slice z3.a z3.len z3.cap] T.a51)::slc T.a2 4 z3 ((L++rs).flatMap zu)::r):=hs.sub
   exact zg (z9u (L++rs) (by rw [List.length_append];omega) hs)
  ·rw [if_neg (by simpa using h)]
   exact zg hs
theorem zmt (k:ByteArray) (time:Int) [hf:Fo l rlP a L r] (hL:L.length<=100000) (hs:Sat w l) :
  Ret P F.a165 #[.pointer (some ⟨a,0,none⟩),.string k,.int .i64 time] w λvs w'=>((z57 L k).isSome=false/\vs=[.int .i64 3]/\Sat w' (rlP a L::r)) \/
   ((z57 L k).isSome=true/\∃ x:Sl,vs=[.int .i64 (zy (z01 time x [z3h k time]))]/\Sat w' (rlP a (if zy (z01 time x [z3h k time])=0 then L++[z3h k time] else L)::r)) :=
 zph _ k time <| by
  delta z030 AA AO AU AV Aa Af Ah Aj Ak Ax
  refine z8 (zrd (a:=a) (L:=L) k (hs.perm hf.perm)) λ_ w' hs=>?_
  clear hf
  obtain ⟨rfl,hs⟩:=hs
  refine ⟨((z7c L k).1,(z7c L k).2,()),rfl,trivial,z1v _ _ ?_⟩
  refine wp_lt ?_
  refine wp_lt ?_
  have hg:=zji L k
  cases hh:(z57 L k).isSome with
  | false =>
   rw [hh] at hg
   refine z6s (by rw [hg];rfl) ?_
   exact ⟨rfl,.inl ⟨rfl,rfl,hs⟩⟩
  | true =>
   rw [hh] at hg
   refine z3p (by rw [hg];rfl) ?_
   refine zei hs (enc:=zu) [z3h k time] λx w' hs=>?_
   have hs:Sat w' (rlP a L::slc T.a2 4 x ([z3h k time].flatMap zu)::r):=hs.sub
   refine z8 (zea (a:=a) (L:=L) time x [z3h k time] inferInstance (by simp) hL hs) λ_ w' hs=>?_
   obtain ⟨rfl,hs⟩:=hs
   refine zd ?_
   refine wp_lt ?_
   exact ⟨rfl,.inr ⟨rfl,x,rfl,hs.sub⟩⟩
end
def z5o (ks:List ByteArray) (k:ByteArray):Bool:=match ks.getLast? with
 | none=>true
 | some q=>ltS q k
def z49 (L:List RecM) (ks:List ByteArray) (k:ByteArray):Bool:=(z57 L k).isSome && z5o ks k
structure KeysK (L:List RecM) (ks:List ByteArray):Prop where
 sort:ks.Pairwise λa b=>ltS a b=true
 mem:∀ k,k ∈ ks↔(z57 L k).isSome=true
theorem zly {L:List RecM} {k:ByteArray} (h:(z57 L k).isSome=true):∃ r ∈ L,r.key=k:=by
 unfold z57 z7u at h
 cases hq:L.reverse.find? λr=>decide (r.key=k) with
 | none=>rw [hq] at h;cases h
 | some r =>
  have h1:=List.find?_some hq
  have h2:=List.mem_of_find?_eq_some hq
  exact ⟨r,by simpa using h2,by simpa using h1⟩
theorem z06m (a b:ByteArray):(!(Op.bytesLess (ByteArray.toList a) (ByteArray.toList b) || (ByteArray.toList a == ByteArray.toList b)))=ltS b a:=by
 rw [zxp]
 show (!(ltS a b || decide (a=b)))=ltS b a
 rcases zah a b with h|h|h
 ·rw [h,zaf h];rfl
 ·subst h;rw [z4s];simp
 ·rw [h,zaf h,decide_eq_false λe=>(z9p h) e.symm];rfl
theorem znm {a b:List ByteArray} (ha:a.Pairwise λx y=>ltS x y=true) (hb:b.Pairwise λx y=>ltS x y=true) (hm:∀ k,k ∈ a↔k ∈ b):a=b:=by
 induction a generalizing b with
 | nil =>
  cases b with
  | nil=>rfl
  | cons y ys=>exact absurd ((hm y).2 (List.mem_cons_self ..)) (List.not_mem_nil)
 | cons x xs ih =>
  cases b with
  | nil=>exact absurd ((hm x).1 (List.mem_cons_self ..)) (List.not_mem_nil)
  | cons y ys =>
   obtain ⟨h1,h2⟩:=List.pairwise_cons.1 ha
   obtain ⟨h3,h4⟩:=List.pairwise_cons.1 hb
   have exy:x=y:=by
    rcases List.mem_cons.1 ((hm x).1 (List.mem_cons_self ..)) with h|h
    ·exact h
    rcases List.mem_cons.1 ((hm y).2 (List.mem_cons_self ..)) with h'|h'
    ·exact h'.symm
    have:=zaf (h1 y h')
    rw [h3 x h] at this;cases this
   subst exy
   congr 1
   refine ih h2 h4 λk=>?_
   constructor
   ·intro hk
    rcases List.mem_cons.1 ((hm k).1 (List.mem_cons_of_mem _ hk)) with h|h
    ·exact absurd h.symm (z9p (h1 k hk))
    ·exact h
   ·intro hk
    rcases List.mem_cons.1 ((hm k).2 (List.mem_cons_of_mem _ hk)) with h|h
    ·exact absurd h.symm (z9p (h3 k hk))
    ·exact h
section
variable {w:World} {l r r1:List HP} {a:Nat} {L:List RecM}
set_option maxHeartbeats 1000000 in
theorem z00f [hf:Fo l rlP a L r] (hs:Sat w l):Ret P F.a167 #[.pointer (some ⟨a,0,none⟩)] w λvs w'=>∃ (z:Sl) (ks:List ByteArray),vs=[z.v]/\KeysK L ks/\ks.length<=L.length/\Sat w' (slc T.a49 1 z (ks.flatMap z1k)::rlP a L::r) :=
 zpj _ <| by
  delta z032 AC AD AG AI AJ AL AM AO AU AV AW AY Aa Ab Ac Ah Aj Ak An Aw Ax
  have hs:=hs.perm hf.perm
  clear hf
  have hs:Sat w (slc T.a49 1 ⟨none,0,0⟩ (([]:List ByteArray).flatMap z1k)::rlP a L::r):=hs.slc_nil
  refine z0c (λm q w=>∃ (z:Sl) (ks:List ByteArray),q=(z,())/\((L.map (·.key)).filter (z5o ks)).length=m/\ks.length+m<=L.length/\ks.Pairwise (λa b=>ltS a b=true)/\(∀ k ∈ ks,(z57 L k).isSome=true) /\
   (∀ k,(z57 L k).isSome=true->z5o ks k=false->k ∈ ks)/\Sat w (slc T.a49 1 z (ks.flatMap z1k)::rlP a L::r)) ((L.map (·.key)).filter (z5o [])).length
   ⟨⟨none,0,0⟩,[],rfl,rfl,by have:=List.length_filter_le (z5o []) (L.map (·.key));rw [List.length_map] at this;simpa using this,.nil,(λk h=>by cases h),(λk _ h=>by cases h),hs⟩ ?_
  clear hs
  rintro m _ w ⟨z,ks,rfl,hm,hcnt,hsort,hthere,hall,hs⟩
  refine zl ?_
  have hzl:=hs.slen z (xs:=ks) (enc:=z1k)
  obtain ⟨y,hL,hs⟩:=zio (hs.pick [1])
  have hyl:=hs.slen y (xs:=L) (enc:=zu)
  refine z44 ?_
  refine zi ?_
  refine zb hs ?_
  refine zm (λq w'=>∃ (best:ByteArray) (found:Bool),q=(best,found,())/\(found=false->∀ x ∈ L,z49 L ks x.key=false)/\(found=true->z49 L ks best=true/\(∃ x ∈ L,x.key=best)/\∀ x ∈ L,z49 L ks x.key=true->ltS x.key best=false) /\
   Sat w' (slc T.a49 1 z (ks.flatMap z1k)::rlP a L::r)) ?_ ?_
  ·refine z0c (λm2 q w=>∃ (i:Nat) (best:ByteArray) (found:Bool),q=(best,found,(i:Int),())/\i<=L.length/\L.length-i=m2/\(found=false->∀ x ∈ L.take i,z49 L ks x.key=false)/\(found=true->z49 L ks best=true/\(∃ x ∈ L,x.key=best)/\∀ x ∈ L.take i,z49 L ks x.key=true->ltS x.key best=false) /\
    Sat w (pt a (.cells #[.slice y.a y.len y.cap] T.a51)::slc T.a2 4 y (L.flatMap zu)::slc T.a49 1 z (ks.flatMap z1k)::r)) L.length
    ⟨0,ByteArray.mk #[],false,rfl,by omega,rfl,(λ_ x hx=>by simp at hx),(λh=>by cases h),hs⟩ ?_
   clear hs
   rintro m2 _ w ⟨i,best,found,rfl,hi,hm2,hno,hyes,hs⟩
   refine zek _ _ _ ?_
   refine zf (λhc=>?_) λhc=>?_
   rotate_left
   ·rw [List.take_of_length_le (by omega)] at hno hyes
    have hs:=z9u L hL hs
    exact zn (zg ⟨best,found,rfl,hno,hyes,hs.pick [1]⟩)
   have hil:i<L.length:=by omega
   have htk:L.take (i+1)=L.take i++[L[i]]:=by rw [List.take_add_one,List.getElem?_eq_getElem hil,Option.toList_some]
   refine z2v hs i hil ?_
   have hmem:=List.getElem_mem hil
   generalize L[i]=x at *
   refine zt hs λa13 w' hs=>?_
   refine zv hs λw' hs=>?_
   refine zb hs ?_
   refine z8 (zmu (a:=a) (L:=L) (z:=y) x.key hL hs) λ_ w' hs=>?_
   obtain ⟨rfl,hs⟩:=hs
   refine ⟨((z7c L x.key).1,(z7c L x.key).2,()),rfl,trivial,z1v _ _ ?_⟩
   refine wp_lt ?_
   refine wp_lt ?_
   refine z02 hs λw' hs=>?_
   refine zb hs ?_
   refine zit hs (xs:=ks) (enc:=z1k) (ks.getLast?.getD (ByteArray.mk #[])) (λhg=>?_) ?_
   ·have h0:ks.length≠0:=by have:=hg.2;rw [hzl] at this;simpa using this
    refine ⟨ks.length-1,by omega,by rw [hzl,w64 (by omega) (by omega)];omega,?_⟩
    rw [List.getLast?_eq_getElem?,List.getElem?_eq_getElem (by omega)]
    rfl
   refine zb hs ?_
   refine ze ?_
   have haft:((((z.len:Nat):Int) == 0) || !(Op.bytesLess (ByteArray.toList x.key) (ByteArray.toList (ks.getLast?.getD (ByteArray.mk #[]))) || (ByteArray.toList x.key == ByteArray.toList (ks.getLast?.getD (ByteArray.mk #[])))))=z5o ks x.key:=by
    rw [z06m,hzl]
    unfold z5o
    cases hq:ks.getLast? with
    | none =>
     have:ks=[]:=List.getLast?_eq_none_iff.1 hq
     subst this
     rfl
    | some q =>
     have:ks≠[]:=λh=>by rw [h] at hq;cases hq
     have h0:ks.length≠0:=λh=>this (List.length_eq_zero_iff.1 h)
     have h1:(((ks.length:Nat):Int) == 0)=false:=by simpa using this
     rw [h1];rfl
   have hcand:((z7c L x.key).2 && ((((z.len:Nat):Int) == 0) || !(Op.bytesLess (ByteArray.toList x.key) (ByteArray.toList (ks.getLast?.getD (ByteArray.mk #[]))) || (ByteArray.toList x.key == ByteArray.toList (ks.getLast?.getD (ByteArray.mk #[]))))))=z49 L ks x.key:=by
    rw [haft,zji];rfl
   refine zm (λq w'=>q=((if z49 L ks x.key=true/\(found=false\/ltS x.key best=true) then x.key else best),(found || z49 L ks x.key),())/\Sat w' (pt a (.cells #[.slice y.a y.len y.cap] T.a51)::slc T.a2 4 y (L.flatMap zu)::slc T.a49 1 z (ks.flatMap z1k)::r)) ?_ ?_
   ·rw [hcand]
    by_cases hcc:z49 L ks x.key=true/\(found=false\/ltS x.key best=true)
    ·rw [if_pos hcc]
     refine z6s (by
      rw [hcc.1,Bool.true_and]
      rcases hcc.2 with h|h
      ·rw [h];rfl
      ·show (!found || ltS x.key best)=true
       rw [h,Bool.or_true]) ?_
     refine zb hs ?_
     refine wp_lt ?_
     exact zg ⟨by rw [hcc.1,Bool.or_true],hs.sub⟩
    ·rw [if_neg hcc]
     refine z3p (by
      cases hx:z49 L ks x.key with
      | false=>rfl
      | true =>
       have h2:¬ (found=false\/ltS x.key best=true):=λh=>hcc ⟨hx,h⟩
       show (true && (!found || ltS x.key best))=false
       cases found with
       | false=>exact absurd (.inl rfl) h2
       | true =>
        cases hl:ltS x.key best with
        | false=>rfl
        | true=>exact absurd (.inr hl) h2) ?_
     refine zg ⟨?_,hs.sub⟩
     cases hx:z49 L ks x.key with
     | false=>rw [Bool.or_false]
     | true =>
      cases found with
      | false=>exact absurd ⟨hx,.inl rfl⟩ hcc
      | true=>rfl
   clear hs
   rintro _ w ⟨rfl,hs⟩
   refine z1v _ _ ?_
   refine z29 (us':=[.string (if z49 L ks x.key=true/\(found=false\/ltS x.key best=true) then x.key else best),.bool (found || z49 L ks x.key),.int .i64 ((i+1:Nat):Int)]) (by (try simp (disch:=omega) only [w64]);first|rfl|(congr;omega)) ?_
   refine z0z (L.length-(i+1)) ⟨i+1,_,_,rfl,by omega,rfl,λh u hu=>?_,λh=>?_,hs⟩
   ·rw [Bool.or_eq_false_iff] at h
    rw [htk] at hu
    rcases List.mem_append.1 hu with hu|hu
    ·exact hno h.1 u hu
    ·rw [List.mem_singleton.1 hu];exact h.2
   ·by_cases hcc:z49 L ks x.key=true/\(found=false\/ltS x.key best=true)
    ·rw [if_pos hcc]
     refine ⟨hcc.1,⟨x,hmem,rfl⟩,λu hu hcu=>?_⟩
     rw [htk] at hu
     rcases List.mem_append.1 hu with hu|hu
     ·cases hf:found with
      | false =>
       have:=hno hf u hu
       rw [hcu] at this;cases this
      | true =>
       obtain ⟨-,-,h3⟩:=hyes hf
       have hlt:ltS x.key best=true:=by
        rcases hcc.2 with h|h
        ·rw [hf] at h;cases h
        ·exact h
       cases hu2:ltS u.key x.key with
       | false=>rfl
       | true =>
        have:=h3 u hu hcu
        rw [z4t hu2 hlt] at this;cases this
     ·rw [List.mem_singleton.1 hu];exact z4s _
    ·rw [if_neg hcc]
     have hf:found=true:=by
      cases hf:found with
      | true=>rfl
      | false =>
       rw [hf,Bool.false_or] at h
       exact absurd ⟨h,.inl hf⟩ hcc
     obtain ⟨q1,q2,q3⟩:=hyes hf
     refine ⟨q1,q2,λu hu hcu=>?_⟩
     rw [htk] at hu
     rcases List.mem_append.1 hu with hu|hu
     ·exact q3 u hu hcu
     ·rw [List.mem_singleton.1 hu] at hcu ⊢
      cases hl:ltS x.key best with
      | false=>rfl
      | true=>exact absurd ⟨hcu,.inr hl⟩ hcc
  clear hs
  rintro _ w ⟨best,found,rfl,hno,hyes,hs⟩
  refine z1v _ _ ?_
  cases hf:found with
  | false =>
   refine z0u ?_ (by simp)
   refine zn (zn ?_)
   refine ⟨rfl,z,ks,rfl,⟨hsort,λk=>⟨hthere k,λh=>?_⟩⟩,by omega,hs⟩
   obtain ⟨x,hx,rfl⟩:=zly h
   have:=hno hf x hx
   unfold z49 at this
   rw [h,Bool.true_and] at this
   exact hall _ h this
  | true =>
   refine z03 ?_ (by simp)
   obtain ⟨q1,⟨x,hx,hxb⟩,q3⟩:=hyes hf
   unfold z49 at q1
   rw [Bool.and_eq_true] at q1
   have hkl:ks.length<=1000000:=by omega
   refine z5j hs (xs:=ks) (enc:=z1k) best (λz2 w' hs=>?_) rfl (by omega)
   have hlast:(ks++[best]).getLast? = some best:=by simp
   have haft2:∀ k,z5o (ks++[best]) k=ltS best k:=λk=>by unfold z5o;rw [hlast]
   have hbk:∀ k,ltS best k=true->z5o ks k=true:=λk hk=>by
    unfold z5o at q1 ⊢
    cases hq:ks.getLast? with
    | none=>rfl
    | some q =>
     have h2:=q1.2
     rw [hq] at h2
     exact z4t h2 hk
   have hall2:∀ k ∈ ks,ltS k best=true:=λk hk=>by
    have h2:=q1.2
    unfold z5o at h2
    cases hq:ks.getLast? with
    | none=>rw [List.getLast?_eq_none_iff.1 hq] at hk;cases hk
    | some q =>
     rw [hq] at h2
     have hle:k=q\/ltS k q=true:=by
      obtain ⟨ys,hys⟩:∃ ys,ks=ys++[q]:=List.getLast?_eq_some_iff.1 hq
      rw [hys] at hk hsort
      rcases List.mem_append.1 hk with hk|hk
      ·exact .inr ((List.pairwise_append.1 hsort).2.2 k hk q (by simp))
      ·exact .inl (List.mem_singleton.1 hk)
     rcases hle with rfl|hle
     ·exact h2
     ·exact z4t hle h2
   have hmdec:((L.map (·.key)).filter (z5o (ks++[best]))).length<((L.map (·.key)).filter (z5o ks)).length:=by
    have hsub:((L.map (·.key)).filter (z5o (ks++[best])))=(((L.map (·.key)).filter (z5o ks)).filter (z5o (ks++[best]))):=by
     rw [List.filter_filter]
     refine List.filter_congr λk _=>?_
     rw [haft2]
     cases hk:ltS best k with
     | false=>rfl
     | true=>rw [hbk k hk];rfl
    rw [hsub]
    refine List.length_filter_lt_length_iff_exists.2 ⟨best,List.mem_filter.2 ⟨List.mem_map.2 ⟨x,hx,hxb⟩,q1.2⟩,?_⟩
    rw [haft2,z4s];simp
   refine z48 ⟨(z2,()),rfl,?_⟩
   show Prog.wp P (Prog.done 1 [z2.v]) _ _ _
   refine z0z ((L.map (·.key)).filter (z5o (ks++[best]))).length ⟨z2,ks++[best],rfl,rfl,by rw [List.length_append,List.length_singleton];omega,?_,?_,?_,hs⟩ (by omega)
   ·refine List.pairwise_append.2 ⟨hsort,List.pairwise_singleton ..,λk hk b hb=>?_⟩
    rw [List.mem_singleton.1 hb]
    exact hall2 k hk
   ·intro k hk
    rcases List.mem_append.1 hk with hk|hk
    ·exact hthere k hk
    ·rw [List.mem_singleton.1 hk];exact q1.1
   ·intro k hk1 hk2
    rw [haft2] at hk2
    rw [List.mem_append,List.mem_singleton]
    cases ha:z5o ks k with
    | false=>exact .inl (hall k hk1 ha)
    | true =>
     obtain ⟨u,hu,rfl⟩:=zly hk1
     have h3:=q3 u hu (by unfold z49;rw [hk1,ha];rfl)
     rcases zah u.key best with h|h|h
     ·rw [h3] at h;cases h
     ·exact .inr h
     ·rw [hk2] at h;cases h
end
section
variable {w:World} {l r:List HP} {v:Nat} {A:ViewA}
theorem z059 (f:Value) (z:Sl) (ys:List TxnA) (h1:ys.length<=1) (hs:Sat w (slc T.a15 4 z (ys.flatMap z2q)::l)) :
  Ret P F.a139 #[z.v,f] w λvs w'=>vs=[]/\Sat w' (slc T.a15 4 z (ys.flatMap z2q)::l) :=
 zp2 z f <| by
  delta z02l AA Aa Af Ak An Bh
  have hl:=hs.slen z (xs:=ys) (enc:=z2q)
  refine wp_lt ?_
  have hlen:Ret P F.a75 #[.int .u64 (IntKind.wrap .u64 ((z.len:Nat):Int))] w λvs w'=>(∃ k:Int,vs=[.int .i64 k])/\Sat w' (slc T.a15 4 z (ys.flatMap z2q)::l):=by
   rw [ziv (by omega) (by omega)]
   by_cases h0:z.len=0
   ·rw [h0]
    exact Ret.mono (z06k hs) λvs w' h=>⟨⟨0,h.1⟩,h.2⟩
   ·exact Ret.mono (z0a5 z.len (by omega) (by omega) hs) λvs w' h=>⟨by obtain ⟨⟨k,h1,-⟩,-⟩:=h;exact ⟨k,h1⟩,h.2⟩
  refine z8 hlen λ_ w' hs=>?_
  obtain ⟨⟨k,rfl⟩,hs⟩:=hs
  refine zd ?_
  refine z8 (R:=λvs w'=>vs=[]/\Sat w' (slc T.a15 4 z (ys.flatMap z2q)::l)) ?_ λ_ w' hs=>?_
  ·refine zp4 z _ _ _ _ ?_
   delta z02n AA AC AG AQ Aa Af Aj Ak Al An As Au Av Aw Ax Ay BM Bh Bq Bx
   refine z0c (λm q w=>q=(0,((z.len:Nat):Int),k,true,true,())/\Sat w (slc T.a15 4 z (ys.flatMap z2q)::l)) 0 ⟨rfl,hs⟩ ?_
   clear hs
   rintro m _ w ⟨rfl,hs⟩
   refine z79 _ _ _ _ _ ?_
   refine z44 ?_
   rw [w64 (by omega) (by omega)]
   refine wp_lt ?_
   refine z0u ?_ (by omega)
   refine z8 (R:=λvs w'=>vs=[]/\Sat w' (slc T.a15 4 z (ys.flatMap z2q)::l)) ?_ λ_ w' hs=>?_
   ·refine zp3 z _ _ _ ?_
    delta z02m AC AG AH Aa Af Aj Ak Al Am An Au Aw BM Bx
    rw [w64 (by omega) (by omega)]
    refine wp_lt ?_
    refine zm (λq w'=>Sat w' (slc T.a15 4 z (ys.flatMap z2q)::l)) ?_ ?_
    ·refine z0c (λm q w=>q=(0+1,())/\Sat w (slc T.a15 4 z (ys.flatMap z2q)::l)) 0 ⟨rfl,hs⟩ ?_
     clear hs
     rintro m _ w ⟨rfl,hs⟩
     refine zl ?_
     refine z03 ?_ (by omega)
     exact zn (zg hs)
    clear hs
    rintro _ w hs
    refine zl ?_
    exact ⟨rfl,rfl,hs⟩
   obtain ⟨rfl,hs⟩:=hs
   refine zd ?_
   refine zn (zn ?_)
   exact ⟨rfl,rfl,hs⟩
  obtain ⟨rfl,hs⟩:=hs
  refine zd ?_
  exact ⟨rfl,rfl,hs⟩
theorem zz9 [hf:Fo l vw v A r] (h1:A.op.length<=1) (hs:Sat w l):Ret P F.a59 #[.pointer (some ⟨v,0,none⟩)] w λvs w'=>∃ z:Sl,vs=[z.v]/\Sat w' (slc T.a15 4 z (A.op.flatMap z2q)::vw v A::r) :=
 zuu _ <| by
  delta z00z AJ AO AY Ab Ac Aj Ak Ar B4 B8 Bh Bx
  obtain ⟨m1,m2,hok,hs⟩:=z9g (hs.perm hf.perm)
  have hmany:=hok.many
  refine z03 ?_ (by simp)
  refine zi ?_
  refine zb hs ?_
  refine zkn hs λit w' hs=>?_
  refine zm (λx w'=>∃ (z:Sl) (ys:List TxnA),x=(z,())/\ys.Perm A.op/\Sat w' (slc T.a15 4 z (ys.flatMap z2q)::vw v A::r)) ?_ ?_
  ·refine z0c (λk x w=>∃ (z:Sl) (ys:List TxnA) (todo:List (Int × TxnA)) (last:Option (Int × TxnA)),x=(z,())/\todo.length=k/\(ys++todo.map Prod.snd).Perm A.op /\
    Sat w (slc T.a15 4 z (ys.flatMap z2q)::itP ekI evX it m1 (opK A) todo last::pt v (.cells #[.int .i64 A.next,.map (some m1),.map (some m2)] T.a16)::z1f ekK evX m2 (faK A)::r)) (opK A).length
    ⟨⟨none,0,0⟩,[],opK A,none,rfl,rfl,by rw [List.nil_append,opK,List.map_map];exact .of_eq (List.map_id _),hs.slc_nil⟩ ?_
   clear hs
   rintro k _ w ⟨z,ys,todo,last,rfl,hk,hperm,hs⟩
   have hlen:=hperm.length_eq
   rw [List.length_append,List.length_map] at hlen
   refine zl ?_
   refine zng hs (λk t=>(k,t.pid,t.epoch,t.first,t.last,())) (λkk t todo' w' hp hs=>?_) λh0=>?_
   ·refine z79 kk t.pid t.epoch t.first t.last ?_
    refine zrw hs (kk,t.pid,t.epoch,t.first,t.last,()) ?_
    refine z79 kk t.pid t.epoch t.first t.last ?_
    refine zt hs λc w' hs=>?_
    refine zv hs λw' hs=>?_
    refine zj hs ?_
    refine z8 (z05e t hs) λ_ _ hs=>?_
    obtain ⟨rfl,hs⟩:=hs
    refine zd ?_
    refine z5j hs (xs:=ys) (enc:=z2q) t (λz w' hs=>?_)
    refine z0z todo'.length ?_ (by rw [<- hk,hp.length_eq,List.length_cons];omega)
    refine ⟨z,ys++[t],todo',some (kk,t),rfl,rfl,?_,hs.sub⟩
    rw [List.append_assoc,List.singleton_append]
    exact ((List.Perm.append_left ys (hp.map Prod.snd)).symm).trans hperm
   ·refine zn (zg ⟨z,ys,rfl,?_,?_⟩)
    ·subst h0
     rw [List.map_nil,List.append_nil] at hperm
     exact hperm
    ·have hs:=(hs.pick [1]).itDone
     have hs:Sat w (vw v A::slc T.a15 4 z (ys.flatMap z2q)::r):=z56 m1 m2 hok hs
     exact hs.pick [1]
  clear hs
  rintro _ w ⟨z,ys,rfl,hperm,hs⟩
  refine zl ?_
  have hy:ys=A.op:=by
   have hlen:=hperm.length_eq
   cases hop:A.op with
   | nil=>rw [hop] at hperm;exact hperm.eq_nil
   | cons t ts =>
    rw [hop] at hperm h1
    have:ts=[]:=by simpa using h1
    subst this
    exact List.perm_singleton.1 hperm
  rw [hy] at hs
  refine z8 (z059 _ z A.op h1 hs) λ_ w' h=>?_
  obtain ⟨rfl,hs⟩:=h
  refine zd ?_
  exact ⟨rfl,z,rfl,hs⟩
end
section
variable {w:World} {l r:List HP} {p:Nat} {A:PartA}
theorem zt5 [hf:Fo l paP p A r] (h1:A.V.op.length<=1) (hlen:A.L.l.length<=1000000000) (hs:Sat w l):Ret P F.a83 #[.pointer (some ⟨p,0,none⟩)] w λvs w'=>vs=[.int .i64 (z5h A)]/\Sat w' (paP p A::r) :=
 zvf _ <| by
  delta z09e AA AB AT AY Aa Af Ah Aj Ak An;unfold z5h
  obtain ⟨lg,t,v,hs⟩:=z5e (hs.perm hf.perm)
  refine z03 ?_ (by simp)
  refine zi ?_
  refine zb hs ?_
  refine z8 (zz9 (v:=v) (A:=A.V) h1 hs) λ_ w' hs=>?_
  obtain ⟨z,rfl,hs⟩:=hs
  refine zd ?_
  have hz:=hs.slen z (xs:=A.V.op) (enc:=z2q)
  refine zf (λh=>?_) λh=>?_
  ·have h0:A.V.op.length=0:=by simpa [hz] using h
   rw [if_pos h0]
   have hs:Sat w' (paP p A::r):=z2s A hs
   refine z8 (zr5 (p:=p) (A:=A) hlen hs) λ_ w' hs=>?_
   obtain ⟨rfl,hs⟩:=hs
   refine zd ?_
   refine wp_lt ?_
   exact ⟨rfl,rfl,hs⟩
  ·have h0:¬ A.V.op.length=0:=by simpa [hz] using h
   rw [if_neg h0]
   refine zi ?_
   refine zb hs ?_
   refine z8 (zjn (v:=v) (A:=A.V) hs) λ_ w' hs=>?_
   obtain ⟨rfl,hs⟩:=hs
   refine zd ?_
   have hs:Sat w' (paP p A::r):=z2s A hs
   refine z8 (zmk (p:=p) (A:=A) hs) λ_ w' hs=>?_
   obtain ⟨rfl,hs⟩:=hs
   refine zd ?_
   refine wp_lt ?_
   refine ⟨rfl,?_,hs⟩
   have e:(if z14 A.L.l>z5g A.V then z14 A.L.l else z5g A.V)=max (z5g A.V) (z14 A.L.l):=by split <;> omega
   rw [e]
theorem zn6 {A:PartA} (h1:A.V.op.length<=1):zgk A:=λ{w l r p} hf hlen hs=>@zt5 w l r p A hf h1 hlen hs
end
theorem gdk {w:World} {d e:Nat} {D:DiskA} {X:HP} {l:List HP} (h:d=e) (hs:Sat w (X::dk d D::l)):Sat w (X::dk e D::l):=by rw [<- h];exact hs
theorem zrn:∀ (bs:List BatM) (A:PartA),(bs.foldl z4z A).L=A.L
 | [],A=>rfl
 | b::bs,A=>by rw [List.foldl_cons,zrn bs];rfl
theorem z5d (L:LogA) (most:Int):(z26 L most).L=L:=by unfold z26;rw [zrn];rfl
theorem zzf (M:LedA) (D:DiskA) (b:BatM):(z0v M D b).2.1.1.L.d=M.1.L.d/\(z0v M D b).2.1.1.L.pre=M.1.L.pre:=by
 obtain ⟨h1,h2,-⟩:=z01b M.1 D b
 unfold z0v
 split
 ·exact ⟨h1,h2⟩
 ·exact ⟨h1,h2⟩
theorem z04g {M:LedA} {D:DiskA} (b:BatM) (hp:z17 M.1.L.pre=true) (h:Cpl M.1.L.pre M.1.L.l D):Cpl M.1.L.pre (z0v M D b).2.1.1.L.l (z0v M D b).2.2:=by
 have:=z04u b hp h
 unfold z0v
 split
 ·exact this
 ·exact this
section
variable {w:World} {l r r1 r2 r3 l':List HP} {b d t p:Nat} {M:LedA} {D:DiskA}
theorem zm6 (pre:ByteArray) (seg gap most:Int) (hp:z17 pre=true) (hc:ze7 seg gap) (hm:1<=most/\most<=1024) (hg:D.gone=false) {S:List SegA} (h:Cpl pre S D) (hno:∀ f ∈ D.fs,f.name≠zao pre/\f.name≠zaq pre)
  (hf0 : -9223372036854775808<=z14 S/\z14 S<9223372036854775808)
  (hlow:∀ a ∈ (z32 (z26 ⟨d,pre,seg,gap,S⟩ most) (z14 S) 1099511627776 true).1.1,-9223372036854775808<=a.off) (hlen:(z32 (z26 ⟨d,pre,seg,gap,S⟩ most) (z14 S) 1099511627776 true).1.1.length<=1000000000)
  (he:z8j ⟨0,[]⟩ (z32 (z26 ⟨d,pre,seg,gap,S⟩ most) (z14 S) 1099511627776 true).1.1=true) (hst:zgk (z26 ⟨d,pre,seg,gap,S⟩ most)) [hf:Fo l dk d D r] (hs:Sat w l) :
  Ret P F.a73 #[.pointer (some ⟨d,0,none⟩),.string pre,.agg #[.int .i64 seg,.int .i64 gap,.int .i64 most]] w λvs w'=>∃ b:Nat,vs=[.pointer (some ⟨b,0,none⟩),.int .i64 0] /\
   Sat w' (leP b (z26 ⟨d,pre,seg,gap,S⟩ most,(z3g ⟨0,[]⟩ (z32 (z26 ⟨d,pre,seg,gap,S⟩ most) (z14 S) 1099511627776 true).1.1).2)::dk d D::r) :=
 zv8 _ pre seg gap most <| by
  delta z097 AA AB Aa Ad Ae Af Ag Ah Ai Aj Ak Ar Az
  refine zr (hs.perm hf.perm) λa0 w' hs=>?_
  clear hf
  refine zj hs ?_
  have hs:=hs.pick [1]
  refine z8 (z04q (d:=d) (D:=D) pre seg gap most hp hc hm hg h hno hs) λ_ w' hs=>?_
  obtain ⟨p,rfl,hs⟩:=hs
  refine ⟨(some ⟨p,0,none⟩,0,()),rfl,trivial,z1v _ _ ?_⟩
  refine wp_lt ?_
  refine z03 ?_ (by simp)
  refine z8 (z05y hs) λ_ w' hs=>?_
  obtain ⟨t,rfl,hs⟩:=hs
  refine zd ?_
  obtain ⟨A,hA⟩:∃ A,A=z26 ⟨d,pre,seg,gap,S⟩ most:=⟨_,rfl⟩
  have hAL:A.L=⟨d,pre,seg,gap,S⟩:=by rw [hA];exact z5d _ _
  rw [<- hA] at hs hlow hlen he hst ⊢
  refine zr hs λb w' hs=>?_
  have hs:Sat w' (pt b (.cells #[.pointer (some ⟨t,0,none⟩),.pointer (some ⟨p,0,none⟩)] T.a19)::tbC t ⟨0,[]⟩::paP p A::dk d D::pt a0 (.cells #[.int .i64 seg,.int .i64 gap,.int .i64 most] T.a33)::r):=hs
  refine z8 (zmk (p:=p) (A:=A) hs) λ_ w' hs=>?_
  obtain ⟨rfl,hs⟩:=hs
  refine zd ?_
  have e1:z14 A.L.l=z14 S:=by rw [hAL]
  have hd:A.L.d=d:=by rw [hAL]
  have hcp:Cpl A.L.pre A.L.l D:=by rw [hAL];exact h
  rw [e1]
  have hs:Sat w' (paP p A::dk A.L.d D::pt b (.cells #[.pointer (some ⟨t,0,none⟩),.pointer (some ⟨p,0,none⟩)] T.a19)::tbC t ⟨0,[]⟩::pt a0 (.cells #[.int .i64 seg,.int .i64 gap,.int .i64 most] T.a33)::r):=by rw [hd];exact hs.sub
  refine z8 (z004 (p:=p) (A:=A) (D:=D) hst (z14 S) 1099511627776 true hf0 (by omega) hcp hs) λ_ w' hs=>?_
  obtain ⟨z,rfl,hs⟩:=hs
  generalize hq:z32 A (z14 S) 1099511627776 true=q at *
  obtain ⟨⟨xs,n⟩,e⟩:=q
  simp only at hs hlow hlen he ⊢
  refine ⟨(z,n,e,()),rfl,trivial,zek _ _ _ ?_⟩
  refine wp_lt ?_
  refine wp_lt ?_
  refine zb hs ?_
  have hs:Sat w' (tbC t ⟨0,[]⟩::slc T.a35 5 z (xs.flatMap zq)::pt b (.cells #[.pointer (some ⟨t,0,none⟩),.pointer (some ⟨p,0,none⟩)] T.a19)::paP p A::dk A.L.d D::r):=hs.sub
  refine z8 (zlf (t:=t) (C:=⟨0,[]⟩) z xs hlow he (by show 0+xs.length<=_;omega) hs) λ_ w' hs=>?_
  obtain ⟨rfl,hs⟩:=hs
  refine zd ?_
  refine ⟨rfl,b,rfl,?_⟩
  have hs:Sat w' (leP b (A,(z3g ⟨0,[]⟩ xs).2)::dk A.L.d D::r):=z6k (t:=t) (p:=p) (A,(z3g ⟨0,[]⟩ xs).2) hs
  rw [hd] at hs
  exact hs
theorem zwx {r1:List HP} [hf:Fo l leP b M r1] [hf2:Fo r1 dk M.1.L.d D r] (h:Cpl M.1.L.pre M.1.L.l D) (hs:Sat w l) :
  Ret P F.a72 #[.pointer (some ⟨b,0,none⟩)] w λvs w'=>vs=[.int .i64 (IntKind.wrap .i64 (zn4 M))]/\Sat w' (leP b M::dk M.1.L.d D::r) :=
 zv7 _ <| by
  delta z096 AA AB AI AT AY Aa Ab Ac Af Ah Aj Ak An Aw Ay Ba Bd Be
  have hs:=hs.perm (hf.perm.trans (.cons _ hf2.perm))
  clear hf hf2
  obtain ⟨h1,h2,h3⟩:=h.len
  obtain ⟨t,p,hs⟩:=z9c hs
  refine z03 ?_ (by simp)
  refine zi ?_
  refine zb hs ?_
  have hs:Sat w (paP p M.1::dk M.1.L.d D::pt b (.cells #[.pointer (some ⟨t,0,none⟩),.pointer (some ⟨p,0,none⟩)] T.a19)::tbC t M.2::r):=hs.sub
  refine z8 (zt2 (p:=p) (A:=M.1) (D:=D) h hs) λ_ w' hs=>?_
  obtain ⟨z,outs,rfl,hm,hs⟩:=hs
  refine zd ?_
  have hlz:=hs.slen z (xs:=outs) (enc:=z00)
  have hov:∀ b ∈ outs,b.rs.length<=64:=λb hb=>by
   have h1:b.p ∈ z04 M.1.L.l:=by rw [<- hm];exact List.mem_map.2 ⟨b,hb,rfl⟩
   exact (z2e ((zb1 (Int.le_refl 0) h.segs).valid _ h1).1).1
  have hol:outs.length<=1000000:=by
   have:=congrArg List.length hm
   rw [List.length_map] at this
   omega
  have hcount:z2i outs=z2i (z04 M.1.L.l):=by rw [<- hm,zlj]
  refine zm (λq w'=>q=(((z2i outs:Nat):Int),())/\Sat w' (leP b M::dk M.1.L.d D::r)) ?_ ?_
  rotate_left
  ·rintro _ w2 ⟨rfl,hs⟩
   refine zl ?_
   refine z8 (zid (b:=b) (M:=M) hs) λ_ w' hs=>?_
   obtain ⟨rfl,hs⟩:=hs
   refine zd ?_
   refine wp_lt ?_
   refine ⟨rfl,?_,hs⟩
   unfold zn4
   rw [hcount]
  refine z0c (λm q w=>∃ i:Nat,q=(((z2i (outs.take i):Nat):Int),(i:Int),())/\i<=outs.length/\outs.length-i=m/\Sat w (slc T.a0 7 z (outs.flatMap z00)::z1n outs::paP p M.1::dk M.1.L.d D::pt b (.cells #[.pointer (some ⟨t,0,none⟩),.pointer (some ⟨p,0,none⟩)] T.a19)::tbC t M.2::r)) outs.length ⟨0,rfl,by omega,rfl,hs.sub⟩ ?_
  clear hs
  rintro m _ w ⟨i,rfl,hi,hm2,hs⟩
  refine z1v _ _ ?_
  refine zf (λhc=>?_) λhc=>?_
  rotate_left
  ·rw [List.take_of_length_le (by omega)]
   exact zn (zg ⟨rfl,z6k (t:=t) (p:=p) M hs⟩)
  have hil:i<outs.length:=by omega
  have htk:outs.take (i+1)=outs.take i++[outs[i]]:=by rw [List.take_add_one,List.getElem?_eq_getElem hil,Option.toList_some]
  have hcr:z2i (outs.take (i+1))=z2i (outs.take i)+outs[i].rs.length:=by rw [htk,zgr];rfl
  have hle:=zj4 (n:=64) (outs.take i) λc hc=>hov c (List.mem_of_mem_take hc)
  rw [List.length_take] at hle
  have hr64:=hov _ (List.getElem_mem hil)
  have hbr:FocR (slc T.a0 7 z (outs.flatMap z00)::z1n outs::paP p M.1::dk M.1.L.d D::pt b (.cells #[.pointer (some ⟨t,0,none⟩),.pointer (some ⟨p,0,none⟩)] T.a19)::tbC t M.2::r) outs[i].x 4 (outs[i].rs.flatMap zu):=⟨λw hs=>(zb3 (List.getElem_mem hil)).rd w hs.tail⟩
  have hbl:=hs.slen outs[i].x (xs:=outs[i].rs) (enc:=zu)
  refine z2v hs i hil ?_
  refine zt hs λa15 w' hs=>?_
  refine zv hs λw' hs=>?_
  refine zb hs ?_
  rw [hbl,w64 (by omega) (by omega)]
  refine wp_lt ?_
  refine z29 (us':=[.int .i64 ((z2i (outs.take (i+1)):Nat):Int),.int .i64 ((i+1:Nat):Int)]) (by (try simp (disch:=omega) only [w64]);first|rfl|(congr;omega)) ?_
  exact z0z (outs.length-(i+1)) ⟨i+1,rfl,by omega,rfl,hs.sub⟩
def s13 (seg:Int):Int:=64+(if Int.tmod seg 200<0 then 0-Int.tmod seg 200 else Int.tmod seg 200)
theorem zxj (seg:Int):64<=s13 seg/\s13 seg<=263:=by
 have h1:=Int.lt_tmod_of_pos seg (b:=200) (by omega)
 have h2:=Int.tmod_lt_of_pos seg (b:=200) (by omega)
 unfold s13
 split <;> omega
theorem zgq (seg:Int) (hs:Sat w l):Ret P F.a156 #[.int .i64 seg] w λvs w'=>vs=[.agg #[.int .i64 (s13 seg),.int .i64 30,.int .i64 2]]/\Sat w' l :=
 zp8 seg <| by
  delta z02r Aa Ab Ac Ad Af Ag Aj Ak Aw Ay
  have h1:=Int.lt_tmod_of_pos seg (b:=200) (by omega)
  have h2:=Int.tmod_lt_of_pos seg (b:=200) (by omega)
  have hb:=zxj seg
  unfold s13 at hb ⊢
  generalize Int.tmod seg 200=s at *
  refine zt hs λa0 w' hs=>?_
  refine wp_lt ?_
  refine zm (λq w'=>q=((if s<0 then 0-s else s),())/\Sat w' (pt a0 (.cells [.int .i64 0,.int .i64 0,.int .i64 0].toArray T.a33)::l)) ?_ ?_
  ·refine zf (λh=>?_) λh=>?_
   ·rw [w64 (by omega) (by omega)]
    refine wp_lt ?_
    exact zg ⟨by rw [if_pos h],hs⟩
   ·exact zg ⟨by rw [if_neg h],hs⟩
  clear hs
  rintro _ w ⟨rfl,hs⟩
  refine zl ?_
  rw [w64 (by omega) (by omega)]
  refine zv hs λw' hs=>?_
  refine zj hs ?_
  exact ⟨rfl,rfl,hs.tail⟩
end
def gP:ByteArray:=ByteArray.mk #[120]
def gM (d:Nat):LedA:=(z26 ⟨d,gP,64,30,[]⟩ 2,⟨0,[]⟩)
def gD:DiskA:=⟨65536,-1,false,[]⟩
abbrev gA:ByteArray:=ByteArray.mk #[97]
abbrev gB:ByteArray:=ByteArray.mk #[98]
theorem g1 (d:Nat) (x:Sl):(z0v (gM d) gD (z01 0 x [z1u gA (ByteArray.mk #[49]) 0])).1=0/\z8j (gM d).2 (z0r ((z01 0 x [z1u gA (ByteArray.mk #[49]) 0]).to (z0j (gM d).1 gD (z01 0 x [z1u gA (ByteArray.mk #[49]) 0])).1.1))=true:=⟨by kernel_rfl,by kernel_rfl⟩
section
variable {d:Nat} {x1 x2 x3 x4:Sl} {S U V W:LedA × DiskA}
theorem g2 (x:Sl) (h:S=(z0v (gM d) gD (z01 0 x1 [z1u gA (ByteArray.mk #[49]) 0])).2):(z0v S.1 S.2 (z01 0 x [z1u gA (ByteArray.mk #[50]) 0])).1=0/\z8j S.1.2 (z0r ((z01 0 x [z1u gA (ByteArray.mk #[50]) 0]).to (z0j S.1.1 S.2 (z01 0 x [z1u gA (ByteArray.mk #[50]) 0])).1.1))=true/\S.1.2.l.length=1:=by subst h;exact ⟨by kernel_rfl,by kernel_rfl,by kernel_rfl⟩
theorem g3 (x:Sl) (h:S=(z0v (gM d) gD (z01 0 x1 [z1u gA (ByteArray.mk #[49]) 0])).2) (h2:U=(z0v S.1 S.2 (z01 0 x2 [z1u gA (ByteArray.mk #[50]) 0])).2):(z0v U.1 U.2 (z01 0 x [z1u gB (ByteArray.mk #[120]) 0])).1=0/\z8j U.1.2 (z0r ((z01 0 x [z1u gB (ByteArray.mk #[120]) 0]).to (z0j U.1.1 U.2 (z01 0 x [z1u gB (ByteArray.mk #[120]) 0])).1.1))=true/\U.1.2.l.length=1:=by subst h h2;exact ⟨by kernel_rfl,by kernel_rfl,by kernel_rfl⟩
theorem g4 (x:Sl) (h:S=(z0v (gM d) gD (z01 0 x1 [z1u gA (ByteArray.mk #[49]) 0])).2) (h2:U=(z0v S.1 S.2 (z01 0 x2 [z1u gA (ByteArray.mk #[50]) 0])).2) (h3:V=(z0v U.1 U.2 (z01 0 x3 [z1u gB (ByteArray.mk #[120]) 0])).2) :
  (z24 V.1.2.l gB).isSome=true/\(z0v V.1 V.2 (z01 1 x [z3h gB 1])).1=0/\z8j V.1.2 (z0r ((z01 1 x [z3h gB 1]).to (z0j V.1.1 V.2 (z01 1 x [z3h gB 1])).1.1))=true/\V.1.2.l.length=2:=by subst h h2 h3;exact ⟨by kernel_rfl,by kernel_rfl,by kernel_rfl,by kernel_rfl⟩
theorem g5 (h:S=(z0v (gM d) gD (z01 0 x1 [z1u gA (ByteArray.mk #[49]) 0])).2) (h2:U=(z0v S.1 S.2 (z01 0 x2 [z1u gA (ByteArray.mk #[50]) 0])).2) (h3:V=(z0v U.1 U.2 (z01 0 x3 [z1u gB (ByteArray.mk #[120]) 0])).2) (h4:W=(z0v V.1 V.2 (z01 1 x4 [z3h gB 1])).2) :
  (orC (z24 W.1.2.l gA)).r.value=ByteArray.mk #[50]/\(z24 W.1.2.l gA).isSome=true/\z24 W.1.2.l gB=none/\W.1.2.l.length=1/\zn4 W.1=3:=by subst h h2 h3 h4;exact ⟨by kernel_rfl,by kernel_rfl,by kernel_rfl,by kernel_rfl,by kernel_rfl⟩
theorem zsk (b:BatM) (h:S.1.1.L.d=d/\S.1.1.L.pre=gP/\Cpl gP S.1.1.L.l S.2) (h2:U=(z0v S.1 S.2 b).2):U.1.1.L.d=d/\U.1.1.L.pre=gP/\Cpl gP U.1.1.L.l U.2:=by
 obtain ⟨e1,e2,e3⟩:=h
 have h1:=zzf S.1 S.2 b
 rw [<- e2] at e3
 have h3:=z04g (M:=S.1) (D:=S.2) b (by rw [e2];kernel_rfl) e3
 rw [<- h2] at h1 h3
 exact ⟨h1.1.trans e1,h1.2.trans e2,by rw [e2] at h3;exact h3⟩
end
section
variable {w:World} {l r:List HP}
set_option maxHeartbeats 1000000 in
theorem zvz (hs:Sat w l):Ret P F.a154 #[] w λvs w'=>vs=[.bool true]/\Sat w' l :=
 za1 <| by
  unfold z8v
  refine z8 (zx3 65536 (by omega) hs) λ_ w' hs=>?_
  obtain ⟨d,rfl,hs⟩:=hs
  refine ⟨(some ⟨d,0,none⟩,0,()),rfl,trivial,z1v _ _ ?_⟩
  refine wp_lt ?_
  have hs:Sat w' (dk d gD::l):=hs
  refine z8 (zgq 0 hs) λ_ w' hs=>?_
  obtain ⟨rfl,hs⟩:=hs
  have e64:s13 0=64:=by decide
  rw [e64]
  refine ⟨(64,30,2,()),rfl,trivial,zek _ _ _ ?_⟩
  have hp0:z17 gP=true:=by kernel_rfl
  have c0:Cpl gP [] gD:=zj5 gP 65536 (by omega)
  have er:(z32 (z26 ⟨d,gP,64,30,[]⟩ 2) (z14 []) 1099511627776 true).1.1=[]:=by kernel_rfl
  refine z8 (zm6 (d:=d) (D:=gD) gP 64 30 2 hp0 ⟨by decide,by decide⟩ (by omega) rfl c0 (λf hf=>by cases hf) ⟨by decide,by decide⟩ (by rw [er];intro a ha;cases ha) (by rw [er];exact Nat.zero_le _) (by rw [er];rfl) (zn6 (Nat.zero_le _)) hs) λ_ w' hs=>?_
  obtain ⟨b,rfl,hs⟩:=hs
  rw [er] at hs
  refine ⟨(some ⟨b,0,none⟩,0,()),rfl,trivial,z1v _ _ ?_⟩
  refine wp_lt ?_
  refine z03 ?_ (by simp)
  have hs:Sat w' (leP b (gM d)::dk d gD::l):=hs
  have k0:(gM d).1.L.d=d/\(gM d).1.L.pre=gP/\Cpl gP (gM d).1.L.l gD:=⟨by unfold gM;rw [z5d],by unfold gM;rw [z5d],by unfold gM;rw [z5d];exact c0⟩
  have hs:=gdk k0.1.symm hs
  refine z8 (zbd (b:=b) (M:=gM d) (D:=gD) gA (ByteArray.mk #[49]) 0 (by rw [k0.2.1];exact k0.2.2) (Nat.zero_le _) (λx _=>(g1 d x).2) hs) λ_ w' hs=>?_
  obtain ⟨x1,hv,hs⟩:=hs
  rw [(g1 d x1).1] at hv
  subst hv
  refine zd ?_
  rw [k0.1] at hs
  obtain ⟨S,hS⟩:∃ S,S=(z0v (gM d) gD (z01 0 x1 [z1u gA (ByteArray.mk #[49]) 0])).2:=⟨_,rfl⟩
  rw [<- hS] at hs
  have k1:=zsk (S:=(gM d,gD)) _ k0 hS
  have hs:=gdk k1.1.symm hs
  refine z8 (zbd (b:=b) (M:=S.1) (D:=S.2) gA (ByteArray.mk #[50]) 0 (by rw [k1.2.1];exact k1.2.2) (by have:=(g2 x1 hS).2.2;omega) (λx _=>(g2 x hS).2.1) hs) λ_ w' hs=>?_
  obtain ⟨x2,hv,hs⟩:=hs
  rw [(g2 x2 hS).1] at hv
  subst hv
  refine zd ?_
  rw [k1.1] at hs
  obtain ⟨U,hU⟩:∃ U,U=(z0v S.1 S.2 (z01 0 x2 [z1u gA (ByteArray.mk #[50]) 0])).2:=⟨_,rfl⟩
  rw [<- hU] at hs
  have k2:=zsk _ k1 hU
  have hs:=gdk k2.1.symm hs
  refine z8 (zbd (b:=b) (M:=U.1) (D:=U.2) gB (ByteArray.mk #[120]) 0 (by rw [k2.2.1];exact k2.2.2) (by have:=(g3 x1 hS hU).2.2;omega) (λx _=>(g3 x hS hU).2.1) hs) λ_ w' hs=>?_
  obtain ⟨x3,hv,hs⟩:=hs
  rw [(g3 x3 hS hU).1] at hv
  subst hv
  refine zd ?_
  rw [k2.1] at hs
  obtain ⟨V,hV⟩:∃ V,V=(z0v U.1 U.2 (z01 0 x3 [z1u gB (ByteArray.mk #[120]) 0])).2:=⟨_,rfl⟩
  rw [<- hV] at hs
  have k3:=zsk _ k2 hV
  have hs:=gdk k3.1.symm hs
  refine z8 (zg4 (b:=b) (M:=V.1) (D:=V.2) gB 1 (by rw [k3.2.1];exact k3.2.2) (by have:=(g4 x1 hS hU hV).2.2.2;omega) hs) λ_ w' hs=>?_
  rcases hs with ⟨h0,-,-⟩|⟨-,x4,hv,hs⟩
  ·have:=(g4 x1 hS hU hV).1
   rw [h0] at this;cases this
  rw [(g4 x4 hS hU hV).2.1] at hv
  subst hv
  refine zd ?_
  rw [k3.1] at hs
  obtain ⟨W,hW⟩:∃ W,W=(z0v V.1 V.2 (z01 1 x4 [z3h gB 1])).2:=⟨_,rfl⟩
  rw [<- hW] at hs
  have k4:=zsk _ k3 hW
  have hs:=gdk k4.1.symm hs
  obtain ⟨q1,q2,q3,q4,q5⟩:=g5 hS hU hV hW
  refine wp_lt ?_
  refine wp_lt ?_
  refine wp_lt ?_
  refine wp_lt ?_
  refine z8 (zic (b:=b) (M:=W.1) gA hs) λ_ w' hs=>?_
  obtain ⟨rfl,hs⟩:=hs
  rw [q1,q2]
  refine ⟨(ByteArray.mk #[50],true,()),rfl,trivial,z1v _ _ ?_⟩
  refine wp_lt ?_
  refine wp_lt ?_
  refine z8 (zic (b:=b) (M:=W.1) gB hs) λ_ w' hs=>?_
  obtain ⟨rfl,hs⟩:=hs
  rw [q3]
  refine ⟨(ByteArray.mk #[],false,()),rfl,trivial,z1v _ _ ?_⟩
  refine wp_lt ?_
  refine wp_lt ?_
  refine zm (λq w'=>q=(true,())/\Sat w' l) ?_ ?_
  rotate_left
  ·rintro _ w2 ⟨rfl,hs⟩
   refine zl ?_
   exact ⟨rfl,rfl,hs⟩
  refine z0u ?_ (by simp)
  refine z8 (zid (b:=b) (M:=W.1) hs) λ_ w' hs=>?_
  obtain ⟨rfl,hs⟩:=hs
  refine zd ?_
  refine z0u ?_ (by rw [q4];rfl)
  refine z8 (zwx (b:=b) (M:=W.1) (D:=W.2) (by rw [k4.2.1];exact k4.2.2) hs) λ_ w' hs=>?_
  obtain ⟨rfl,hs⟩:=hs
  refine zd ?_
  refine z0u ?_ (by rw [q5];rfl)
  refine z8 (zg4 (b:=b) (M:=W.1) (D:=W.2) gB 2 (by rw [k4.2.1];exact k4.2.2) (by omega) hs) λ_ w' hs=>?_
  rcases hs with ⟨-,rfl,hs⟩|⟨h0,-⟩
  rotate_left
  ·rw [q3] at h0;cases h0
  refine zd ?_
  refine wp_lt ?_
  exact zg ⟨rfl,hs.tail.tail⟩
def z1l (s:ByteArray):ByteArray:=if s.size>12 then s.extract 0 12 else s
theorem zan (s:ByteArray) (hs:Sat w l):Ret P F.a158 #[.string s] w λvs w'=>vs=[.string (z1l s)]/\Sat w' l :=
 zpa s <| by
  delta z02t AU Aj Ak;unfold z1l
  refine zf (λh=>?_) λh=>?_
  ·rw [if_pos (by omega)]
   refine wp_must (by omega) ?_
   refine wp_lt ?_
   exact ⟨rfl,rfl,hs⟩
  ·rw [if_neg (by omega)]
   refine wp_lt ?_
   exact ⟨rfl,rfl,hs⟩
end
instance:EncF zq 2 .str (λa=>a.r.value):=⟨λ_=>rfl⟩
instance:EncF zq 3 .bool (λa=>a.r.gone):=⟨λ_=>rfl⟩
theorem z09w (a:Addr):Addr.add (Addr.add a 1) 1=Addr.add a 2:=rfl
theorem z09x (a:Addr):Addr.add (Addr.add a 1) 2=Addr.add a 3:=rfl
theorem zwn (l:List AtM):z0g l (ByteArray.mk #[])=0:=by
 unfold z0g
 rw [List.filter_eq_nil_iff.2 λa _=>?_];rfl
 have:ltS a.r.key (ByteArray.mk #[])=false:=by
  unfold ltS
  rw [show ByteArray.toList (ByteArray.mk #[])=[] by rw [ByteArray.toList_eq]]
  cases ByteArray.toList a.r.key <;> rfl
 rw [this];simp
section
variable {w:World} {l r r1:List HP} {a b t:Nat} {L:List RecM} {C:TbC} {M:LedA}
theorem zym (fr:ByteArray) (most:Int) (hm:0<=most) [hf:Fo l tbC t C r] (hs:Sat w l):Ret P F.a7 #[.pointer (some ⟨t,0,none⟩),.string fr,.string (ByteArray.mk #[]),.int .i64 most] w λvs w'=>∃ z:Sl,vs=[z.v]/\Sat w' (slc T.a35 5 z (((C.l.drop (z0g C.l fr)).take most.toNat).flatMap zq)::tbC t C::r) :=
 zy9 _ fr _ most <| by
  delta zf6 AA AC AG AJ AK AO AW AY AZ Aa Ab Ac Ah Aj Ak An Aw Bn Bo Br
  have hs:=hs.perm hf.perm
  clear hf
  refine z03 ?_ (by simp)
  obtain ⟨y,hok,hs⟩:=z7g hs
  have hyl:=hs.slen y (xs:=C.l) (enc:=zq)
  have hyc:=(hs.pick [1]).slc_cap
  refine z02 hs λw' hs=>?_
  refine zi ?_
  refine z0s hs ?_
  refine z8 (zlg (t:=t) (C:=C) (z:=y) fr hok hs) λ_ w' hs=>?_
  obtain ⟨rfl,hs⟩:=hs
  refine zd ?_ (by first|trivial|(repeat (first|exact trivial|exact λ_=>z07 hs|exact λ_=>z0d hs|refine And.intro ?_ ?_)))
  have hfl:=zi5 C.l fr
  have hok2:=hok.2
  generalize z0g C.l fr=k at *
  refine wp_must (by rw [hyl];omega) ?_
  refine ze ?_
  rw [Int.toNat_natCast]
  have hxl:(C.l.drop k).length=C.l.length-k:=List.length_drop ..
  refine zm (λq w'=>∃ z:Sl,q=(z,())/\Sat w' (slc T.a35 5 z (((C.l.drop k).take most.toNat).flatMap zq)::tbC t C::r)) ?_ ?_
  rotate_left
  ·rintro _ w2 ⟨z,rfl,hs⟩
   refine zl ?_
   exact ⟨rfl,z,rfl,hs⟩
  have hs:Sat w' (slc T.a35 5 ⟨none,0,0⟩ (([]:List AtM).flatMap zq)::pt t (.cells #[.int .i64 C.next,.slice y.a y.len y.cap] T.a4)::slc T.a35 5 y (C.l.flatMap zq)::r):=hs.slc_nil
  refine z0c (λm q w=>∃ (i:Nat) (z:Sl),q=(z,(i:Int),())/\i<=C.l.length-k/\i<=most.toNat/\C.l.length-k-i=m/\Sat w (slc T.a35 5 z (((C.l.drop k).take i).flatMap zq)::pt t (.cells #[.int .i64 C.next,.slice y.a y.len y.cap] T.a4)::slc T.a35 5 y (C.l.flatMap zq)::r)) (C.l.length-k)
   ⟨0,⟨none,0,0⟩,rfl,by omega,by omega,rfl,hs⟩ ?_
  clear hs
  rintro m _ w ⟨i,z,rfl,hi,him,hmm,hs⟩
  refine z1v _ _ ?_
  have hzl:=hs.slen z (xs:=(C.l.drop k).take i) (enc:=zq)
  have hzi:z.len=i:=by rw [hzl,List.length_take,hxl];omega
  have hcl:∀ {w:World},Sat w (slc T.a35 5 z (((C.l.drop k).take i).flatMap zq)::pt t (.cells #[.int .i64 C.next,.slice y.a y.len y.cap] T.a4)::slc T.a35 5 y (C.l.flatMap zq)::r)->Sat w (slc T.a35 5 z (((C.l.drop k).take i).flatMap zq)::tbC t C::r):=λhs=>by
   have hs:=z50 C (z:=y) hok (hs.pick [1,1])
   exact hs.pick [1]
  refine zf (λhc=>?_) λhc=>?_
  rotate_left
  ·have hil:i=C.l.length-k:=by omega
   have e:(C.l.drop k).take i=(C.l.drop k).take most.toNat:=by
    rw [List.take_of_length_le (by omega),List.take_of_length_le (by omega)]
   have hs:=hcl hs
   rw [e] at hs
   exact zn (zg ⟨z,rfl,hs⟩)
  have hil:i<(C.l.drop k).length:=by omega
  have hfp:FocR (slc T.a35 5 z (((C.l.drop k).take i).flatMap zq)::pt t (.cells #[.int .i64 C.next,.slice y.a y.len y.cap] T.a4)::slc T.a35 5 y (C.l.flatMap zq)::r) ⟨z0w y.a 5 k y.cap,y.len-k,y.cap-k⟩ 5 ((C.l.drop k).flatMap zq):=FocR.post (by omega)
  refine z2v (x:=⟨z0w y.a 5 k y.cap,y.len-k,y.cap-k⟩) hs (xs:=C.l.drop k) (enc:=zq) i hil ?_
  refine zt hs λa13 w' hs=>?_
  refine zv hs λw' hs=>?_
  refine zb hs ?_
  by_cases hfull:(i:Int)>=most
  ·refine z6s (by rw [hzi,Bool.or_eq_true];exact .inr (decide_eq_true hfull)) ?_
   have e:i=most.toNat:=by omega
   have hs:=hcl hs.tail
   rw [e] at hs
   exact zn (zg ⟨z,rfl,hs⟩)
  refine z3p (by rw [hzi,Bool.or_eq_false_iff];exact ⟨by rw [beq_self_eq_true];rfl,decide_eq_false hfull⟩) ?_
  refine zj hs ?_
  refine z5j hs (xs:=(C.l.drop k).take i) (enc:=zq) ((C.l.drop k)[i]) (λz2 w' hs=>?_) rfl (by rw [List.length_take];omega)
  have htk:(C.l.drop k).take (i+1)=(C.l.drop k).take i++[(C.l.drop k)[i]]:=by rw [List.take_add_one,List.getElem?_eq_getElem hil,Option.toList_some]
  rw [<- htk] at hs
  refine z29 (us':=[z2.v,.int .i64 ((i+1:Nat):Int)]) (by (try simp (disch:=omega) only [w64]);first|rfl|(congr;omega)) ?_
  exact z0z (C.l.length-k-(i+1)) ⟨i+1,z2,rfl,by omega,by omega,rfl,hs.sub⟩
theorem zww (most:Int) (hm:0<=most) [hf:Fo l leP b M r] (hs:Sat w l):Ret P F.a70 #[.pointer (some ⟨b,0,none⟩),.string (ByteArray.mk #[]),.string (ByteArray.mk #[]),.int .i64 most] w λvs w'=>∃ z:Sl,vs=[z.v]/\Sat w' (slc T.a35 5 z ((M.2.l.take most.toNat).flatMap zq)::leP b M::r) :=
 zv5 _ _ _ most <| by
  delta z094 AB AT AY Aa Ah Aj Ak
  obtain ⟨t,p,hs⟩:=z9c (hs.perm hf.perm)
  refine z03 ?_ (by simp)
  refine zi ?_
  refine zb hs ?_
  refine z8 (zym (t:=t) (C:=M.2) (ByteArray.mk #[]) most hm hs) λ_ w' hs=>?_
  obtain ⟨z,rfl,hs⟩:=hs
  refine zd ?_
  rw [zwn,List.drop_zero] at hs
  refine ⟨rfl,z,rfl,?_⟩
  have hs:Sat w' (leP b M::slc T.a35 5 z ((M.2.l.take most.toNat).flatMap zq)::r):=z6k (t:=t) (p:=p) M hs
  exact hs.pick [1]
set_option maxHeartbeats 1000000 in
theorem zgb {r1:List HP} (hi:InvL M.2 L) (hn:M.2.l.length<=1000) [hf:Fo l leP b M r1] [hf2:Fo r1 rlP a L r] (hs:Sat w l):Ret P F.a157 #[.pointer (some ⟨b,0,none⟩),.pointer (some ⟨a,0,none⟩)] w λvs w'=>vs=[.bool true]/\Sat w' (leP b M::rlP a L::r) :=
 zp9 _ _ <| by
  delta z02s AA AD AT AU AV AW AX Aa Af Ah Aj Ak Al Am An Aw Ax
  have hs:=hs.perm (hf.perm.trans (.cons _ hf2.perm))
  clear hf hf2
  refine z03 ?_ (by simp)
  refine z8 (z00f (a:=a) (L:=L) hs) λ_ w' hs=>?_
  obtain ⟨z,ks,rfl,hks,-,hs⟩:=hs
  refine zd ?_
  have hke:ks=M.2.l.map λa=>a.r.key:=by
   refine znm hks.sort ?_ λk=>?_
   ·rw [List.pairwise_map];exact hi.sort
   ·rw [hks.mem,zsn hi]
  have hkl:ks.length=M.2.l.length:=by rw [hke,List.length_map]
  refine z8 (zww (b:=b) (M:=M) 1000 (by omega) hs) λ_ w' hs=>?_
  obtain ⟨y,rfl,hs⟩:=hs
  refine zd ?_
  rw [show (1000:Int).toNat=1000 from rfl,List.take_of_length_le hn] at hs
  have hzl:=hs.slen z (xs:=ks) (enc:=z1k)
  have hyl:=hs.slen y (xs:=M.2.l) (enc:=zq)
  have hs:Sat w' (leP b M::rlP a L::slc T.a35 5 y (M.2.l.flatMap zq)::slc T.a49 1 z (ks.flatMap z1k)::r):=hs.sub
  refine z8 (zid (b:=b) (M:=M) hs) λ_ w' hs=>?_
  obtain ⟨rfl,hs⟩:=hs
  refine zd ?_
  refine z3p (by rw [hzl,hyl,hkl];simp) ?_
  refine zm (λq w'=>Sat w' (leP b M::rlP a L::r)) ?_ ?_
  rotate_left
  ·rintro _ w2 hs
   refine zl ?_
   exact ⟨rfl,rfl,hs⟩
  refine z0c (λm q w=>∃ i:Nat,q=((i:Int),())/\i<=ks.length/\ks.length-i=m/\Sat w (leP b M::rlP a L::slc T.a35 5 y (M.2.l.flatMap zq)::slc T.a49 1 z (ks.flatMap z1k)::r)) ks.length ⟨0,rfl,by omega,rfl,hs⟩ ?_
  clear hs
  rintro m _ w ⟨i,rfl,hil,hm,hs⟩
  refine zl ?_
  refine zf (λhc=>?_) λhc=>?_
  rotate_left
  ·exact zn (zg hs.sub)
  have hi1:i<ks.length:=by omega
  have hi2:i<M.2.l.length:=by omega
  have hki:ks[i]=M.2.l[i].r.key:=by simp only [hke,List.getElem_map]
  have hgc:z24 M.2.l ks[i]=some M.2.l[i]:=(zbb hi.sort).2 ⟨List.getElem_mem hi2,hki.symm⟩
  have hgone:=hi.gone _ (List.getElem_mem hi2)
  have hgr:z7c L ks[i]=(M.2.l[i].r.value,true):=by
   have h1:=hi.get ks[i]
   rw [hgc] at h1
   have h1:some M.2.l[i].r=z57 L ks[i]:=h1
   unfold z57 at h1
   unfold z7c
   cases hq:z7u L ks[i] with
   | none=>rw [hq] at h1;cases h1
   | some u =>
    rw [hq,Option.filter_some] at h1
    by_cases hu:(!u.gone)=true
    ·rw [if_pos hu] at h1
     rw [<- Option.some.inj h1]
     show (M.2.l[i].r.value,!M.2.l[i].r.gone)=_
     rw [hgone];rfl
    ·rw [if_neg hu] at h1;cases h1
  refine z27 hs (xs:=ks) (enc:=z1k) i hi1 ?_
  refine wp_lt ?_
  refine wp_lt ?_
  refine z8 (zic (b:=b) (M:=M) ks[i] hs) λ_ w' hs=>?_
  obtain ⟨rfl,hs⟩:=hs
  rw [hgc]
  refine ⟨(M.2.l[i].r.value,true,()),rfl,trivial,z1v _ _ ?_⟩
  refine wp_lt ?_
  refine wp_lt ?_
  refine z8 (zrd (a:=a) (L:=L) ks[i] hs) λ_ w' hs=>?_
  obtain ⟨rfl,hs⟩:=hs
  rw [hgr]
  refine ⟨(M.2.l[i].r.value,true,()),rfl,trivial,z1v _ _ ?_⟩
  refine wp_lt ?_
  refine wp_lt ?_
  have hs:Sat w' (leP b M::rlP a L::slc T.a35 5 y (M.2.l.flatMap zq)::slc T.a49 1 z (ks.flatMap z1k)::r):=hs.sub
  simp only [add_zero,z09w,z09x]
  refine z7h hs (xs:=M.2.l) (enc:=zq) M.2.l[i].r.key (λ_=>⟨i,hi2,rfl,rfl⟩) ?_
  refine z7h hs (xs:=M.2.l) (enc:=zq) M.2.l[i].r.value (λ_=>⟨i,hi2,rfl,rfl⟩) ?_
  refine z7h hs (xs:=M.2.l) (enc:=zq) M.2.l[i].r.gone (λ_=>⟨i,hi2,rfl,rfl⟩) ?_
  refine z3p (by rw [hgone,hki];simp) ?_
  refine z29 (us':=[.int .i64 ((i+1:Nat):Int)]) (by (try simp (disch:=omega) only [w64]);first|rfl|(congr;omega)) ?_
  exact z0z (ks.length-(i+1)) ⟨i+1,rfl,by omega,rfl,hs⟩
end
inductive Hist:List BatM->ViewA->Prop where
 | nil:Hist [] ⟨0,[],[]⟩
 | snoc {bs:List BatM} {A:ViewA} {b:BatM}:Hist bs A->z4a A b=0->Hist (bs++[b]) (z3l A b)
theorem zkh {A:ViewA} {b:BatM}:(z3l A b).next=b.base+zp b:=by
 unfold z3l
 split
 ·rfl
 ·split
  ·split <;> rfl
  ·rfl
theorem zjm {bs:List BatM} {A:ViewA} (h:Hist bs A):bs.Pairwise (λa b=>a.base<b.base)/\∀ b ∈ bs,b.base<A.next:=by
 induction h with
 | nil=>exact ⟨.nil,by simp⟩
 | @snoc bs A b _ hc ih =>
  obtain ⟨hv,hb,-⟩:=z8o hc
  have hs:=(z15 b hv).1
  refine ⟨?_,λc hcm=>?_⟩
  ·rw [List.pairwise_append]
   refine ⟨ih.1,by simp,λc hcm d hd=>?_⟩
   rw [List.mem_singleton.1 hd]
   have:=ih.2 c hcm
   omega
  ·rw [zkh]
   rcases List.mem_append.1 hcm with hcm|hcm
   ·have:=ih.2 c hcm;omega
   ·rw [List.mem_singleton.1 hcm];omega
theorem z06u {s:Int}:∀ {bs:List BatM},bs.Pairwise (λa b=>a.base<b.base)->∃ b1 b2,bs=b1++b2/\(∀ c ∈ b1,c.base<s)/\∀ c ∈ b2,c.base>=s
 | [],_=>⟨[],[],rfl,by simp,by simp⟩
 | b::r,h=>by
  rw [List.pairwise_cons] at h
  by_cases hb:b.base<s
  ·obtain ⟨b1,b2,rfl,h1,h2⟩:=z06u (s:=s) h.2
   refine ⟨b::b1,b2,rfl,λc hc=>?_,h2⟩
   rcases List.mem_cons.1 hc with rfl|hc
   ·exact hb
   ·exact h1 c hc
  ·refine ⟨[],b::r,rfl,by simp,λc hc=>?_⟩
   rcases List.mem_cons.1 hc with rfl|hc
   ·omega
   ·have:=h.1 c hc;omega
structure InvQ (q:ByteArray) (A:PartA) (D:DiskA) (d:Nat):Prop where
 cpl:Cpl q A.L.l D
 calm:Calm D
 pre:A.L.pre=q
 dd:A.L.d=d
 hist:Hist (z04 A.L.l) A.V
 nxt:A.V.next<=zh A.L.l
 fst:z14 A.L.l=0
theorem znt {seg:Int} {l:List SegA} {bs:List BatM} (h:z14 l=0):z14 (z0y seg l bs).2=0:=by
 unfold z0y
 split
 ·exact h
 split
 ·exact h
 show z14 (if _ then _ else _)=0
 cases l with
 | nil=>rfl
 | cons s r =>
  have hs:s.base=0:=h
  split
  ·unfold z4j
   cases hq:(s::r).getLast? with
   | none=>exact h
   | some t =>
    cases r with
    | nil =>
     have:t=s:=by simpa using hq.symm
     subst this
     exact hs
    | cons u r=>exact hs
  ·exact hs
theorem zz7 (q:ByteArray) (d n:Nat) (hn:n<=4194304) (seg gap most:Int):InvQ q (z26 ⟨d,q,seg,gap,[]⟩ most) ⟨n,-1,false,[]⟩ d :=
 ⟨zj5 q n hn,⟨rfl,rfl⟩,rfl,rfl,.nil,Int.le_refl _,rfl⟩
theorem zml {n:Int} {c:BatM} (hv:zy (c.to n)=0):zx n [c]=(0,[c.to n]):=by
 unfold zx
 rw [if_neg (by rw [hv];simp)]
 rfl
theorem zz8 {q:ByteArray} {A:PartA} {D:DiskA} {d:Nat} (hq:z17 q=true) (b:BatM) (h:InvQ q A D d) :
  InvQ q (z0j A D b).2.1 (z0j A D b).2.2 d/\(((z0j A D b).2.1.L.l=A.L.l/\(z0j A D b).2.1.V=A.V/\((z0j A D b).1.2.2≠0\/(z0j A D b).1.2.1=true)) \/
   ∃ c,z4a A.V c=0/\z04 (z0j A D b).2.1.L.l=z04 A.L.l++[c]/\(z0j A D b).2.1.V=z3l A.V c/\c.rs=b.rs/\c=(b.to (zh A.L.l)).p/\(z0j A D b).1=(zh A.L.l,false,0)/\zh (z0j A D b).2.1.L.l=c.base+zp c):=by
 have hpre:z17 A.L.pre=true:=by rw [h.pre];exact hq
 have hcp:Cpl A.L.pre A.L.l D:=by rw [h.pre];exact h.cpl
 unfold z0j
 split
 ·rename_i hn
  exact ⟨h,.inl ⟨rfl,rfl,hn⟩⟩
 rename_i hn
 have hask:(z7a A (b.to (zh A.L.l))).2=0:=Classical.byContradiction λg=>hn (.inl g)
 have hcode:z4a A.V (b.to (zh A.L.l))=0:=by
  unfold z7a at hn hask
  by_cases g:(z1g A.T (b.to (zh A.L.l))).2≠0\/(z1g A.T (b.to (zh A.L.l))).1.again=true
  ·rw [if_pos g] at hn;exact absurd g hn
  ·rw [if_neg g] at hask;exact hask
 obtain ⟨hv,hbase,-⟩:=z8o hcode
 obtain ⟨c,hc⟩:∃ c,c=b.to (zh A.L.l):=⟨_,rfl⟩
 have hcn:c.to (zh A.L.l)=c:=by rw [hc];rfl
 have hcb:c.base=zh A.L.l:=by rw [hc];rfl
 have hcr:c.rs=b.rs:=by rw [hc];rfl
 rw [<- hc] at hcode hv ⊢
 have hst:=z6j A.L.seg [c] hpre hcp
 have hcalm:=hst.2.2.2.2 h.calm
 have hpl:zx (zh A.L.l) [c]=(0,[c]):=by rw [zml (by rw [hcn];exact hv),hcn]
 have hall:=zc6 (seg:=A.L.seg) (bs:=[c]) hcp.segs (by simp) (by rw [hpl])
 rw [hpl] at hall
 have hfst:=znt (seg:=A.L.seg) (bs:=[c]) h.fst
 unfold zbl
 rcases zh4 A.L.pre A.L.seg A.L.l D [c] with ⟨h1,h2⟩|⟨h1,h2,h3,h4⟩
 ·have e:(z0y A.L.seg A.L.l [c]).1=(zh A.L.l,0):=by
   unfold z0y
   rw [if_neg (by simp),if_neg (by rw [hpl];simp)]
  rw [if_neg (by rw [h1,e];simp)]
  obtain ⟨y1,y2,y3,y4,y5⟩:=z40 hst.1
  rw [if_neg (by rw [y5 hcalm];simp)]
  have e2:c.to (z0e A.L.pre A.L.seg A.L.l D [c]).1.1=c:=by rw [h1,e];exact hcn
  rw [e2]
  have hal:z04 (z0e A.L.pre A.L.seg A.L.l D [c]).2.1=z04 A.L.l++[c.p]:=by rw [h2];exact hall.1
  have hnx:zh (z0e A.L.pre A.L.seg A.L.l D [c]).2.1=c.base+zp c:=by rw [h2];exact hall.2
  have htk:(z81 A.V c).2=z3l A.V c.p:=by
   unfold z81
   rw [if_neg (by rw [hcode];simp)]
   rfl
  have hcp2:z4a A.V c.p=0:=hcode
  refine ⟨⟨by rw [h.pre] at y1;rw [h.pre];exact y1,zc0 hcalm _ _,h.pre,h.dd,?_,?_,?_⟩,.inr ⟨c.p,hcp2,hal,htk,hcr,rfl,by rw [h1,e],hnx⟩⟩
  ·show Hist (z04 (z0e A.L.pre A.L.seg A.L.l D [c]).2.1) (z81 A.V c).2
   rw [hal,htk]
   exact .snoc h.hist hcp2
  ·show (z81 A.V c).2.next<=zh (z0e A.L.pre A.L.seg A.L.l D [c]).2.1
   rw [htk,hnx,zkh]
   exact Int.le_refl _
  ·show z14 (z0e A.L.pre A.L.seg A.L.l D [c]).2.1=0
   rw [h2]
   exact hfst
 ·rw [if_pos h2]
  refine ⟨⟨?_,hcalm,h.pre,h.dd,?_,?_,?_⟩,.inl ⟨h3,rfl,.inl h2⟩⟩
  ·have:=hst.1
   rw [h.pre] at this ⊢
   exact this
  ·show Hist (z04 (z0e A.L.pre A.L.seg A.L.l D [c]).2.1) A.V
   rw [h3];exact h.hist
  ·show A.V.next<=zh (z0e A.L.pre A.L.seg A.L.l D [c]).2.1
   rw [h3];exact h.nxt
  ·show z14 (z0e A.L.pre A.L.seg A.L.l D [c]).2.1=0
   rw [h3];exact h.fst
structure InvG (q:ByteArray) (M:LedA) (D:DiskA) (d:Nat) (L:List RecM):Prop where
 q:InvQ q M.1 D d
 led:InvL M.2 L
 recs:(z18 (z04 M.1.L.l)).map (·.r)=L
 kind:∀ b ∈ z04 M.1.L.l,b.kind=0
 tn:M.2.next<=zh M.1.L.l
 nx:zh M.1.L.l=(L.length:Nat)
 len:M.2.l.length<=L.length
theorem z00s {b:BatM} {n:Int} (h0:b.base=0) (hn:0<=n/\n<=1000000) (hp:b.pid=0) (hr:b.rs.length<=1000000):zy (b.to n)=zy b:=by
 have e1:z37 (b.to n)↔z37 b:=by
  unfold z37
  show ((0<=b.kind/\b.kind<=3)/\(0<=n/\n<=1099511627776)/\_)↔((0<=b.kind/\b.kind<=3)/\(0<=b.base/\b.base<=1099511627776)/\_)
  rw [h0]
  constructor
  ·rintro ⟨x,-,y⟩;exact ⟨x,by omega,y⟩
  ·rintro ⟨x,-,y⟩;exact ⟨x,by omega,y⟩
 have e2:z36 (b.to n)↔z36 b:=Iff.rfl
 have hsp:zp b<=1000000:=by
  unfold zp
  split <;> omega
 unfold zy
 rw [show (b.to n).rs=b.rs from rfl,show zp (b.to n)=zp b from rfl,show (b.to n).base=n from rfl,show (b.to n).pid=b.pid from rfl,h0,hp]
 by_cases hc:¬ z37 b\/¬ z36 b
 ·rw [if_pos hc,if_pos (by rw [e1,e2];exact hc)]
 ·rw [if_neg hc,if_neg (by rw [e1,e2];exact hc)]
  split
  ·rfl
  split
  ·rfl
  rw [if_neg (by omega),if_neg (by omega)]
theorem zdo:∀ (rs:List RecM) (f base:Int) (g:Nat->RecM->AtM) (hg:∀ i r,i<1000000->(g i r).off=base+i) (k:Nat),k+rs.length<=1000000->f<=base+k->z1j f (rs.mapIdx λi r=>g (k+i) r)=true
 | [],f,base,g,hg,k,_,_=>by rw [List.mapIdx_nil];rfl
 | x::rs,f,base,g,hg,k,hk,hf=>by
  rw [List.mapIdx_cons]
  show (if (g (k+0) x).off<f then false else z1j ((g (k+0) x).off+1) (rs.mapIdx λi r=>g (k+(i+1)) r))=true
  rw [List.length_cons] at hk
  have h0:=hg (k+0) x (by omega)
  rw [if_neg (by rw [h0];omega)]
  have:=zdo rs ((g (k+0) x).off+1) base g hg (k+1) (by omega) (by rw [h0];omega)
  have e:(rs.mapIdx λi r=>g (k+(i+1)) r)=rs.mapIdx λi r=>g (k+1+i) r:=by
   congr 1;funext i r;congr 1;omega
  rw [e];exact this
theorem z71 {b:BatM} (hk:b.kind=0):z0r b=b.rs.mapIdx λi r=>atF b.base i r:=by
 unfold z0r z0b
 rw [hk];rfl
theorem zsh {b:BatM} (hk:b.kind=0):(z0r b).map (·.r)=b.rs:=by
 rw [z71 hk]
 apply List.ext_getElem (by simp)
 intro i h1 h2
 simp [atF]
theorem zk9:∀ (xs:List AtM) (C:TbC),(xs.foldl z21 C).next=match xs.getLast? with|none=>C.next|some a=>a.off+1
 | [],C=>rfl
 | [x],C=>rfl
 | x::y::xs,C=>by
  rw [List.foldl_cons,zk9 (y::xs),List.getLast?_cons_cons]
  have:∃ u,(y::xs).getLast? = some u:=⟨_,List.getLast?_eq_some_getLast (by simp)⟩
  obtain ⟨u,hu⟩:=this
  rw [hu]
theorem zhb {base:Int} (hb:0<=base/\base<=1099511627776) (i:Nat) (hi:i<1000000) (r:RecM):(atF base i r).off=base+i:=by
 show IntKind.wrap .i64 (base+i)=_
 rw [w64 (by omega) (by omega)]
theorem zs0 {C:TbC} {b:BatM} (hk:b.kind=0) (hv:zy b=0) (hn:C.next<=b.base):z3g C (z0r b)=(0,(z0r b).foldl z21 C)/\((z0r b).foldl z21 C).next<=b.base+zp b:=by
 obtain ⟨h64,-⟩:=z2e hv
 have hsp:=z15 b hv
 have hbase:=hsp.2.2.1.2.1
 have hspan:zp b=(b.rs.length:Nat):=by unfold zp z0b;rw [hk];rfl
 have hr:z1j C.next (z0r b)=true:=by
  rw [z71 hk]
  have:=zdo b.rs C.next b.base (λi r=>atF b.base i r) (λi r hi=>zhb hbase i hi r) 0 (by omega) (by omega)
  simpa using this
 have hoff:∀ a ∈ z0r b,a.off<b.base+zp b:=λa ha=>by
  rw [z71 hk] at ha
  obtain ⟨i,hi,rfl⟩:=List.mem_mapIdx.1 ha
  rw [zhb hbase i (by omega),hspan];omega
 have hlim:b.base+zp b<=1099511627776+1:=by
  have:=hv
  unfold zy at this
  split at this
  ·cases this
  split at this
  ·cases this
  split at this
  ·rename_i h;exact absurd this h
  split at this
  ·cases this
  ·omega
 have hl:z8m (z0r b)=false:=by
  unfold z8m
  cases hq:(z0r b).getLast? with
  | none=>rfl
  | some a =>
   have:=hoff a (List.mem_of_getLast? hq)
   show decide (a.off>1099511627776)=false
   rw [decide_eq_false (by omega)]
 refine ⟨?_,?_⟩
 ·unfold z3g
  rw [if_neg (by rw [hr,hl];simp)]
 ·rw [zk9]
  cases hq:(z0r b).getLast? with
  | none=>show C.next<=_;rw [hspan];omega
  | some a =>
   have:=hoff a (List.mem_of_getLast? hq)
   show a.off+1<=_
   omega
theorem zg0 (q:ByteArray) (d n:Nat) (hn:n<=4194304) (seg gap most:Int):InvG q (z26 ⟨d,q,seg,gap,[]⟩ most,⟨0,[]⟩) ⟨n,-1,false,[]⟩ d [] :=
 ⟨zz7 q d n hn seg gap most,zm1 0,(by rw [z5d];rfl),(by rw [z5d];intro b hb;cases hb),(by rw [z5d];exact Int.le_refl _),(by rw [z5d];rfl),Nat.le_refl _⟩
theorem zz5 {q:ByteArray} {M:LedA} {D:DiskA} {d:Nat} {L:List RecM} (hq:z17 q=true) (time:Int) (x:Sl) (rs:List RecM) (hr:rs.length<=1000) (hL:L.length<=100000) (h:InvG q M D d L) :
  (zy (z01 time x rs)≠0/\(z0v M D (z01 time x rs)).1=zy (z01 time x rs)/\InvG q (z0v M D (z01 time x rs)).2.1 (z0v M D (z01 time x rs)).2.2 d L/\(z0v M D (z01 time x rs)).2.1.2=M.2) \/
  (zy (z01 time x rs)=0/\(z0v M D (z01 time x rs)).1=5/\InvG q (z0v M D (z01 time x rs)).2.1 (z0v M D (z01 time x rs)).2.2 d L/\(z0v M D (z01 time x rs)).2.1.2=M.2) \/
  (zy (z01 time x rs)=0/\(z0v M D (z01 time x rs)).1=0/\InvG q (z0v M D (z01 time x rs)).2.1 (z0v M D (z01 time x rs)).2.2 d (L++rs)):=by
 obtain ⟨hv⟩:∃ _:Unit,True:=⟨(),trivial⟩
 have hnx:=h.nx
 have hvt:=z00s (b:=z01 time x rs) (n:=zh M.1.L.l) rfl (by omega) rfl (by show rs.length<=_;omega)
 obtain ⟨i1,i2⟩:=zz8 hq (z01 time x rs) h.q
 have hask:z7a M.1 ((z01 time x rs).to (zh M.1.L.l))=(⟨false,0⟩,zy (z01 time x rs)):=by
  have hj:z1g M.1.T ((z01 time x rs).to (zh M.1.L.l))=(⟨false,0⟩,zy (z01 time x rs)):=by
   unfold z1g
   rw [if_pos (.inr rfl),hvt]
  unfold z7a
  rw [hj]
  by_cases h0:zy (z01 time x rs)≠0
  ·rw [if_pos (.inl h0)]
  ·rw [if_neg (by simp;omega)]
   have hc:z4a M.1.V ((z01 time x rs).to (zh M.1.L.l))=0:=by
    unfold z4a
    rw [hvt,if_neg h0,if_neg (by have:=h.q.nxt;show ¬ zh M.1.L.l<_;omega)]
    rfl
   rw [hc]
   have:zy (z01 time x rs)=0:=by omega
   rw [this]
 by_cases h0:zy (z01 time x rs)≠0
 ·have hp:z0j M.1 D (z01 time x rs)=((0,false,zy (z01 time x rs)),M.1,D):=by
   unfold z0j
   rw [hask,if_pos (.inl h0)]
  have hl:z0v M D (z01 time x rs)=(zy (z01 time x rs),M,D):=by
   unfold z0v
   rw [hp,if_pos h0]
  rw [hl]
  exact .inl ⟨h0,rfl,h,rfl⟩
 have hv0:zy (z01 time x rs)=0:=by omega
 rcases i2 with ⟨j1,j2,j3⟩|⟨c,j1,j2,j3,j4,j5,j6,j7⟩
 ·have hp:z0j M.1 D (z01 time x rs)=zbl M.1 D ((z01 time x rs).to (zh M.1.L.l)):=by
   unfold z0j
   rw [hask,if_neg (by simp;omega)]
  have he:(z0j M.1 D (z01 time x rs)).1.2.2=5:=by
   have hcp:Cpl M.1.L.pre M.1.L.l D:=by rw [h.q.pre];exact h.q.cpl
   have hpre:z17 M.1.L.pre=true:=by rw [h.q.pre];exact hq
   rw [hp] at j3 ⊢
   unfold zbl at j3 ⊢
   rcases zjo M.1.L.seg [(z01 time x rs).to (zh M.1.L.l)] hpre hcp h.q.calm with ⟨f1,f2⟩|⟨f1,-⟩
   ·exfalso
    have hst:=z6j M.1.L.seg [(z01 time x rs).to (zh M.1.L.l)] hpre hcp
    have hpl:zx (zh M.1.L.l) [(z01 time x rs).to (zh M.1.L.l)]=(0,[(z01 time x rs).to (zh M.1.L.l)]):=zml (by rw [show ((z01 time x rs).to (zh M.1.L.l)).to (zh M.1.L.l)=(z01 time x rs).to (zh M.1.L.l) from rfl,hvt];exact hv0)
    have hra:(z0y M.1.L.seg M.1.L.l [(z01 time x rs).to (zh M.1.L.l)]).1=(zh M.1.L.l,0):=by
     unfold z0y
     rw [if_neg (by simp),if_neg (by rw [hpl];simp)]
    rw [if_neg (by rw [f1,hra];simp)] at j3
    obtain ⟨y1,y2,y3,y4,y5⟩:=z40 hst.1
    rw [if_neg (by rw [y5 (hst.2.2.2.2 h.q.calm)];simp)] at j3
    rcases j3 with j3|j3
    ·exact j3 rfl
    ·cases j3
   ·rw [if_pos (by rw [f1];simp),f1]
  have hl:z0v M D (z01 time x rs)=(5,((z0j M.1 D (z01 time x rs)).2.1,M.2),(z0j M.1 D (z01 time x rs)).2.2):=by
   unfold z0v
   rw [if_pos (by rw [he];omega),he]
  rw [hl]
  refine .inr (.inl ⟨hv0,rfl,⟨i1,h.led,?_,?_,?_,?_,h.len⟩,rfl⟩)
  ·show (z18 (z04 (z0j M.1 D (z01 time x rs)).2.1.L.l)).map (·.r)=L
   rw [j1];exact h.recs
  ·show ∀ b ∈ z04 (z0j M.1 D (z01 time x rs)).2.1.L.l,b.kind=0
   rw [j1];exact h.kind
  ·show M.2.next<=zh (z0j M.1 D (z01 time x rs)).2.1.L.l
   rw [j1];exact h.tn
  ·show zh (z0j M.1 D (z01 time x rs)).2.1.L.l=_
   rw [j1];exact h.nx
 ·have hcb:c.base=zh M.1.L.l:=by rw [j5];rfl
  have hck:c.kind=0:=by rw [j5];rfl
  have hcv:zy c=0:=(z8o j1).1
  have hcr:c.rs=rs:=j4
  have hspan:zp c=(rs.length:Nat):=by unfold zp z0b;rw [hck,hcr];rfl
  have hfl:z0r ((z01 time x rs).to (zh M.1.L.l))=z0r c:=by rw [j5];rfl
  obtain ⟨a1,a2⟩:=zs0 (C:=M.2) hck hcv (by rw [hcb];exact h.tn)
  have hl:z0v M D (z01 time x rs)=(0,((z0j M.1 D (z01 time x rs)).2.1,(z0r c).foldl z21 M.2),(z0j M.1 D (z01 time x rs)).2.2):=by
   unfold z0v
   rw [if_neg (by rw [j6];simp),j6]
   show (0,((z0j M.1 D (z01 time x rs)).2.1,(z3g M.2 (z0r ((z01 time x rs).to (zh M.1.L.l)))).2),_)=_
   rw [hfl,a1]
  rw [hl]
  have hfr:(z0r c).map (·.r)=rs:=by rw [zsh hck,hcr]
  refine .inr (.inr ⟨hv0,rfl,⟨i1,?_,?_,?_,?_,?_,?_⟩⟩)
  ·have:=zdc (z0r c) h.led
   rw [hfr] at this
   exact this
  ·show (z18 (z04 (z0j M.1 D (z01 time x rs)).2.1.L.l)).map (·.r)=L++rs
   rw [j2]
   unfold z18
   rw [List.flatMap_append,List.map_append]
   have h1:=h.recs
   unfold z18 at h1
   rw [h1,List.flatMap_cons,List.flatMap_nil,List.append_nil,hfr]
  ·show ∀ b ∈ z04 (z0j M.1 D (z01 time x rs)).2.1.L.l,b.kind=0
   rw [j2]
   intro b hb
   rcases List.mem_append.1 hb with hb|hb
   ·exact h.kind b hb
   ·rw [List.mem_singleton.1 hb];exact hck
  ·show ((z0r c).foldl z21 M.2).next<=zh (z0j M.1 D (z01 time x rs)).2.1.L.l
   rw [j7];exact a2
  ·show zh (z0j M.1 D (z01 time x rs)).2.1.L.l=_
   rw [j7,hcb,hspan,h.nx,List.length_append];omega
  ·have h1:=zc9 (z0r c) M.2
   have h2:=zab c
   have h3:=h.len
   rw [hcr] at h2
   show ((z0r c).foldl z21 M.2).l.length<=_
   rw [List.length_append];omega
def zfo (f:Int) (xs:List AtM):Int:=match xs.getLast? with
 | none=>f
 | some a=>a.off+1
theorem zye (f:Int) (x:AtM) (xs:List AtM):zfo f (x::xs)=zfo (x.off+1) xs:=by
 unfold zfo
 cases xs with
 | nil=>rfl
 | cons y ys =>
  rw [List.getLast?_cons_cons]
  have:∃ u,(y::ys).getLast? = some u:=⟨_,List.getLast?_eq_some_getLast (by simp)⟩
  obtain ⟨u,hu⟩:=this
  rw [hu]
theorem zk2:∀ (xs ys:List AtM) (f:Int),z1j f xs=true->z1j (zfo f xs) ys=true->z1j f (xs++ys)=true
 | [],ys,f,_,h=>h
 | x::xs,ys,f,h1,h2=>by
  have h1:(if x.off<f then false else z1j (x.off+1) xs)=true:=h1
  show (if x.off<f then false else z1j (x.off+1) (xs++ys))=true
  by_cases hx:x.off<f
  ·rw [if_pos hx] at h1;cases h1
  ·rw [if_neg hx] at h1 ⊢
   rw [zye] at h2
   exact zk2 xs ys _ h1 h2
theorem zyz {b:BatM} (hk:b.kind=0) (hv:zy b=0):(∀ f≤b.base,z1j f (z0r b)=true/\zfo f (z0r b)<=b.base+zp b)/\(∀ a ∈ z0r b,a.off<=1099511627776)/\b.base<=b.base+zp b:=by
 obtain ⟨h64,-⟩:=z2e hv
 have hbase:=(z15 b hv).2.2.1.2.1
 have hspan:zp b=(b.rs.length:Nat):=by unfold zp z0b;rw [hk];rfl
 have hoff:∀ a ∈ z0r b,a.off<b.base+zp b:=λa ha=>by
  rw [z71 hk] at ha
  obtain ⟨i,hi,rfl⟩:=List.mem_mapIdx.1 ha
  rw [zhb hbase i (by omega),hspan];omega
 have hlim:b.base+zp b<=1099511627776+1:=by
  have:=hv
  unfold zy at this
  split at this
  ·cases this
  split at this
  ·cases this
  split at this
  ·rename_i h;exact absurd this h
  split at this
  ·cases this
  ·omega
 refine ⟨λf hf=>⟨?_,?_⟩,λa ha=>by have:=hoff a ha;omega,by omega⟩
 ·rw [z71 hk]
  have:=zdo b.rs f b.base (λi r=>atF b.base i r) (λi r hi=>zhb hbase i hi r) 0 (by omega) (by omega)
  simpa using this
 ·unfold zfo
  cases hq:(z0r b).getLast? with
  | none=>show f<=_;omega
  | some a=>have:=hoff a (List.mem_of_getLast? hq);show a.off+1<=_;omega
theorem zrb:∀ (bs:List BatM) (n f:Int),z1p n bs->(∀ b ∈ bs,b.kind=0)->f<=n->z1j f (z18 bs)=true/\∀ a ∈ z18 bs,a.off<=1099511627776
 | [],n,f,_,_,_=>⟨rfl,λa ha=>by cases ha⟩
 | b::bs,n,f,h,hk,hf=>by
  obtain ⟨hv,-,hn,h2⟩:=h
  obtain ⟨g1,g2,g3⟩:=zyz (hk b (List.mem_cons_self ..)) hv
  obtain ⟨g4,g5⟩:=g1 f (by omega)
  obtain ⟨i1,i2⟩:=zrb bs (b.base+zp b) (zfo f (z0r b)) h2 (λc hc=>hk c (List.mem_cons_of_mem _ hc)) g5
  have e:z18 (b::bs)=z0r b++z18 bs:=by unfold z18;rw [List.flatMap_cons]
  rw [e]
  refine ⟨zk2 _ _ _ g4 i1,λa ha=>?_⟩
  rcases List.mem_append.1 ha with ha|ha
  ·exact g2 a ha
  ·exact i2 a ha
theorem zwo {bs:List BatM} {V:ViewA} (h:Hist bs V):bs.foldl (λV b=>(z81 V b).2) ⟨0,[],[]⟩=V:=by
 induction h with
 | nil=>rfl
 | @snoc bs A b _ hc ih =>
  rw [List.foldl_append,List.foldl_cons,List.foldl_nil,ih]
  unfold z81
  rw [if_neg (by rw [hc];simp)]
theorem zro:∀ (bs:List BatM) (A:PartA),(bs.foldl z4z A).V=bs.foldl (λV b=>(z81 V b).2) A.V
 | [],A=>rfl
 | b::bs,A=>by rw [List.foldl_cons,zro bs];rfl
theorem zsm {bs:List BatM} {V:ViewA} (h:Hist bs V) (hk:∀ b ∈ bs,b.kind=0):V.op=[]:=by
 induction h with
 | nil=>rfl
 | @snoc bs A b _ hc ih =>
  have h1:=ih λc hc=>hk c (List.mem_append_left _ hc)
  have h2:b.kind=0:=hk b (by simp)
  unfold z3l
  rw [if_neg (by omega),if_neg (by unfold z0b;rw [h2];simp)]
  exact h1
theorem zhf {A:PartA}:∀ (bs:List BatM) (n:Int),(∀ b ∈ bs,b.kind=0/\b.base<z5h A/\b.base<z5g A.V)->(z30 A true n bs).1=z18 bs
 | [],n,_=>rfl
 | b::bs,n,h=>by
  obtain ⟨h1,h2,h3⟩:=h b (List.mem_cons_self ..)
  rw [zr3 (λg=>by omega)]
  have hf:z5r A.V b=1:=by
   unfold z5r z0b
   rw [h1,if_neg (by simp),if_neg (by omega),if_neg (by omega)]
  show (if (true:Bool)=false\/z5r A.V b=1 then z0r b else [])++(z30 A true (z1s b) bs).1=_
  rw [if_pos (.inr hf),zhf bs _ λc hc=>h c (List.mem_cons_of_mem _ hc)]
  unfold z18
  rw [List.flatMap_cons]
theorem zwq {q:ByteArray} {M:LedA} {D:DiskA} {d:Nat} {L:List RecM} (h:InvG q M D d L) (hL:L.length<=100000) (seg gap most:Int) :
  z14 M.1.L.l=0/\(z32 (z26 ⟨d,q,seg,gap,M.1.L.l⟩ most) 0 1099511627776 true).1.1=z18 (z04 M.1.L.l)/\(z26 ⟨d,q,seg,gap,M.1.L.l⟩ most).V.op=[]/\InvL (z3g ⟨0,[]⟩ (z18 (z04 M.1.L.l))).2 L/\(z3g ⟨0,[]⟩ (z18 (z04 M.1.L.l))).2.l.length<=L.length/\(z18 (z04 M.1.L.l)).length=L.length:=by
 have hV:(z26 ⟨d,q,seg,gap,M.1.L.l⟩ most).V=M.1.V:=by
  unfold z26
  rw [zro]
  exact zwo h.q.hist
 have hop:=zsm h.q.hist h.kind
 have hbs:=zb1 (Int.le_refl 0) h.q.cpl.segs
 obtain ⟨hr1,hr2⟩:=zrb (z04 M.1.L.l) 0 0 hbs h.kind (Int.le_refl _)
 have hlen:(z18 (z04 M.1.L.l)).length=L.length:=by rw [<- h.recs,List.length_map]
 have hap:z3g ⟨0,[]⟩ (z18 (z04 M.1.L.l))=(0,(z18 (z04 M.1.L.l)).foldl z21 ⟨0,[]⟩):=by
  unfold z3g
  have hl:z8m (z18 (z04 M.1.L.l))=false:=by
   unfold z8m
   cases hq:(z18 (z04 M.1.L.l)).getLast? with
   | none=>rfl
   | some a=>have:=hr2 a (List.mem_of_getLast? hq);show decide (a.off>1099511627776)=false;rw [decide_eq_false (by omega)]
  rw [if_neg (by rw [hr1,hl];simp)]
 obtain ⟨c1,c2,c3⟩:=h.q.cpl.len
 refine ⟨h.q.fst,?_,by rw [hV];exact hop,?_,?_,hlen⟩
 ·have hr:z58 M.1.L.l 0 1099511627776=(0,z04 M.1.L.l):=by
   have:=zmq h.q.cpl.segs (n:=1099511627776) (by omega) (by omega)
   rwa [h.q.fst] at this
  unfold z32
  rw [z5d,hr,if_neg (by simp)]
  refine zhf _ _ λb hb=>⟨h.kind b hb,?_,?_⟩
  ·unfold z5h
   rw [hV,hop,z5d]
   have h1:=(zjm h.q.hist).2 b hb
   have h2:=h.q.nxt
   show b.base<zh M.1.L.l
   omega
  ·rw [hV]
   unfold z5g
   rw [hop]
   exact (zjm h.q.hist).2 b hb
 ·rw [hap]
  have:=zdc (z18 (z04 M.1.L.l)) (zm1 0)
  rw [h.recs,List.nil_append] at this
  exact this
 ·rw [hap]
  have:=zc9 (z18 (z04 M.1.L.l)) ⟨0,[]⟩
  rw [hlen] at this
  exact Nat.le_trans this (by show 0+L.length<=_;omega)
theorem z04v {A:PartA} {D:DiskA} (b:BatM) (hp:z17 A.L.pre=true) (h:Cpl A.L.pre A.L.l D):Stp A.L.pre A.L.l D (z0j A D b).2.1.L.l (z0j A D b).2.2:=by
 unfold z0j
 split
 ·exact .same h
 have h1:=z6j A.L.seg [b.to (zh A.L.l)] hp h
 unfold zbl
 split
 ·exact h1
 split
 ·exact h1.trans (zdf h1.1)
 ·exact h1.trans (zdf h1.1)
def zco (q:ByteArray) (D:DiskA):Prop:=z06 D.fs (zao q)=none/\z06 D.fs (zaq q)=none
theorem zco.no {q:ByteArray} {D:DiskA} (h:zco q D):∀ f ∈ D.fs,f.name≠zao q/\f.name≠zaq q:=λf hf=>⟨z7s.1 h.1 f hf,z7s.1 h.2 f hf⟩
theorem zlb (q:ByteArray) (n:Nat):zco q ⟨n,-1,false,[]⟩:=⟨rfl,rfl⟩
theorem zqb {pre q t:ByteArray} (hq:z17 q=true) (ht:(bl t).all (λc=>c != 45)=true):(bl (z16 pre)).isPrefixOf (bl (q++t))=false:=by
 cases hx:(bl (z16 pre)).isPrefixOf (bl (q++t)) with
 | false=>rfl
 | true =>
  exfalso
  have h1:=List.isPrefixOf_iff_prefix.1 hx
  have h2:(45:UInt8) ∈ bl (z16 pre):=by
   rw [ze1]
   exact List.mem_append_right _ (by decide)
  have h3:=h1.subset h2
  have e:bl (q++t)=bl q++bl t:=by unfold bl;simp
  rw [e] at h3
  rcases List.mem_append.1 h3 with h3|h3
  ·unfold z17 at hq
   simp only [Bool.and_eq_true,List.all_eq_true] at hq
   have:=hq.2 _ h3
   revert this;decide
  ·rw [List.all_eq_true] at ht
   have:=ht _ h3
   revert this;decide
theorem zco.fr {pre q:ByteArray} {D D':DiskA} (hq:z17 q=true) (h:zco q D) (hf:Fr pre D D'):zco q D' :=
 ⟨(hf.other _ (zqb hq (by decide))).trans h.1,(hf.other _ (zqb hq (by decide))).trans h.2⟩
def zhy (rs:List RecM):Prop:=rs.length<=6/\∀ r ∈ rs,r.key.size<=30/\r.value.size<=30
theorem z065 {b:BatM} (h:zhy b.rs):(z0a b).at b.x=b:=by
 have e:(b.rs.take 6).map zdr=b.rs:=by
  rw [List.take_of_length_le h.1]
  conv=>rhs;rw [<- List.map_id b.rs]
  refine List.map_congr_left λr hr=>?_
  obtain ⟨h1,h2⟩:=h.2 r hr
  unfold zdr z9y
  rw [if_neg (by omega),if_neg (by omega)]
  rfl
 unfold z0a BatM.at
 simp only [e]
theorem zdv (b:BatM):zy b≠5:=by
 have hb:∀ rs:List RecM,z54 rs≠5:=by
  intro rs
  induction rs with
  | nil=>show (0:Int)≠5;omega
  | cons r rs ih =>
   show (if z1y r≠0 then z1y r else z54 rs)≠5
   split
   ·unfold z1y
    repeat' split
    all_goals omega
   ·exact ih
 have:=hb b.rs
 unfold zy
 repeat' split
 all_goals omega
theorem z008 {A:PartA} {D:DiskA} (b:BatM) (hp:z17 A.L.pre=true) (h:Cpl A.L.pre A.L.l D) (hc:Calm D) (hb:zhy b.rs) (hf:705<=D.free) (hl:D.fs.length<128) :
  used (z0j A D b).2.2.fs<=used D.fs+705/\(z0j A D b).2.2.fs.length<=D.fs.length+1/\((z7a A (b.to (zh A.L.l))).2≠5->(z0j A D b).1.2.2≠5):=by
 unfold z0j
 split
 ·exact ⟨by show used D.fs<=_;omega,by show D.fs.length<=_;omega,λh=>h⟩
 have hst:=z6j A.L.seg [b.to (zh A.L.l)] hp h
 have hc2:=hst.2.2.2.2 hc
 have hk:=zsp A.L.seg (b.to (zh A.L.l)) b.x hp h hc hf hl
 have e:(z0a (b.to (zh A.L.l))).at b.x=b.to (zh A.L.l):=z065 (b:=b.to (zh A.L.l)) hb
 rw [e] at hk
 obtain ⟨k1,k2,k3,k4⟩:=hk
 obtain ⟨y1,y2,y3,y4,y5⟩:=z40 hst.1
 have he5:(z0y A.L.seg A.L.l [b.to (zh A.L.l)]).1.2≠5:=by
  unfold z0y
  rw [if_neg (by simp)]
  split
  ·show (zx (zh A.L.l) [b.to (zh A.L.l)]).1≠5
   unfold zx
   split
   ·exact zdv _
   ·show (if ((0:Int),([]:List BatM)).1≠0 then _ else _:Int × List BatM).1≠5
    rw [if_neg (by simp)]
    show (0:Int)≠5
    omega
  ·show (0:Int)≠5;omega
 unfold zbl
 split
 ·exact ⟨k3,k4,λ_=>by show (z0e A.L.pre A.L.seg A.L.l D [b.to (zh A.L.l)]).1.2≠5;rw [k1];exact he5⟩
 rw [if_neg (by rw [y5 hc2];simp)]
 exact ⟨by show used (z0f _ _ _).2.fs<=_;omega,by show (z0f _ _ _).2.fs.length<=_;omega,λ_=>by show (0:Int)≠5;omega⟩
structure OpL where
 kind:Int
 key:ByteArray
 value:ByteArray
 time:Int
 x:Sl
 rs:List RecM
def z3s (o:OpL):List Value:=[.int .i64 o.kind,.string o.key,.string o.value,.int .i64 o.time,.slice o.x.a o.x.len o.x.cap]
instance:EncA z3s [.int .i64,.str,.str,.int .i64,.slc] (λo=>(o.kind,o.key,o.value,o.time,o.x,())):=⟨λ_=>rfl⟩
instance:EncN z3s 5:=⟨λ_=>rfl,by decide,by simp [z3s,Value.oneCell']⟩
instance {o:OpL}:IsR (.one (.agg [.int .i64,.str,.str,.int .i64,.slc])) [.agg (z3s o).toArray] (o.kind,o.key,o.value,o.time,o.x,()):=⟨rfl⟩
def z2d (r:RecM):RecM:=⟨z1l r.key,z1l r.value,r.gone,r.time⟩
def zdq (o:OpL) (z:Sl):OpL:=⟨o.kind,z1l o.key,z1l o.value,o.time,z,(o.rs.take 4).map z2d⟩
section
variable {w:World} {l r r1:List HP} {a b d:Nat} {L:List RecM} {M:LedA} {D:DiskA} {q:ByteArray}
set_option maxHeartbeats 1000000 in
theorem zkc (o:OpL) [hb:FocR l o.x 4 (o.rs.flatMap zu)] (hs:Sat w l):Ret P F.a159 #[.agg (z3s o).toArray] w λvs w'=>∃ z:Sl,vs=[.agg (z3s (zdq o z)).toArray]/\Sat w' (slc T.a2 4 z ((zdq o z).rs.flatMap zu)::l) :=
 zpb o.kind o.key o.value o.time o.x <| by
  delta z02u AC AD AE AF AG AH AI AJ AK AL AM AN AO Aa Ab Ac Af Ai Aj Ak Al An Ap Aq Aw
  have hl:=hs.slen o.x (xs:=o.rs) (enc:=zu)
  refine zr hs λa0 w' hs=>?_
  refine zt hs λa1 w' hs=>?_
  refine zm (λq w'=>Sat w' (pt a0 (.cells #[.int .i64 o.kind,.string (z1l o.key),.string (z1l o.value),.int .i64 o.time,.slice o.x.a o.x.len o.x.cap] T.a50)::pt a1 (.cells #[.int .i64 0,.string (ByteArray.mk #[]),.string (ByteArray.mk #[]),.int .i64 0,.slice none 0 0] T.a50)::l)) ?_ ?_
  ·refine z02 hs λw' hs=>?_
   refine zb hs ?_
   refine z0s hs ?_
   refine z8 (zan o.key hs) λ_ w' hs=>?_
   obtain ⟨rfl,hs⟩:=hs
   refine zd ?_ (by first|trivial|(repeat (first|exact trivial|exact λ_=>z07 hs|exact λ_=>z0d hs|refine And.intro ?_ ?_)))
   refine ze ?_
   refine z8 (zan o.value hs) λ_ w' hs=>?_
   obtain ⟨rfl,hs⟩:=hs
   refine zd ?_
   refine z08 hs λw' hs=>?_
   refine z08 hs λw' hs=>?_
   refine ze ?_
   exact zg hs.sub
  clear hs
  rintro _ w hs
  refine zl ?_
  refine zb hs ?_
  refine zm (λq w'=>∃ z:Sl,q=(z,())/\Sat w' (slc T.a2 4 z (((o.rs.take 4).map z2d).flatMap zu)::pt a0 (.cells #[.int .i64 o.kind,.string (z1l o.key),.string (z1l o.value),.int .i64 o.time,.slice o.x.a o.x.len o.x.cap] T.a50)::pt a1 (.cells #[.int .i64 0,.string (ByteArray.mk #[]),.string (ByteArray.mk #[]),.int .i64 0,.slice none 0 0] T.a50)::l)) ?_ ?_
  ·have hs:Sat w (slc T.a2 4 ⟨none,0,0⟩ (([]:List RecM).flatMap zu)::_):=hs.slc_nil
   refine z0c (λm q w=>∃ (i:Nat) (z:Sl),q=(z,(i:Int),())/\i<=o.rs.length/\i<=4/\o.rs.length-i=m/\Sat w (slc T.a2 4 z (((o.rs.take i).map z2d).flatMap zu)::pt a0 (.cells #[.int .i64 o.kind,.string (z1l o.key),.string (z1l o.value),.int .i64 o.time,.slice o.x.a o.x.len o.x.cap] T.a50)::pt a1 (.cells #[.int .i64 0,.string (ByteArray.mk #[]),.string (ByteArray.mk #[]),.int .i64 0,.slice none 0 0] T.a50)::l)) o.rs.length
    ⟨0,⟨none,0,0⟩,rfl,by omega,by omega,rfl,hs⟩ ?_
   clear hs
   rintro m _ w ⟨i,z,rfl,hi,hi4,hm,hs⟩
   refine z1v _ _ ?_
   refine zf (λhc=>?_) λhc=>?_
   rotate_left
   ·rw [List.take_of_length_le (by omega)] at hs
    have e:o.rs.take 4=o.rs:=List.take_of_length_le (by omega)
    exact zn (zg ⟨z,rfl,by rw [e];exact hs⟩)
   have hil:i<o.rs.length:=by omega
   refine z2v hs i hil ?_
   refine zt hs λa15 w' hs=>?_
   refine wp_lt ?_
   refine zv hs λw' hs=>?_
   refine zf (λh4=>?_) λh4=>?_
   ·have:i=4:=by omega
    subst this
    exact zn (zg ⟨z,rfl,hs.sub⟩)
   have htk:(o.rs.take (i+1)).map z2d=(o.rs.take i).map z2d++[z2d o.rs[i]]:=by rw [List.take_add_one,List.getElem?_eq_getElem hil,Option.toList_some,List.map_append];rfl
   generalize o.rs[i]=u at *
   refine zm (λq w'=>Sat w' (pt a15 (.cells #[.string (z1l u.key),.string (z1l u.value),.bool u.gone,.int .i64 u.time] T.a2)::slc T.a2 4 z (((o.rs.take i).map z2d).flatMap zu)::pt a0 (.cells #[.int .i64 o.kind,.string (z1l o.key),.string (z1l o.value),.int .i64 o.time,.slice o.x.a o.x.len o.x.cap] T.a50)::pt a1 (.cells #[.int .i64 0,.string (ByteArray.mk #[]),.string (ByteArray.mk #[]),.int .i64 0,.slice none 0 0] T.a50)::l)) ?_ ?_
   ·refine z02 hs λw' hs=>?_
    refine zb hs ?_
    refine z0s hs ?_
    refine z8 (zan u.key hs) λ_ w' hs=>?_
    obtain ⟨rfl,hs⟩:=hs
    refine zd ?_ (by first|trivial|(repeat (first|exact trivial|exact λ_=>z07 hs|exact λ_=>z0d hs|refine And.intro ?_ ?_)))
    refine ze ?_
    refine z8 (zan u.value hs) λ_ w' hs=>?_
    obtain ⟨rfl,hs⟩:=hs
    refine zd ?_
    refine z08 hs λw' hs=>?_
    refine z08 hs λw' hs=>?_
    refine ze ?_
    exact zg hs.sub
   clear hs
   rintro _ w hs
   refine zl ?_
   refine zj hs ?_
   refine z5j hs (xs:=(o.rs.take i).map z2d) (enc:=zu) (z2d u) (λz2 w' hs=>?_) rfl (by rw [List.length_map,List.length_take];omega)
   rw [<- htk] at hs
   refine z29 (us':=[z2.v,.int .i64 ((i+1:Nat):Int)]) (by (try simp (disch:=omega) only [w64]);first|rfl|(congr;omega)) ?_
   exact z0z (o.rs.length-(i+1)) ⟨i+1,z2,rfl,by omega,by omega,rfl,hs.sub⟩
  clear hs
  rintro _ w ⟨z,rfl,hs⟩
  refine zl ?_
  refine z08 hs λw' hs=>?_
  refine zj hs ?_
  refine zv hs λw' hs=>?_
  refine zj hs ?_
  have hs:Sat w' (slc T.a2 4 z (((o.rs.take 4).map z2d).flatMap zu)::l):=hs.sub
  exact ⟨rfl,z,rfl,hs⟩
def zcp (q:ByteArray) (d:Nat) (M:LedA) (D:DiskA) (L:List RecM) (e f:Int) (M':LedA) (D':DiskA) (L':List RecM):Prop:=L'.length<=L.length+4/\(e≠5->e=f/\InvG q M' D' d L')/\(e=5->InvG q M' D' d L)/\Stp q M.1.L.l D M'.1.L.l D'/\(705<=D.free->D.fs.length<128->e≠5/\used D'.fs<=used D.fs+705/\D'.fs.length<=D.fs.length+1)
theorem z04h (b:BatM) (hp:z17 M.1.L.pre=true) (h:Cpl M.1.L.pre M.1.L.l D):Stp M.1.L.pre M.1.L.l D (z0v M D b).2.1.1.L.l (z0v M D b).2.2:=by
 have:=z04v b hp h
 unfold z0v
 split
 ·exact this
 ·exact this
theorem zzg {b:BatM} (hpid:b.pid=0) (hp:z17 M.1.L.pre=true) (h:Cpl M.1.L.pre M.1.L.l D) (hc:Calm D) (hb:zhy b.rs) (hv:¬ zh M.1.L.l<M.1.V.next) (hk:b.kind=0) (hf:705<=D.free) (hl:D.fs.length<128) :
  (z0v M D b).1≠5/\used (z0v M D b).2.2.fs<=used D.fs+705/\(z0v M D b).2.2.fs.length<=D.fs.length+1:=by
 obtain ⟨h1,h2,h3⟩:=z008 b hp h hc hb hf hl
 have ha:(z7a M.1 (b.to (zh M.1.L.l))).2≠5:=by
  have hj:z1g M.1.T (b.to (zh M.1.L.l))=(⟨false,0⟩,zy (b.to (zh M.1.L.l))):=by
   unfold z1g
   rw [if_pos (.inr hpid)]
  unfold z7a
  rw [hj]
  split
  ·exact zdv _
  ·show z4a M.1.V (b.to (zh M.1.L.l))≠5
   unfold z4a
   split
   ·exact zdv _
   rw [if_neg (show ¬ (b.to (zh M.1.L.l)).base<M.1.V.next from hv),if_neg (show ¬ (b.to (zh M.1.L.l)).kind≠0 by show ¬ b.kind≠0;omega)]
   omega
 have h3:=h3 ha
 unfold z0v
 split
 ·exact ⟨h3,h1,h2⟩
 ·exact ⟨by show (0:Int)≠5;omega,h1,h2⟩
theorem ze2 (hq:z17 q=true) (time:Int) (x y:Sl) (rs:List RecM) (hr:rs.length<=4) (hfew:zhy rs) (hL:L.length<=100000) (h:InvG q M D d L) :
  zcp q d M D L (z0v M D (z01 time x rs)).1 (zy (z01 time y rs)) (z0v M D (z01 time x rs)).2.1 (z0v M D (z01 time x rs)).2.2 (if zy (z01 time y rs)=0 then L++rs else L):=by
 have ev:zy (z01 time y rs)=zy (z01 time x rs):=rfl
 rw [ev]
 have hp1:z17 M.1.L.pre=true:=by rw [h.q.pre];exact hq
 have hc1:Cpl M.1.L.pre M.1.L.l D:=by rw [h.q.pre];exact h.q.cpl
 have hst:Stp q M.1.L.l D (z0v M D (z01 time x rs)).2.1.1.L.l (z0v M D (z01 time x rs)).2.2:=by
  have:=z04h (M:=M) (D:=D) (z01 time x rs) hp1 hc1
  rw [h.q.pre] at this
  exact this
 have hro:=zzg (M:=M) (D:=D) (b:=z01 time x rs) rfl hp1 hc1 h.q.calm hfew (by have:=h.q.nxt;omega) rfl
 rcases zz5 hq time x rs (by omega) hL h with ⟨h1,h2,h3,-⟩|⟨h1,h2,h3,-⟩|⟨h1,h2,h3⟩
 ·rw [if_neg h1]
  exact ⟨by omega,λ_=>⟨h2,h3⟩,λ_=>h3,hst,hro⟩
 ·rw [if_pos h1]
  exact ⟨by rw [List.length_append];omega,λh=>absurd h2 h,λ_=>h3,hst,hro⟩
 ·rw [if_pos h1]
  exact ⟨by rw [List.length_append];omega,λ_=>⟨by rw [h1,h2],h3⟩,λh=>by omega,hst,hro⟩
theorem zyl (hI:InvG q M D d L):zcp q d M D L 3 3 M D L:=⟨by omega,λ_=>⟨rfl,hI⟩,(λh=>by cases h),.same hI.q.cpl,λ_ _=>⟨by omega,by omega,by omega⟩⟩
def SmO (o:OpL):Prop:=o.rs.length<=4/\o.key.size<=30/\o.value.size<=30/\∀ r ∈ o.rs,r.key.size<=30/\r.value.size<=30
theorem z7y (s:ByteArray):(z1l s).size<=12:=by
 unfold z1l
 split
 ·rw [ByteArray.size_extract];omega
 ·omega
theorem zkd (o:OpL) (z:Sl):SmO (zdq o z):=by
 have h1:=z7y o.key
 have h2:=z7y o.value
 refine ⟨?_,by show (z1l o.key).size<=30;omega,by show (z1l o.value).size<=30;omega,λr hr=>?_⟩
 ·show ((o.rs.take 4).map z2d).length<=4
  rw [List.length_map,List.length_take];omega
 ·obtain ⟨u,-,rfl⟩:=List.mem_map.1 hr
  have h3:=z7y u.key
  have h4:=z7y u.value
  exact ⟨by show (z1l u.key).size<=30;omega,by show (z1l u.value).size<=30;omega⟩
end
section
variable {w:World} {l r r1 r2:List HP} {a b d:Nat} {L:List RecM} {M:LedA} {D:DiskA} {q:ByteArray}
set_option maxHeartbeats 2000000 in
theorem zgp (o:OpL) (hq:z17 q=true) (hI:InvG q M D d L) (hL:L.length<=100000) (ho:SmO o) [hf1:Fo l leP b M r1] [hf2:Fo r1 dk d D r2] [hf3:Fo r2 rlP a L r] (hb:FocR r o.x 4 (o.rs.flatMap zu)) (hs:Sat w l) :
  Ret P F.a155 #[.pointer (some ⟨b,0,none⟩),.pointer (some ⟨a,0,none⟩),.agg (z3s o).toArray] w λvs w'=>∃ (e f:Int) (M':LedA) (D':DiskA) (L':List RecM),vs=[.int .i64 e,.int .i64 f]/\zcp q d M D L e f M' D' L'/\Sat w' (leP b M'::dk d D'::rlP a L'::r) :=
 zp7 (some ⟨b,0,none⟩) (some ⟨a,0,none⟩) o.kind o.key o.value o.time o.x <| by
  delta z02q AA AC AD AE AG AH AI AM AO AP AQ AR AS Aa Af Ah Ai Aj Ak Al Am An Aq Au Aw Ax
  have hs:=hs.perm (hf1.perm.trans (.cons _ (hf2.perm.trans (.cons _ hf3.perm))))
  clear hf1 hf2 hf3
  have hcp:Cpl M.1.L.pre M.1.L.l D:=by rw [hI.q.pre];exact hI.q.cpl
  have hdd:=hI.q.dd
  subst hdd
  have hml:=hI.len
  have ho4:=ho.1
  have hfs:zhy [z1u o.key o.value o.time]:=⟨by simp,λr hr=>by rw [List.mem_singleton.1 hr];exact ⟨ho.2.1,ho.2.2.1⟩⟩
  have hfd:zhy [z3h o.key o.time]:=⟨by simp,λr hr=>by rw [List.mem_singleton.1 hr];exact ⟨ho.2.1,Nat.zero_le _⟩⟩
  have hrl:∀ {L':List RecM} {M':LedA} {D':DiskA} {e f:Int},zcp q M.1.L.d M D L e f M' D' L'->L'.length<=L.length+4:=λh=>h.1
  refine zr hs λa0 w' hs=>?_
  have hs:Sat w' (leP b M::dk M.1.L.d D::rlP a L::pt a0 (.cells #[.int .i64 o.kind,.string o.key,.string o.value,.int .i64 o.time,.slice o.x.a o.x.len o.x.cap] T.a50)::r):=hs.sub
  refine zb hs ?_
  refine wp_lt ?_
  refine zm (λq w'=>q=(decide (o.kind=0\/o.kind=1),())/\Sat w' (leP b M::dk M.1.L.d D::rlP a L::pt a0 (.cells #[.int .i64 o.kind,.string o.key,.string o.value,.int .i64 o.time,.slice o.x.a o.x.len o.x.cap] T.a50)::r)) ?_ ?_
  ·refine zf (λh=>?_) λh=>?_
   ·have h:o.kind=0:=by simpa using h
    exact zg ⟨by simp [h],hs⟩
   ·have h:o.kind≠0:=by simpa using h
    refine wp_lt ?_
    exact zg ⟨by simp [h];rfl,hs⟩
  clear hs
  rintro _ w ⟨rfl,hs⟩
  refine zl ?_
  refine zf (λhk=>?_) λhk=>?_
  ·refine zm (λq' w'=>∃ (e f:Int) (M':LedA) (D':DiskA) (L':List RecM),q'=(e,f,())/\zcp q M.1.L.d M D L e f M' D' L'/\Sat w' (leP b M'::dk M.1.L.d D'::rlP a L'::r)) ?_ ?_
   rotate_left
   ·rintro _ w2 ⟨e,f,M',D',L',rfl,h1,hs⟩
    refine z1v _ _ ?_
    exact ⟨rfl,e,f,M',D',L',rfl,h1,hs⟩
   refine z02 hs λw' hs=>?_
   refine z0s hs ?_
   refine z0s hs ?_
   refine z0s hs ?_
   refine z0s hs ?_
   refine z0s hs ?_
   refine z0s hs ?_
   refine z0s hs ?_
   refine zeh ?_ ?_
   ·refine z8 (zbd (b:=b) (M:=M) (D:=D) o.key o.value o.time hcp (by omega) (λx _=>rfl) hs) λ_ w' hs=>?_
    obtain ⟨x,rfl,hs⟩:=hs
    refine zd ?_ (by first|trivial|(repeat (first|exact trivial|exact λ_=>z07 hs|exact λ_=>z0d hs|refine And.intro ?_ ?_)))
    refine z61 hs (enc:=zu) [z1u o.key o.value o.time] λy w' hs=>⟨(by first|trivial|(repeat (first|exact trivial|exact λ_=>z07 hs|exact λ_=>z0d hs|refine And.intro ?_ ?_))),?_⟩
    refine ze ?_
    have hs:Sat w' (rlP a L::slc T.a2 4 y ([z1u o.key o.value o.time].flatMap zu)::leP b (z0v M D (z01 o.time x [z1u o.key o.value o.time])).2.1::dk M.1.L.d (z0v M D (z01 o.time x [z1u o.key o.value o.time])).2.2::r):=hs.sub
    refine z8 (zea (a:=a) (L:=L) o.time y [z1u o.key o.value o.time] inferInstance (by simp) hL hs) λ_ w' hs=>?_
    obtain ⟨rfl,hs⟩:=hs
    refine zd ?_
    refine wp_lt ?_
    refine wp_lt ?_
    refine ze ?_
    exact zg ⟨_,_,_,_,_,rfl,ze2 hq o.time x y [z1u o.key o.value o.time] (by simp) hfs hL hI,hs.sub⟩
   ·refine z61 hs (enc:=zu) [z1u o.key o.value o.time] λy w' hs=>⟨(by first|trivial|(repeat (first|exact trivial|exact λ_=>z07 hs|exact λ_=>z0d hs|refine And.intro ?_ ?_))),?_⟩
    have hs:Sat w' (leP b M::dk M.1.L.d D::rlP a L::slc T.a2 4 y ([z1u o.key o.value o.time].flatMap zu)::pt a0 (.cells #[.int .i64 o.kind,.string o.key,.string o.value,.int .i64 o.time,.slice o.x.a o.x.len o.x.cap] T.a50)::r):=hs.sub
    refine z8 (zbd (b:=b) (M:=M) (D:=D) o.key o.value o.time hcp (by omega) (λx _=>rfl) hs) λ_ w' hs=>?_
    obtain ⟨x,rfl,hs⟩:=hs
    refine zd ?_ (by first|trivial|(repeat (first|exact trivial|exact λ_=>z07 hs|exact λ_=>z0d hs|refine And.intro ?_ ?_)))
    refine ze ?_
    have hs:Sat w' (rlP a L::slc T.a2 4 y ([z1u o.key o.value o.time].flatMap zu)::leP b (z0v M D (z01 o.time x [z1u o.key o.value o.time])).2.1::dk M.1.L.d (z0v M D (z01 o.time x [z1u o.key o.value o.time])).2.2::r):=hs.sub
    refine z8 (zea (a:=a) (L:=L) o.time y [z1u o.key o.value o.time] inferInstance (by simp) hL hs) λ_ w' hs=>?_
    obtain ⟨rfl,hs⟩:=hs
    refine zd ?_
    refine wp_lt ?_
    refine wp_lt ?_
    refine ze ?_
    exact zg ⟨_,_,_,_,_,rfl,ze2 hq o.time x y [z1u o.key o.value o.time] (by simp) hfs hL hI,hs.sub⟩
  refine wp_lt ?_
  refine zf (λh2=>?_) λh2=>?_
  ·refine zm (λq' w'=>∃ (e f:Int) (M':LedA) (D':DiskA) (L':List RecM),q'=(e,f,())/\zcp q M.1.L.d M D L e f M' D' L'/\Sat w' (leP b M'::dk M.1.L.d D'::rlP a L'::r)) ?_ ?_
   rotate_left
   ·rintro _ w2 ⟨e,f,M',D',L',rfl,h1,hs⟩
    refine z1v _ _ ?_
    exact ⟨rfl,e,f,M',D',L',rfl,h1,hs⟩
   refine z02 hs λw' hs=>?_
   refine zb hs ?_
   refine zb hs ?_
   refine z0s hs ?_
   refine z0s hs ?_
   have hhold:=hI.led.get o.key
   refine z8 (zg4 (b:=b) (M:=M) (D:=D) o.key o.time hcp (by omega) hs) λ_ w' hs=>?_
   rcases hs with ⟨hg,rfl,hs⟩|⟨hg,x,rfl,hs⟩
   ·rw [hg] at hhold
    refine zd ?_ (by first|trivial|(repeat (first|exact trivial|exact λ_=>z07 hs|exact λ_=>z0d hs|refine And.intro ?_ ?_)))
    refine ze ?_
    refine z8 (zmt (a:=a) (L:=L) o.key o.time hL hs) λ_ w' hs=>?_
    rcases hs with ⟨-,rfl,hs⟩|⟨hg2,-⟩
    ·refine zd ?_
     refine wp_lt ?_
     refine wp_lt ?_
     refine ze ?_
     exact zg ⟨_,_,_,_,_,rfl,zyl hI,hs.sub⟩
    ·rw [<- hhold] at hg2;cases hg2
   ·refine zd ?_ (by first|trivial|(repeat (first|exact trivial|exact λ_=>z07 hs|exact λ_=>z0d hs|refine And.intro ?_ ?_)))
    refine ze ?_
    refine z8 (zmt (a:=a) (L:=L) o.key o.time hL hs) λ_ w' hs=>?_
    rcases hs with ⟨hg2,-⟩|⟨-,y,rfl,hs⟩
    ·rw [<- hhold,Option.isSome_map,hg] at hg2;cases hg2
    ·refine zd ?_
     refine wp_lt ?_
     refine wp_lt ?_
     refine ze ?_
     exact zg ⟨_,_,_,_,_,rfl,ze2 hq o.time x y [z3h o.key o.time] (by simp) hfd hL hI,hs.sub⟩
  refine z9h hs (enc:=zu) ([]:List RecM) λz0 w' hs=>?_
  refine zb hs ?_
  refine wp_app' (x:=z0) (y:=o.x) (xs:=([]:List RecM)) (ys:=o.rs) (enc:=zu) hs (λz w' hs=>?_) (by simp only [List.length_nil];omega)
  rw [List.nil_append] at hs
  refine zb hs ?_
  have hs:Sat w' (leP b M::dk M.1.L.d D::slc T.a2 4 z (o.rs.flatMap zu)::rlP a L::pt a0 (.cells #[.int .i64 o.kind,.string o.key,.string o.value,.int .i64 o.time,.slice o.x.a o.x.len o.x.cap] T.a50)::r):=hs.sub
  refine z8 (zib (b:=b) (M:=M) (D:=D) o.time z o.rs inferInstance hcp (by omega) (by omega) (λ_=>rfl) hs) λ_ w' hs=>?_
  obtain ⟨rfl,hs⟩:=hs
  refine zd ?_
  refine wp_lt ?_
  have hchg:=λy=>ze2 hq o.time z y o.rs ho4 ⟨by omega,ho.2.2.2⟩ hL hI
  obtain ⟨S,hS⟩:∃ S,S=z0v M D (z01 o.time z o.rs):=⟨_,rfl⟩
  rw [<- hS] at hchg hs ⊢
  refine zm (λq' w'=>∃ xs:List RecM,Sat w' (slc T.a2 4 z (xs.flatMap zu)::leP b S.2.1::dk M.1.L.d S.2.2::rlP a L::pt a0 (.cells #[.int .i64 o.kind,.string o.key,.string o.value,.int .i64 o.time,.slice o.x.a o.x.len o.x.cap] T.a50)::r)) ?_ ?_
  ·refine z0c (λm q' w=>∃ (i:Nat) (xs:List RecM),q'=((i:Int),())/\xs.length=o.rs.length/\i<=o.rs.length/\o.rs.length-i=m/\Sat w (slc T.a2 4 z (xs.flatMap zu)::leP b S.2.1::dk M.1.L.d S.2.2::rlP a L::pt a0 (.cells #[.int .i64 o.kind,.string o.key,.string o.value,.int .i64 o.time,.slice o.x.a o.x.len o.x.cap] T.a50)::r)) o.rs.length
    ⟨0,o.rs,rfl,rfl,by omega,rfl,hs.sub⟩ ?_
   clear hs
   rintro m _ w ⟨i,xs,rfl,hxl,hi,hm,hs⟩
   have hzl:=hs.slen z (xs:=xs) (enc:=zu)
   refine zl ?_
   refine zf (λhc=>?_) λhc=>?_
   rotate_left
   ·exact zn (zg ⟨xs,hs⟩)
   have hil:i<xs.length:=by omega
   refine wp_lt ?_
   refine z05k hs i hil { xs[i] with key:=ByteArray.mk #[115,112,111,105,108,116] } (λw' hs=>?_) rfl rfl
   refine z29 (us':=[.int .i64 ((i+1:Nat):Int)]) (by (try simp (disch:=omega) only [w64]);first|rfl|(congr;omega)) ?_
   exact z0z (o.rs.length-(i+1)) ⟨i+1,_,rfl,by rw [List.length_set];exact hxl,by omega,rfl,hs⟩
  clear hs
  rintro _ w ⟨xs,hs⟩
  refine zl ?_
  refine zb hs ?_
  refine zb hs ?_
  have hs:Sat w (rlP a L::leP b S.2.1::dk M.1.L.d S.2.2::r):=hs.sub
  refine z8 (zea (a:=a) (L:=L) o.time o.x o.rs inferInstance (by omega) hL hs) λ_ w' hs=>?_
  obtain ⟨rfl,hs⟩:=hs
  refine zd ?_
  refine wp_lt ?_
  refine wp_lt ?_
  exact ⟨rfl,_,_,_,_,_,rfl,hchg o.x,hs.sub⟩
end
section
variable {w:World} {l r:List HP} {a b d:Nat} {L:List RecM} {M:LedA} {D:DiskA} {q:ByteArray}
def zl6 (q:ByteArray) (d:Nat) (s:Int) (S:List SegA):LedA:=(z26 ⟨d,q,s,30,S⟩ 2,(z3g ⟨0,[]⟩ (z18 (z04 S))).2)
theorem zm5 (s:Int) (hs0:64<=s/\s<=263) (hq:z17 q=true) (hb:zco q D) (hI:InvG q M D d L) (hL:L.length<=100000) [hf:Fo l dk d D r] (hs:Sat w l) :
  Ret P F.a73 #[.pointer (some ⟨d,0,none⟩),.string q,.agg #[.int .i64 s,.int .i64 30,.int .i64 2]] w λvs w'=>∃ b:Nat,vs=[.pointer (some ⟨b,0,none⟩),.int .i64 0]/\InvL (zl6 q d s M.1.L.l).2 L/\(zl6 q d s M.1.L.l).2.l.length<=L.length/\Sat w' (leP b (zl6 q d s M.1.L.l)::dk d D::r):=by
 obtain ⟨e1,e2,e3,e4,e5,e6⟩:=zwq hI hL s 30 2
 have h:=zm6 (d:=d) (D:=D) q s 30 2 hq ⟨by omega,by decide⟩ (by omega) hI.q.calm.1 hI.q.cpl hb.no (by rw [e1];decide) (by
  rw [e1,e2]
  intro a ha
  unfold z18 at ha
  obtain ⟨b,-,hb⟩:=List.mem_flatMap.1 ha
  exact zlu a hb) (by rw [e1,e2,e6];omega) rfl (zn6 (by rw [e3];exact Nat.zero_le _)) (hs.perm hf.perm)
 rw [e1,e2] at h
 exact h.mono λvs w' ⟨b,h1,h2⟩=>⟨b,h1,e4,e5,h2⟩
theorem zm4 (s:Int) (n:Nat) (hn:n<=4194304) (hs0:64<=s/\s<=263) (hq:z17 q=true) (hs:Sat w (dk d ⟨n,-1,false,[]⟩::l)) :
  Ret P F.a73 #[.pointer (some ⟨d,0,none⟩),.string q,.agg #[.int .i64 s,.int .i64 30,.int .i64 2]] w λvs w'=>∃ b:Nat,vs=[.pointer (some ⟨b,0,none⟩),.int .i64 0]/\Sat w' (leP b (z26 ⟨d,q,s,30,[]⟩ 2,⟨0,[]⟩)::dk d ⟨n,-1,false,[]⟩::l):=by
 have h:=zm5 (d:=d) s hs0 hq (zlb q n) (zg0 q d n hn s 30 2) (Nat.zero_le _) hs
 refine h.mono λvs w' ⟨b,h1,_,_,h2⟩=>⟨b,h1,?_⟩
 have e:(Prod.mk (z26 ⟨d,q,s,30,[]⟩ 2) (TbC.mk 0 [])).1.L.l=[]:=by show (z26 ⟨d,q,s,30,[]⟩ 2).L.l=[];rw [z5d]
 rw [e] at h2
 exact h2
end
def yP:ByteArray:=ByteArray.mk #[121]
theorem z06b:gP≠yP:=λh=>by have:=congrArg (λb:ByteArray=>b.data.toList) h;revert this;decide
theorem InvQ.frame {pre q:ByteArray} {A:PartA} {D D':DiskA} {d:Nat} (h:InvQ q A D d) (hok:okA D') (hc:Calm D') (hp:z17 pre=true) (hq:z17 q=true) (hne:pre≠q) (hf:Fr pre D D'):InvQ q A D' d :=
 ⟨h.cpl.frame hok hp hq hne hf,hc,h.pre,h.dd,h.hist,h.nxt,h.fst⟩
theorem InvG.frame {pre q:ByteArray} {M:LedA} {D D':DiskA} {d:Nat} {L:List RecM} (h:InvG q M D d L) (hok:okA D') (hc:Calm D') (hp:z17 pre=true) (hq:z17 q=true) (hne:pre≠q) (hf:Fr pre D D'):InvG q M D' d L :=
 ⟨h.q.frame hok hc hp hq hne hf,h.led,h.recs,h.kind,h.tn,h.nx,h.len⟩
structure ApL (d k:Nat) (D:DiskA) (M1:LedA) (L1:List RecM) (M2:LedA) (L2:List RecM):Prop where
 i1:InvG gP M1 D d L1
 i2:InvG yP M2 D d L2
 by_:zco yP D
 room:D.room=1048576
 used:used D.fs<=705*k
 len:D.fs.length<=k
 n1:L1.length<=4*k
 n2:L2.length<=4*k
 few:k<=40
section
variable {d k:Nat} {D D':DiskA} {M1 M2 M':LedA} {L1 L2 L':List RecM} {e f:Int}
theorem ApL.wk (h:ApL d k D M1 L1 M2 L2) {k':Nat} (hk:k<=k'/\k'<=40):ApL d k' D M1 L1 M2 L2 :=
 ⟨h.i1,h.i2,h.by_,h.room,by have:=h.used;omega,by have:=h.len;omega,by have:=h.n1;omega,by have:=h.n2;omega,hk.2⟩
theorem ApL.free (h:ApL d k D M1 L1 M2 L2):705<=D.free/\D.fs.length<128:=by
 have h1:=h.used
 have h2:=h.room
 have h3:=h.len
 have h4:=h.few
 unfold DiskA.free
 omega
theorem ApL.left (h:ApL d k D M1 L1 M2 L2) (hk:k+1<=40) (hc:zcp gP d M1 D L1 e f M' D' L'):ApL d (k+1) D' M' L' M2 L2:=by
 obtain ⟨c1,c2,c3,c4,c5⟩:=hc
 obtain ⟨f1,f2⟩:=h.free
 obtain ⟨h5,hu,hl⟩:=c5 f1 f2
 obtain ⟨-,hI⟩:=c2 h5
 have hp1:z17 gP=true:=by kernel_rfl
 have hp2:z17 yP=true:=by kernel_rfl
 exact ⟨hI,h.i2.frame hI.q.cpl.ok hI.q.calm hp1 hp2 z06b c4.2.1,h.by_.fr hp2 c4.2.1,c4.2.1.room.trans h.room,by have:=h.used;omega,by have:=h.len;omega,by have:=h.n1;omega,by have:=h.n2;omega,hk⟩
theorem ApL.right (h:ApL d k D M1 L1 M2 L2) (hk:k+1<=40) (hc:zcp yP d M2 D L2 e f M' D' L'):ApL d (k+1) D' M1 L1 M' L':=by
 obtain ⟨c1,c2,c3,c4,c5⟩:=hc
 obtain ⟨f1,f2⟩:=h.free
 obtain ⟨h5,hu,hl⟩:=c5 f1 f2
 obtain ⟨-,hI⟩:=c2 h5
 have hp1:z17 gP=true:=by kernel_rfl
 have hp2:z17 yP=true:=by kernel_rfl
 exact ⟨h.i1.frame hI.q.cpl.ok hI.q.calm hp2 hp1 z06b.symm c4.2.1,hI,h.by_.fr hp2 c4.2.1,c4.2.1.room.trans h.room,by have:=h.used;omega,by have:=h.len;omega,by have:=h.n1;omega,by have:=h.n2;omega,hk⟩
end
instance:EncF z3s 0 (.int .i64) (λo=>o.kind):=⟨λ_=>rfl⟩
theorem zhu {P:Program} {S:World->Prop} {Q:Post} {w:World} {l:List HP} {x:Sl} {sz:Nat} {T:TypeId} {α:Type} {enc:α->List Value} {xs:List α} {i i':Int} {j:Nat} {g g':Prop} {p:Pr} {dec:α->p.D} {f:p.D->Prog} (hs:Sat w l) [hf:FocR l x sz (xs.flatMap enc)] [hE:EncN enc sz] [hD:EncF enc j p dec] [hT:One P T]
  (n:Nat) (d0:p.D) (h:∀ v,(∀ hn:n<xs.length,v=dec xs[n])->(f v).wp P S w Q) (hg:g->n<xs.length) (hg':g'->n<xs.length) (hi:i=n:=by first|rfl|omega) (hi':i'=i:=by rfl) :
  (Prog.ex [.adr] (c1 λa=>g->0<=i/\i<((x.len:Nat):Int)/\x.a=some a) (u1 λa=>.read g' (ld T (Addr.add (Addr.add a (Int.toNat i'*sz)) j)) (.one (.one p)) (u1 f))).wp P S w Q:=by
 by_cases hn:n<xs.length
 ·exact z05j hs n hn (h _ λ_=>rfl) hi hi'
 ·exact ⟨(⟨0,0,none⟩,()),λhgg=>absurd (hg hgg) hn,(d0,()),λhgg=>absurd (hg' hgg) hn,h d0 λhn'=>absurd hn' hn⟩
section
variable {w:World} {l r:List HP}
set_option maxHeartbeats 2000000 in
theorem z09v (seg:Int) (x:Sl) (ops:List OpL) (y:Sl) (ops2:List OpL) (hx:FocR l x 5 (ops.flatMap z3s)) (hops:∀ o ∈ ops,FocR l o.x 4 (o.rs.flatMap zu)) (hy:FocR l y 5 (ops2.flatMap z3s)) (hops2:∀ o ∈ ops2,FocR l o.x 4 (o.rs.flatMap zu)) (hs:Sat w l) :
  Ret P F.a153 #[.int .i64 seg,x.v,y.v] w λvs w'=>vs=[.bool true]/\Sat w' l :=
 zp6 seg x y <| by
  delta z02p Aa Ab Ac Ad Ae Af Ag Ah Ai Aj Ak Al Am An Ao Ap Aq Ar As Au Av Aw Ax
  have hxl:=hs.slen x (xs:=ops) (enc:=z3s)
  have hyl:=hs.slen y (xs:=ops2) (enc:=z3s)
  refine z8 (zgq seg hs) λ_ w' hs=>?_
  obtain ⟨rfl,hs⟩:=hs
  have hsg:=zxj seg
  generalize s13 seg=s at *
  refine ⟨(s,30,2,()),rfl,trivial,zek _ _ _ ?_⟩
  refine zt hs λa3 w' hs=>?_
  refine zv hs λw' hs=>?_
  refine z8 (zx3 1048576 (by omega) hs) λ_ w' hs=>?_
  obtain ⟨d,rfl,hs⟩:=hs
  refine ⟨(some ⟨d,0,none⟩,0,()),rfl,trivial,z1v _ _ ?_⟩
  refine wp_lt ?_
  refine zj hs ?_
  have hp1:z17 gP=true:=by kernel_rfl
  have hp2:z17 yP=true:=by kernel_rfl
  refine z8 (zm4 (q:=gP) (d:=d) s 1048576 (by omega) hsg hp1 hs) λ_ w' hs=>?_
  obtain ⟨b1,rfl,hs⟩:=hs
  refine ⟨(some ⟨b1,0,none⟩,0,()),rfl,trivial,z1v _ _ ?_⟩
  refine wp_lt ?_
  refine zj hs ?_
  refine z8 (zm4 (q:=yP) (d:=d) s 1048576 (by omega) hsg hp2 (hs.pick [1])) λ_ w' hs=>?_
  obtain ⟨b2,rfl,hs⟩:=hs
  refine ⟨(some ⟨b2,0,none⟩,0,()),rfl,trivial,z1v _ _ ?_⟩
  refine wp_lt ?_
  have hI:ApL d 0 ⟨1048576,-1,false,[]⟩ (z26 ⟨d,gP,s,30,[]⟩ 2,⟨0,[]⟩) [] (z26 ⟨d,yP,s,30,[]⟩ 2,⟨0,[]⟩) [] :=
   ⟨zg0 gP d 1048576 (by omega) s 30 2,zg0 yP d 1048576 (by omega) s 30 2,zlb yP 1048576,rfl,Nat.le_refl _,Nat.le_refl _,Nat.le_refl _,Nat.le_refl _,by omega⟩
  generalize ((z26 ⟨d,gP,s,30,[]⟩ 2,⟨0,[]⟩):LedA)=M01 at *
  generalize ((z26 ⟨d,yP,s,30,[]⟩ 2,⟨0,[]⟩):LedA)=M02 at *
  generalize (⟨1048576,-1,false,[]⟩:DiskA)=D0 at *
  refine zr hs λa1 w' hs=>?_
  have hs:Sat w' (slc T.a2 4 ⟨none,0,0⟩ (([]:List RecM).flatMap zu)::_):=hs.slc_nil
  have hs:Sat w' (rlP a1 []::leP b2 M02::dk d D0::leP b1 M01::pt a3 (.cells #[.int .i64 s,.int .i64 30,.int .i64 2] T.a33)::l):=z9u [] (z:=⟨none,0,0⟩) (by simp) (hs.pick [1])
  refine zr hs λa2 w' hs=>?_
  have hs:Sat w' (slc T.a2 4 ⟨none,0,0⟩ (([]:List RecM).flatMap zu)::_):=hs.slc_nil
  have hs:Sat w' (rlP a2 []::rlP a1 []::leP b2 M02::dk d D0::leP b1 M01::pt a3 (.cells #[.int .i64 s,.int .i64 30,.int .i64 2] T.a33)::l):=z9u [] (z:=⟨none,0,0⟩) (by simp) (hs.pick [1])
  have hs:Sat w' (leP b1 M01::dk d D0::rlP a1 []::leP b2 M02::rlP a2 []::pt a3 (.cells #[.int .i64 s,.int .i64 30,.int .i64 2] T.a33)::l):=hs.sub
  refine z03 ?_ (by simp)
  refine zm (λ_ w'=>∃ (D:DiskA) (M1 M2:LedA) (L1 L2:List RecM),ApL d 40 D M1 L1 M2 L2/\Sat w' (leP b1 M1::dk d D::rlP a1 L1::leP b2 M2::rlP a2 L2::pt a3 (.cells #[.int .i64 s,.int .i64 30,.int .i64 2] T.a33)::l)) ?_ ?_
  ·refine z0c (λm v w=>∃ (i:Nat) (D:DiskA) (M1 M2:LedA) (L1 L2:List RecM),v=((i:Int),())/\i<=20/\20-i=m/\ApL d (2*i) D M1 L1 M2 L2/\Sat w (leP b1 M1::dk d D::rlP a1 L1::leP b2 M2::rlP a2 L2::pt a3 (.cells #[.int .i64 s,.int .i64 30,.int .i64 2] T.a33)::l)) 20 ⟨0,_,_,_,_,_,rfl,by omega,rfl,hI,hs⟩ ?_
   clear hs hI
   rintro m _ w ⟨i,D,M1,M2,L1,L2,rfl,hi,hm,hI,hs⟩
   refine zl ?_
   refine zf (λhc=>?_) λhc=>?_
   rotate_left
   ·exact zn (zg ⟨D,M1,M2,L1,L2,hI.wk (by omega),hs⟩)
   have hi20:i<20:=by omega
   refine zhu (p:=.int .i64) hs (xs:=ops) (enc:=z3s) i (d0:=(0:Int)) (λv hv=>?_) (λh=>by simp at h;omega) (λh=>by simp at h;omega)
   refine zhu (p:=.int .i64) hs (xs:=ops) (enc:=z3s) i (d0:=(0:Int)) (λv2 hv2=>?_) (λh=>by simp at h;omega) (λh=>by simp at h;omega)
   clear hv hv2
   refine zm (λ_ w'=>∃ (D:DiskA) (M1:LedA) (L1:List RecM),ApL d (2*i+1) D M1 L1 M2 L2/\Sat w' (leP b1 M1::dk d D::rlP a1 L1::leP b2 M2::rlP a2 L2::pt a3 (.cells #[.int .i64 s,.int .i64 30,.int .i64 2] T.a33)::l)) ?_ ?_
   ·refine zf (λhc2=>?_) λhc2=>?_
    rotate_left
    ·exact zg ⟨D,M1,L1,hI.wk (by omega),hs⟩
    have hil:i<ops.length:=by omega
    have hbr:=hops _ (List.getElem_mem hil)
    refine z2v hs (xs:=ops) (enc:=z3s) i hil ?_
    generalize ops[i]=o at hbr hs ⊢
    refine z8 (zkc o hs) λ_ w' hs=>?_
    obtain ⟨z,rfl,hs⟩:=hs
    have hs:Sat w' (slc T.a2 4 z (((o.rs.take 4).map z2d).flatMap zu)::_):=hs
    refine ⟨(o.kind,z1l o.key,z1l o.value,o.time,z,()),rfl,trivial,z79 _ _ _ _ _ ?_⟩
    have hs:Sat w' (leP b1 M1::dk d D::rlP a1 L1::slc T.a2 4 z (((o.rs.take 4).map z2d).flatMap zu)::leP b2 M2::rlP a2 L2::pt a3 (.cells #[.int .i64 s,.int .i64 30,.int .i64 2] T.a33)::l):=hs.sub
    have hnn:=hI.n1
    refine z8 (zgp (b:=b1) (a:=a1) (d:=d) (M:=M1) (D:=D) (L:=L1) (q:=gP) (zdq o z) hp1 hI.i1 (by omega) (zkd o z)
     (show FocR (slc T.a2 4 z (((o.rs.take 4).map z2d).flatMap zu)::leP b2 M2::rlP a2 L2::pt a3 (.cells #[.int .i64 s,.int .i64 30,.int .i64 2] T.a33)::l) z 4 (((o.rs.take 4).map z2d).flatMap zu) from inferInstance) hs) λ_ w' hs=>?_
    obtain ⟨e,f,M',D',L',rfl,hch,hs⟩:=hs
    refine ⟨(e,f,()),rfl,trivial,z1v _ _ ?_⟩
    exact zg ⟨D',M',L',hI.left (by omega) hch,hs.sub⟩
   clear hs hI
   rintro _ w ⟨D,M1,L1,hI,hs⟩
   refine zl ?_
   refine zhu (p:=.int .i64) hs (xs:=ops2) (enc:=z3s) i (d0:=(0:Int)) (λv hv=>?_) (λh=>by simp at h;omega) (λh=>by simp at h;omega)
   refine zhu (p:=.int .i64) hs (xs:=ops2) (enc:=z3s) i (d0:=(0:Int)) (λv2 hv2=>?_) (λh=>by simp at h;omega) (λh=>by simp at h;omega)
   clear hv hv2
   refine zm (λ_ w'=>∃ (D:DiskA) (M2:LedA) (L2:List RecM),ApL d (2*(i+1)) D M1 L1 M2 L2/\Sat w' (leP b1 M1::dk d D::rlP a1 L1::leP b2 M2::rlP a2 L2::pt a3 (.cells #[.int .i64 s,.int .i64 30,.int .i64 2] T.a33)::l)) ?_ ?_
   ·refine zf (λhc2=>?_) λhc2=>?_
    rotate_left
    ·exact zg ⟨D,M2,L2,hI.wk (by omega),hs⟩
    have hil:i<ops2.length:=by omega
    have hbr:=hops2 _ (List.getElem_mem hil)
    refine z2v hs (xs:=ops2) (enc:=z3s) i hil ?_
    generalize ops2[i]=o at hbr hs ⊢
    refine z8 (zkc o hs) λ_ w' hs=>?_
    obtain ⟨z,rfl,hs⟩:=hs
    have hs:Sat w' (slc T.a2 4 z (((o.rs.take 4).map z2d).flatMap zu)::_):=hs
    refine ⟨(o.kind,z1l o.key,z1l o.value,o.time,z,()),rfl,trivial,z79 _ _ _ _ _ ?_⟩
    have hs:Sat w' (leP b2 M2::dk d D::rlP a2 L2::slc T.a2 4 z (((o.rs.take 4).map z2d).flatMap zu)::leP b1 M1::rlP a1 L1::pt a3 (.cells #[.int .i64 s,.int .i64 30,.int .i64 2] T.a33)::l):=hs.sub
    have hnn:=hI.n2
    refine z8 (zgp (b:=b2) (a:=a2) (d:=d) (M:=M2) (D:=D) (L:=L2) (q:=yP) (zdq o z) hp2 hI.i2 (by omega) (zkd o z)
     (show FocR (slc T.a2 4 z (((o.rs.take 4).map z2d).flatMap zu)::leP b1 M1::rlP a1 L1::pt a3 (.cells #[.int .i64 s,.int .i64 30,.int .i64 2] T.a33)::l) z 4 (((o.rs.take 4).map z2d).flatMap zu) from inferInstance) hs) λ_ w' hs=>?_
    obtain ⟨e,f,M',D',L',rfl,hch,hs⟩:=hs
    refine ⟨(e,f,()),rfl,trivial,z1v _ _ ?_⟩
    exact zg ⟨D',M',L',hI.right (by omega) hch,hs.sub⟩
   clear hs hI
   rintro _ w ⟨D,M2,L2,hI,hs⟩
   refine zl ?_
   refine zm (λq w'=>q=(false,())/\Sat w' (leP b1 M1::dk d D::rlP a1 L1::leP b2 M2::rlP a2 L2::pt a3 (.cells #[.int .i64 s,.int .i64 30,.int .i64 2] T.a33)::l)) ?_ ?_
   ·have hn1:=hI.n1
    have hn2:=hI.n2
    have hl1:=hI.i1.len
    have hl2:=hI.i2.len
    refine z8 (zgb (b:=b1) (a:=a1) (L:=L1) hI.i1.led (by omega) hs) λ_ w' hs=>?_
    obtain ⟨rfl,hs⟩:=hs
    refine zd ?_
    refine z03 ?_ (by simp)
    refine z8 (zgb (b:=b2) (a:=a2) (L:=L2) hI.i2.led (by omega) hs) λ_ w' hs=>?_
    obtain ⟨rfl,hs⟩:=hs
    refine zd ?_
    exact zg ⟨rfl,hs.sub⟩
   clear hs
   rintro _ w ⟨rfl,hs⟩
   refine zl ?_
   refine z3p rfl ?_
   refine z83 (y:=((i+1:Nat):Int)) (by rw [w64 (by omega) (by omega)];omega) ?_
   exact z0z (20-(i+1)) ⟨i+1,D,M1,M2,L1,L2,rfl,by omega,rfl,hI,hs⟩
  clear hs hI
  rintro _ w ⟨D,M1,M2,L1,L2,hI,hs⟩
  refine zl ?_
  have hn2:=hI.n2
  refine zj hs ?_
  refine z8 (zm5 (d:=d) (q:=yP) s hsg hp2 hI.by_ hI.i2 (by omega) hs) λ_ w' hs=>?_
  obtain ⟨b3,rfl,hi3,hl3,hs⟩:=hs
  refine ⟨(some ⟨b3,0,none⟩,0,()),rfl,trivial,z1v _ _ ?_⟩
  refine wp_lt ?_
  refine zm (λq' w'=>q'=(true,())/\Sat w' l) ?_ ?_
  rotate_left
  ·rintro _ w2 ⟨rfl,hs⟩
   refine zl ?_
   exact ⟨rfl,rfl,hs⟩
  refine z6s rfl ?_
  refine z8 (zgb (b:=b3) (a:=a2) (L:=L2) hi3 (by omega) hs) λ_ w' hs=>?_
  obtain ⟨rfl,hs⟩:=hs
  refine zd ?_
  refine z6s rfl ?_
  have hs:Sat w' l:=hs.sub
  refine z8 (zvz hs) λ_ w' hs=>?_
  obtain ⟨rfl,hs⟩:=hs
  refine zd ?_
  refine wp_lt ?_
  exact zg ⟨rfl,hs⟩
end
open Go.ChangeShapes Go.WideShapes Go.RowKit Go.Deep
section
variable {H:Type} {enc:TypeId × Value->H} {P:Program} {w:World} {base:Nat} {spare:Nat->Bool} {held:Bool}
theorem zfl {t:TypeId} {fs:Array Field} {n C:Nat} {cs:List Value} {y:DataW H × List MemPlace} (ht:P.underlying t=some (.struct fs)) (hd:DataW.trod enc P w base spare held n t cs=some y) (hC:P.cellsOf t=C) :
  cs.length=C/\∃ n',∀ (j:Nat) (f:Field),fs[j]? = some f->∃ y,DataW.trod enc P w base spare held n' f.type ((cs.drop f.offset).take (P.cellsOf f.type))=some y:=by
 obtain ⟨ys,n',hn',hy,hlen,hyl,hf⟩:=DataW.trod_struct ht hd
 refine ⟨by rw [hlen,hC],n',λj f hj=>?_⟩
 have hjl:j<fs.size:=(Array.getElem?_eq_some_iff.1 hj).1
 have h1:=hf j f hj
 rw [List.getElem?_eq_getElem (by omega)] at h1
 exact ⟨_,h1⟩
theorem z0ak {t:TypeId} {f0 f1 f2 f3:Field} {n:Nat} {cs:List Value} {y:DataW H × List MemPlace} (ht:P.underlying t=some (.struct #[f0,f1,f2,f3])) (hC:P.cellsOf t=4) (k0:P.underlying f0.type=some .string) (k1:P.underlying f1.type=some .string) (k2:P.underlying f2.type=some .bool) (k3:P.underlying f3.type=some (.int .i64))
  (o0:f0.offset=0) (o1:f1.offset=1) (o2:f2.offset=2) (o3:f3.offset=3) (c0:P.cellsOf f0.type=1) (c1:P.cellsOf f1.type=1) (c2:P.cellsOf f2.type=1) (c3:P.cellsOf f3.type=1)
  (hd:DataW.trod enc P w base spare held n t cs=some y):∃ r:RecM,cs=zu r/\True:=by
 obtain ⟨hl,n',hf⟩:=zfl ht hd hC
 match cs,hl with
 | [v0,v1,v2,v3],_ =>
  obtain ⟨y0,h0⟩:=hf 0 f0 rfl
  obtain ⟨y1,h1⟩:=hf 1 f1 rfl
  obtain ⟨y2,h2⟩:=hf 2 f2 rfl
  obtain ⟨y3,h3⟩:=hf 3 f3 rfl
  rw [o0,c0] at h0
  rw [o1,c1] at h1
  rw [o2,c2] at h2
  rw [o3,c3] at h3
  obtain ⟨s0,q0,-,-⟩:=DataW.trod_string k0 h0
  obtain ⟨s1,q1,-,-⟩:=DataW.trod_string k1 h1
  obtain ⟨b2,q2,-⟩:=DataW.trod_bool k2 h2
  obtain ⟨n3,q3,-,-⟩:=DataW.trod_int k3 h3
  simp at q0 q1 q2 q3
  subst q0 q1 q2 q3
  exact ⟨⟨s0,s1,b2,n3⟩,rfl,trivial⟩
theorem z0an {t e:TypeId} {r:Reach} {b0:Nat} {v:Value} {d:DataW H} {ps:List MemPlace} (ht:P.underlying t=some (.slice e)) (hval:Value.okWide P w r b0 t v) (hd:DataW.Trod enc P w base spare held t v d ps):∃ (fuel:Nat) (y:DataW H × List MemPlace),DataW.trod enc P w base spare held fuel t [v]=some y:=by
 obtain ⟨a0,len0,cap0,rfl⟩:=okWide_slice ht hval
 obtain ⟨fuel,hf⟩:=hd
 exact ⟨fuel,_,hf⟩
theorem z0ac {W:World} {sz:Nat} {x:Sl} {cs:List Value} (h:Rd W sz x cs):FocR [whole W] x sz cs:=⟨λw hs=>z04x hs.of_whole.1 h⟩
end
open Go.ChangeShapes Go.WideShapes Go.RowKit Go.Deep
section
variable {H:Type} {enc:TypeId × Value->H} {P:Program} {w:World} {base:Nat} {spare:Nat->Bool} {held:Bool}
theorem z0aj {t tr:TypeId} {b0 b1 b2 b3 b4:Field} {n:Nat} {cs:List Value} {y:DataW H × List MemPlace} (ht:P.underlying t=some (.struct #[b0,b1,b2,b3,b4])) (hC:P.cellsOf t=5)
  (hone:oneCellFields P #[b0,b1,b2,b3,b4]=true) (l0:P.underlying b0.type=some (.int .i64)) (l1:P.underlying b1.type=some .string) (l2:P.underlying b2.type=some .string) (l3:P.underlying b3.type=some (.int .i64))
  (l4:P.underlying b4.type=some (.slice tr)) (hR:P.cellsOf tr=4) (hrec:∀ (n:Nat) (cs:List Value) (y:DataW H × List MemPlace),cs.length=4->DataW.trod enc P w base spare held n tr cs=some y->∃ r:RecM,cs=zu r/\True)
  (hd:DataW.trod enc P w base spare held n t cs=some y):∃ o:OpL,cs=z3s o/\Rd w 4 o.x (o.rs.flatMap zu):=by
 obtain ⟨hl,m,hg⟩:=zfl ht hd hC
 match cs,hl with
 | [v1,v2,v3,v4,v5],_ =>
  have one:∀ (j:Nat) (f:Field) (u:Value),#[b0,b1,b2,b3,b4][j]? = some f->[v1,v2,v3,v4,v5][j]? = some u->∃ y,DataW.trod enc P w base spare held m f.type [u]=some y:=λj f u hj hu=>by
   obtain ⟨ho,hk⟩:=hone_of hone j f hj
   obtain ⟨y,h1⟩:=hg j f hj
   rw [ho,hk] at h1
   obtain ⟨hjl,rfl⟩:=List.getElem?_eq_some_iff.1 hu
   have hone':([v1,v2,v3,v4,v5].drop j).take 1=[[v1,v2,v3,v4,v5][j]]:=by
    rw [List.drop_eq_getElem_cons hjl];rfl
   rw [hone'] at h1
   exact ⟨y,h1⟩
  obtain ⟨z0,e0⟩:=one 0 b0 v1 rfl rfl
  obtain ⟨z1,e1⟩:=one 1 b1 v2 rfl rfl
  obtain ⟨z2,e2⟩:=one 2 b2 v3 rfl rfl
  obtain ⟨z3,e3⟩:=one 3 b3 v4 rfl rfl
  obtain ⟨z4,e4⟩:=one 4 b4 v5 rfl rfl
  obtain ⟨m0,p0,-,-⟩:=DataW.trod_int l0 e0
  obtain ⟨m1,p1,-,-⟩:=DataW.trod_string l1 e1
  obtain ⟨m2,p2,-,-⟩:=DataW.trod_string l2 e2
  obtain ⟨m3,p3,-,-⟩:=DataW.trod_int l3 e3
  obtain ⟨x,rs,p4,-,-,-,-,hrd⟩:=zxu l4 hR (by decide) hrec e4
  simp at p0 p1 p2 p3
  subst p0 p1 p2 p3 p4
  exact ⟨⟨m0,m1,m2,m3,x,rs⟩,rfl,hrd⟩
end
end Go.Dec
