/- What the claim of this folder leans on: our own texts, joined, without what it does not use. -/
import Derived.Test.YtogdpmpccmpekaaGreatQTNil7
set_option linter.unusedVariables false
set_option linter.unusedSimpArgs false
namespace Go.Dec
def z57 (l:List AtM) (f t:ByteArray):List AtM:=(l.drop (z0j l f)).takeWhile λa=>ltS a.r.key t
theorem zfo {α:Type} {p:α->Bool}:∀ (xs:List α) (i:Nat) (hi:i<xs.length),(∀ a ∈ xs.take i,p a=true)->p xs[i]=false->xs.takeWhile p=xs.take i
 | x::xs,0,_,_,h=>by rw [List.takeWhile_cons_of_neg (by simpa using h)];rfl
 | x::xs,i+1,hi,h1,h2=>by
  rw [List.takeWhile_cons_of_pos (h1 x (List.mem_cons_self ..)),zfo xs i (by simpa using hi) (λa ha=>h1 a (List.mem_cons_of_mem _ ha)) h2];rfl
theorem za8 {α:Type} {p:α->Bool}:∀ (xs:List α),(∀ a ∈ xs,p a=true)->xs.takeWhile p=xs
 | [],_=>rfl
 | x::xs,h=>by rw [List.takeWhile_cons_of_pos (h x (List.mem_cons_self ..)),za8 xs λa ha=>h a (List.mem_cons_of_mem _ ha)]
section
variable {w:World} {l r r1 r2 r3 r4 l':List HP} {b c q t:Nat} {x z:Sl} {n:RowT} {X:CoT} {M:LedA} {D:DiskA} {C:TbC}
set_option maxHeartbeats 2000000 in
theorem z00b (f tt:ByteArray) (most:Int) (htt:tt≠ByteArray.mk #[]) (hm:(C.l.length:Int)<most) [hf:Fo l tbC t C r] (hs:Sat w l) :
  Ret P F.a8 #[.pointer (some ⟨t,0,none⟩),.string f,.string tt,.int .i64 most] w λvs w'=>∃ z:Sl,vs=[z.v]/\Sat w' (slc T.a40 5 z ((z57 C.l f tt).flatMap zp)::tbC t C::r) :=
 z02s _ f tt most <| by
  delta zf7 AC AE AH AK Aa Ab Ac Ad Ak Am Ao Av BF BG BJ BK BL Bc Bf Br
  have hs:=hs.perm hf.perm
  clear hf
  obtain ⟨y,hok,hs⟩:=zbl hs
  have hyl:=hs.slen y (xs:=C.l) (enc:=zp)
  have hfl:=zk7 C.l f
  refine z06 ?_ (by simp)
  refine zt hs λw' hs=>?_
  have hcap:=(hs.pick [1]).slc_cap
  refine zf ?_
  refine z0y hs ?_
  refine zb (znv (t:=t) (C:=C) (z:=y) f hok hs) λ_ w' hs=>?_
  obtain ⟨rfl,hs⟩:=hs
  refine zd ?_ (by first|trivial|(repeat (first|exact trivial|exact λ_=>z09 hs|exact λ_=>z0g hs|refine And.intro ?_ ?_)))
  refine wp_must (by omega) ?_
  refine ze ?_
  rw [Int.toNat_natCast]
  generalize hk:z0j C.l f=k at hfl
  have hdl:(C.l.drop k).length=C.l.length-k:=List.length_drop
  refine zj (λv w'=>∃ z:Sl,v=(z,())/\Sat w' (slc T.a40 5 z ((z57 C.l f tt).flatMap zp)::pt t (.cells #[.int .i64 C.next,.slice y.a y.len y.cap] T.a4)::slc T.a40 5 y (C.l.flatMap zp)::r)) ?_ ?_
  rotate_left
  ·rintro _ w2 ⟨z,rfl,hs⟩
   refine zh ?_
   refine ⟨rfl,z,rfl,?_⟩
   exact (z76 C hok (hs.pick [1,1])).pick [1]
  refine z0a (λq v w=>∃ (i:Nat) (z:Sl),v=(z,(i:Int),())/\i<=(C.l.drop k).length/\(C.l.drop k).length-i=q/\(∀ a ∈ (C.l.drop k).take i,ltS a.r.key tt=true)/\Sat w (slc T.a40 5 z (((C.l.drop k).take i).flatMap zp)::pt t (.cells #[.int .i64 C.next,.slice y.a y.len y.cap] T.a4)::slc T.a40 5 y (C.l.flatMap zp)::r)) (C.l.drop k).length
   ⟨0,⟨none,0,0⟩,rfl,by omega,rfl,(λa ha=>by cases ha),hs.slc_nil⟩ ?_
  clear hs
  rintro q _ w ⟨i,z,rfl,hi,hq,hall,hs⟩
  refine z23 _ _ ?_
  refine zi (λhc=>?_) λhc=>?_
  rotate_left
  ·have e:(C.l.drop k).take i=C.l.drop k:=List.take_of_length_le (by omega)
   rw [e] at hs hall
   refine zm (zg ⟨z,rfl,?_⟩)
   unfold z57
   rw [hk,za8 _ hall]
   exact hs
  have hil:i<(C.l.drop k).length:=by omega
  have hzl:=hs.slen z (xs:=(C.l.drop k).take i) (enc:=zp)
  rw [List.length_take] at hzl
  have hfr:FocR (slc T.a40 5 z (((C.l.drop k).take i).flatMap zp)::pt t (.cells #[.int .i64 C.next,.slice y.a y.len y.cap] T.a4)::slc T.a40 5 y (C.l.flatMap zp)::r) ⟨z0k y.a 5 k y.cap,y.len-k,0⟩ 5 ((C.l.drop k).flatMap zp):=FocR.post hcap
  refine z5b (x:=⟨z0k y.a 5 k y.cap,y.len-k,0⟩) hs (xs:=C.l.drop k) (enc:=zp) i hil ?_
  generalize hae:(C.l.drop k)[i]=a
  refine zu hs λa13 w' hs=>?_
  refine zv hs λw' hs=>?_
  refine z8 hs ?_
  have htb:(ByteArray.toList tt == ByteArray.toList (ByteArray.mk #[]))=false:=by rw [z0dg];exact decide_eq_false htt
  have e1:Op.bytesLess (ByteArray.toList a.r.key) (ByteArray.toList tt)=ltS a.r.key tt:=rfl
  rw [htb,e1]
  have hlen:¬ (((z.len:Nat):Int)>=most):=by omega
  by_cases hlt:ltS a.r.key tt=true
  rotate_left
  ·have hlt:ltS a.r.key tt=false:=by simpa using hlt
   refine zw (by rw [hlt];rfl) ?_
   refine zm (zg ⟨z,rfl,?_⟩)
   unfold z57
   rw [hk,zfo (C.l.drop k) i hil hall (by rw [hae];exact hlt)]
   exact hs.sub
  ·refine z07 (by rw [hlt,decide_eq_false hlen];rfl) ?_
   refine zl hs ?_
   refine z66 hs (xs:=(C.l.drop k).take i) (enc:=zp) a (λz2 w' hs=>?_) rfl (by have:=hok.2;rw [List.length_take];omega)
   have e:(C.l.drop k).take i++[a]=(C.l.drop k).take (i+1):=by
    rw [List.take_add_one,List.getElem?_eq_getElem hil,Option.toList_some,hae]
   rw [e] at hs
   refine z22 (us':=[z2.v,.int .i64 ((i+1:Nat):Int)]) (by (try simp (disch:=omega) only [w64]);first|rfl|(congr;omega)) ?_
   refine z0x ((C.l.drop k).length-(i+1)) ⟨i+1,z2,rfl,by omega,rfl,λu hu=>?_,hs.sub⟩
   rw [<- e] at hu
   rcases List.mem_append.1 hu with hu|hu
   ·exact hall u hu
   ·rw [List.mem_singleton.1 hu];exact hlt
theorem zwa (f tt:ByteArray) (most:Int) (htt:tt≠ByteArray.mk #[]) (hm:(M.2.l.length:Int)<most) [hf:Fo l leP b M r] (hs:Sat w l) :
  Ret P F.a67 #[.pointer (some ⟨b,0,none⟩),.string f,.string tt,.int .i64 most] w λvs w'=>∃ z:Sl,vs=[z.v]/\Sat w' (slc T.a40 5 z ((z57 M.2.l f tt).flatMap zp)::leP b M::r) :=
 zz6 _ f tt most <| by
  delta z0fa AO Aa Ab Ac Ad Ao Bq
  obtain ⟨t,p,hs⟩:=zu7 (hs.perm hf.perm)
  refine z06 ?_ (by simp)
  refine zf ?_
  refine z8 hs ?_
  refine zb (z00b (t:=t) (C:=M.2) f tt most htt hm hs) λ_ w' hs=>?_
  obtain ⟨z,rfl,hs⟩:=hs
  refine zd ?_
  refine ⟨rfl,z,rfl,?_⟩
  have h1:Sat w' (leP b M::slc T.a40 5 z ((z57 M.2.l f tt).flatMap zp)::r):=zdl (t:=t) (p:=p) M hs
  exact h1.pick [1]
variable {p:Nat} {s:Lf}
theorem z7l (most:Int) (hm:0<=most/\most<9223372036854775807) [hf:Fo l (rdS T.a65) p s r] (hs:Sat w l):Ret P F.a211 #[.pointer (some ⟨p,0,none⟩),.int .i64 most] w λvs w'=>vs=[.int .i64 (zq most s).1]/\Sat w' (rdS T.a65 p (zq most s).2::r) :=
 zsx _ most <| by
  delta z08t AY Aa Ab Ac Ad Al Av Bs;unfold zq;refine zb (zg8 (p:=p) hs) λ_ _ hs=>?_;obtain ⟨rfl,hs⟩:=hs;refine zd (wp_lt ?_)
  have e:IntKind.wrap .u64 most=most:=by rw [zxj];omega
  rw [e];refine zi (λh=>?_) λh=>?_
  ·refine z27 (y:=most+1) ?_ (by rw [w64 (by omega) (by omega)]);rw [if_pos h];exact ⟨rfl,rfl,hs⟩
  ·refine z27 (y:=((z0n s).1:Int)) ?_ (by rw [w64 (by omega) (by omega)]);rw [if_neg h];exact ⟨rfl,rfl,hs⟩
end
theorem z0az {n:Int} {ps:List Int} {i:Nat} (hi:i<ps.length) (h:¬ ps[i]<n\/(i≠0/\¬ ps.getD (i-1) 0<ps[i])):z9q n ps=false:=by
 unfold z9q
 rcases h with h|⟨h1,h2⟩
 ·have:ps.all (λp=>decide (p<n))=false:=by
   rw [Bool.eq_false_iff];intro hh;have:=List.all_eq_true.1 hh ps[i] (List.getElem_mem hi);exact h (by simpa using this)
  rw [this];rfl
 ·have:(List.range ps.length).all (λi=>decide (i=0) || decide (ps.getD (i-1) 0<ps.getD i 0))=false:=by
   rw [Bool.eq_false_iff];intro hh;have:=List.all_eq_true.1 hh i (List.mem_range.2 hi);rw [Bool.or_eq_true,decide_eq_true_eq,decide_eq_true_eq] at this
   rcases this with e|e
   ·exact h1 e
   ·rw [List.getD_eq_getElem?_getD (l:=ps) (i:=i),List.getElem?_eq_getElem hi] at e;exact h2 e
  rw [this,Bool.and_false]
theorem z05b {n:Int} {ps:List Int} (h:∀ (i:Nat) (hi:i<ps.length),ps[i]<n/\(i=0\/ps.getD (i-1) 0<ps[i])):z9q n ps=true:=by
 unfold z9q;rw [Bool.and_eq_true,List.all_eq_true,List.all_eq_true];refine ⟨λp hp=>?_,λi hi=>?_⟩
 ·obtain ⟨i,hi,rfl⟩:=List.getElem_of_mem hp;simpa using (h i hi).1
 ·have hi:=List.mem_range.1 hi;rw [Bool.or_eq_true,decide_eq_true_eq,decide_eq_true_eq,List.getD_eq_getElem?_getD (l:=ps) (i:=i),List.getElem?_eq_getElem hi];exact (h i hi).2
section
variable {w:World} {l r r1 r2 r3 r4 l':List HP} {b c q t:Nat} {x z:Sl} {n:RowT} {X:CoT} {M:LedA} {D:DiskA}
set_option maxHeartbeats 2000000 in
theorem z05q {m:CoM} (hl:n.parts.length<=1000) (hs:Sat w (pt q (.cells (rowC x n).toArray T.a62)::slc T.a13 1 x (n.parts.flatMap encI)::pt c (.cells (coC b X m).toArray T.a59)::l)) :
  Ret P F.a197 #[.pointer (some ⟨c,0,none⟩),.pointer (some ⟨q,0,none⟩)] w λvs w'=>vs=[.bool (z6x X.parts n)]/\Sat w' (pt q (.cells (rowC x n).toArray T.a62)::slc T.a13 1 x (n.parts.flatMap encI)::pt c (.cells (coC b X m).toArray T.a59)::l) :=
 zsj _ _ <| by
  delta z08f AD AN AR AW AZ Aa Ab Ac Ah Ai Aj Ak Al Ao Av Az;have hxl:=hs.slen x (xs:=n.parts) (enc:=encI);refine zf (z8 hs ?_);refine zj (λv w'=>z9q X.parts n.parts=true/\Sat w' (pt q (.cells (rowC x n).toArray T.a62)::slc T.a13 1 x (n.parts.flatMap encI)::pt c (.cells (coC b X m).toArray T.a59)::l)) ?_ ?_
  ·refine z0a (λk v w=>∃ i:Nat,v=((i:Int),())/\i<=n.parts.length/\n.parts.length-i=k/\(∀ (j:Nat) (hj:j<n.parts.length),j<i->n.parts[j]<X.parts/\(j=0\/n.parts.getD (j-1) 0<n.parts[j]))/\Sat w (pt q (.cells (rowC x n).toArray T.a62)::slc T.a13 1 x (n.parts.flatMap encI)::pt c (.cells (coC b X m).toArray T.a59)::l)) n.parts.length
    ⟨0,rfl,by omega,rfl,(λj hj h=>by omega),hs⟩ ?_
   clear hs;rintro k _ w ⟨i,rfl,hi,hk,hall,hs⟩;refine zh (zi (λhc=>?_) λhc=>?_);rotate_left
   ·exact zm (zg ⟨z05b λj hj=>hall j hj (by omega),hs⟩)
   have hc:(i:Int)<((x.len:Nat):Int):=hc
   have hil:i<n.parts.length:=by omega
   refine z1g (x:=⟨x.a,x.len,x.cap⟩) hs (xs:=n.parts) (enc:=encI) i hil (wp_lt ?_);refine wp_lt (zf ?_);refine z8 hs (z04 ?_);refine z8 hs ?_
   have ei:(0:Int)<(i:Int)->IntKind.wrap .i64 ((i:Int)-1)=((i-1:Nat):Int):=λh=>by rw [w64 (by omega) (by omega)];omega
   refine zkx (x:=⟨x.a,x.len,x.cap⟩) hs (xs:=n.parts) (enc:=encI) (n.parts.getD (i-1) 0) (λhg=>?_) ?_
   ·have h0:(0:Int)<(i:Int):=of_decide_eq_true hg.2;refine ⟨i-1,by omega,ei h0,?_⟩;rw [List.getD_eq_getElem?_getD,List.getElem?_eq_getElem (show i-1<n.parts.length by omega)];rfl
   by_cases hbad:¬ n.parts[i]<X.parts\/(i≠0/\¬ n.parts.getD (i-1) 0<n.parts[i])
   ·refine zw ?_ ?_
    ·rw [Bool.or_eq_true,Bool.and_eq_true,decide_eq_true_eq,decide_eq_true_eq,decide_eq_true_eq]
     rcases hbad with h|⟨h1,h2⟩
     ·left;show n.parts[i]>=X.parts;omega
     ·right;refine ⟨by omega,?_⟩;show n.parts[i]<=n.parts.getD (i-1) 0;omega
    refine zm (zm ?_);refine ⟨rfl,?_,hs⟩
    have:z6x X.parts n=false:=by unfold z6x;rw [z0az hil hbad];rfl
    rw [this]
   ·refine z07 ?_ ?_
    ·rw [Bool.or_eq_false_iff,Bool.and_eq_false_iff,decide_eq_false_iff_not,decide_eq_false_iff_not,decide_eq_false_iff_not];refine ⟨?_,?_⟩
     ·show ¬ n.parts[i]>=X.parts;intro h;exact hbad (.inl (by omega))
     ·by_cases h0:i=0
      ·left;omega
      ·right;show ¬ n.parts[i]<=n.parts.getD (i-1) 0;intro h;exact hbad (.inr ⟨h0,by omega⟩)
    refine z22 (us':=[.int .i64 ((i+1:Nat):Int)]) (by (try simp (disch:=omega) only [w64]);first|rfl|(congr;omega)) (z0x (n.parts.length-(i+1)) ⟨i+1,rfl,by omega,rfl,λj hj hji=>?_,hs⟩)
    by_cases hj2:j=i
    ·subst hj2;refine ⟨Decidable.byContradiction λh=>hbad (.inl h),?_⟩
     by_cases h0:j=0
     ·exact .inl h0
     ·exact .inr (Decidable.byContradiction λh=>hbad (.inr ⟨h0,h⟩))
    ·exact hall j hj (by omega)
  clear hs;rintro _ w ⟨hri,hs⟩;refine zh (zf ?_);refine z8 hs (z04 ?_);refine z8 hs (wp_lt ?_);refine zf (z8 hs ?_);refine z04 (z8 hs ?_);refine z04 (z8 hs ?_);refine z04 (z8 hs ?_);refine z04 (z8 hs ?_);refine z04 (z8 hs ?_);refine wp_lt ⟨rfl,?_,hs⟩;unfold z6x;rw [hri]
  have e1:(((x.len:Nat):Int) == 0)=decide (n.parts=[]):=by
   rw [hxl,Bool.eq_iff_iff];simp
  have e2:∀ v:Int,(n.state == v)=decide (n.state=v):=λv=>rfl;show [Value.bool (((n.state == 0 || n.state == 5) == (((x.len:Nat):Int) == 0)) && (!n.own || n.state == 3) && (!n.next || n.state == 2 || n.state == 3))]=_;rw [e1,e2,e2,e2,e2,Bool.true_and]
theorem z05v {most:Int} (hm:0<=most) (s:Lf):0<=(zq most s).1/\(zq most s).1<=most+1:=by
 unfold zq;simp only;split <;> omega
theorem zwo:∀ k:Nat,k≠0->z3a k none=([],none)
 | 0,h=>absurd rfl h
 | k+1,_=>rfl
theorem zj5:∀ (k:Nat) (s:Lf),(z3a k s).1.length<=k
 | 0,s=>Nat.le_refl _
 | k+1,none=>Nat.zero_le _
 | k+1,some b=>by
  show ((zq 256 (some b)).1::(z3a k (zq 256 (some b)).2).1).length<=k+1;have:=zj5 k (zq 256 (some b)).2;rw [List.length_cons];omega
set_option maxHeartbeats 4000000 in
theorem z0bd {m:CoM} (key value:ByteArray) (hk:1<=key.size/\key.size<=1000000) (hv:value.size<=1000000) (hX:0<=X.epochs/\X.epochs<=32767) (hs:Sat w (pt c (.cells (coC b X m).toArray T.a59)::l)) :
  Ret P F.a200 #[.pointer (some ⟨c,0,none⟩),.string key,.string value] w λvs w'=>match z3g X key value with
   | some n=>∃ (q:Nat) (z:Sl),vs=[.pointer (some ⟨q,0,none⟩),.bool true]/\n.parts.length<=300/\Sat w' (pt q (.cells (rowC z n).toArray T.a62)::slc T.a13 1 z (n.parts.flatMap encI)::pt c (.cells (coC b X m).toArray T.a59)::l)
   | none=>∃ p:Option Addr,vs=[.pointer p,.bool false]/\Sat w' (pt c (.cells (coC b X m).toArray T.a59)::l) :=
 zsm _ key value <| by
  delta z08i AA AB AC AD AE AS AW Aa Ab Ac Ad Af Ag Ah Aj Al Am Ao Av Az B1 B2 BF BG Ba Bc Bf;refine zjs hs λy w' hs=>zb (zou y value.data.toList (by show value.size<=_;omega) hs) λ_ w' hs=>?_;obtain ⟨p,rfl,hs⟩:=hs;refine zd ?_
  obtain ⟨H,hH⟩:∃ H,H=hdT X.epochs (some (bl value)):=⟨_,rfl⟩
  have e0:H.pi=zq 1048576 (some (bl value)):=by rw [hH];rfl
  have e1:H.ep=zq X.epochs H.pi.2:=by rw [hH];rfl
  have e2:H.wh=zq 1099511627776 H.ep.2:=by rw [hH];rfl
  have e3:H.st=zq 5 H.wh.2:=by rw [hH];rfl
  have e4:H.si=zq 1099511627776 H.st.2:=by rw [hH];rfl
  have e5:H.li=zq 1099511627776 H.si.2:=by rw [hH];rfl
  have e6:H.fa=zq 3 H.li.2:=by rw [hH];rfl
  have e7:H.ow=z3m H.fa.2:=by rw [hH];rfl
  have e8:H.nx=z3m H.ow.2:=by rw [hH];rfl
  have e9:H.n=zq 256 H.nx.2:=by rw [hH];rfl
  have e10:H.ps=z3a H.n.1.toNat H.n.2:=by rw [hH];rfl
  have hread:z3g X key value=if H.ps.2=some []/\zb0 X (H.row (key.extract 1 key.size))=true/\z6x X.parts (H.row (key.extract 1 key.size))=true then some (H.row (key.extract 1 key.size)) else none:=by unfold z3g;rw [<- hH]
  rw [hread];clear hread hH;generalize hid:key.extract 1 key.size=id;have hs:Sat w' (rdS T.a65 p (some (bl value))::pt c (.cells (coC b X m).toArray T.a59)::l):=hs.sub;refine zj (λv w'=>∃ a:Nat,v=(some ⟨a,0,none⟩,())/\Sat w' (rdS T.a65 p H.nx.2::pt a (.cells (rowC ⟨none,0,0⟩ { H.row id with parts:=[] }).toArray T.a62)::pt c (.cells (coC b X m).toArray T.a59)::l)) ?_ ?_
  ·refine zt hs λw' hs=>wp_must (by omega) (zf ?_);refine z0y hs (zb (z7l (p:=p) 1048576 (by omega) hs) λ_ w' hs=>?_);obtain ⟨rfl,hs⟩:=hs;refine zd ?_ (by first|trivial|(repeat (first|exact trivial|exact λ_=>z09 hs|exact λ_=>z0g hs|refine And.intro ?_ ?_)));refine ze ?_;rw [<- e0] at hs ⊢;refine zb (z7l (p:=p) X.epochs (by omega) hs) λ_ w' hs=>?_;obtain ⟨rfl,hs⟩:=hs;refine zd ?_;rw [<- e1] at hs ⊢;refine zb (z7l (p:=p) 1099511627776 (by omega) hs) λ_ w' hs=>?_;obtain ⟨rfl,hs⟩:=hs;refine zd ?_;rw [<- e2] at hs ⊢;refine zb (z7l (p:=p) 5 (by omega) hs) λ_ w' hs=>?_;obtain ⟨rfl,hs⟩:=hs;refine zd ?_;rw [<- e3] at hs ⊢;refine zb (z7l (p:=p) 1099511627776 (by omega) hs) λ_ w' hs=>?_;obtain ⟨rfl,hs⟩:=hs;refine zd ?_;rw [<- e4] at hs ⊢;refine zb (z7l (p:=p) 1099511627776 (by omega) hs) λ_ w' hs=>?_;obtain ⟨rfl,hs⟩:=hs;refine zd ?_;rw [<- e5] at hs ⊢;refine zb (z7l (p:=p) 3 (by omega) hs) λ_ w' hs=>?_;obtain ⟨rfl,hs⟩:=hs;refine zd ?_;rw [<- e6] at hs ⊢;refine zb (zk6 (p:=p) hs) λ_ w' hs=>?_;obtain ⟨rfl,hs⟩:=hs;refine zd ?_;rw [<- e7] at hs ⊢;refine zb (zk6 (p:=p) hs) λ_ w' hs=>?_;obtain ⟨rfl,hs⟩:=hs;refine zd ?_;rw [<- e8] at hs ⊢;exact zr hs λa w' hs=>ze (zg ⟨a,rfl,hs.pick [1,0]⟩)
  clear hs;rintro _ w ⟨a,rfl,hs⟩;refine zh (zb (z7l (p:=p) 256 (by omega) hs) λ_ w' hs=>?_);obtain ⟨rfl,hs⟩:=hs;refine zd ?_;have hn0:=z05v (most:=256) (by omega) H.nx.2;rw [<- e9] at hs hn0 ⊢;refine wp_lt ?_
  obtain ⟨N,hN⟩:∃ N:Nat,H.n.1=N:=⟨H.n.1.toNat,by omega⟩
  rw [hN] at hn0 ⊢;rw [hN,Int.toNat_natCast] at e10;have hpl:=zj5 N H.n.2;rw [<- e10] at hpl;refine zj (λv w'=>∃ z:Sl,Sat w' (rdS T.a65 p H.ps.2::pt a (.cells (rowC z (H.row id)).toArray T.a62)::slc T.a13 1 z (H.ps.1.flatMap encI)::pt c (.cells (coC b X m).toArray T.a59)::l)) ?_ ?_
  ·refine z0a (λk v w=>∃ (i:Nat) (acc:List Int) (s:Lf) (z:Sl),v=((i:Int),())/\i<=N/\N-i=k/\acc.length=i/\H.ps=(acc++(z3a (N-i) s).1,(z3a (N-i) s).2)/\Sat w (rdS T.a65 p s::pt a (.cells (rowC z { H.row id with parts:=acc }).toArray T.a62)::slc T.a13 1 z (acc.flatMap encI)::pt c (.cells (coC b X m).toArray T.a59)::l)) N
    ⟨0,[],H.n.2,⟨none,0,0⟩,rfl,by omega,rfl,rfl,by rw [e10];rfl,by
     have h1:Sat w' (slc T.a13 1 ⟨none,0,0⟩ (([]:List Int).flatMap encI)::_):=hs.slc_nil
     exact h1.pick [1,1,0]⟩ ?_
   clear hs;rintro k _ w ⟨i,acc,s,z,rfl,hi,hk2,hacc,hps,hs⟩;refine zh (zj (λv w'=>v=(decide (i<N) && s.isSome,())/\Sat w' (rdS T.a65 p s::pt a (.cells (rowC z { H.row id with parts:=acc }).toArray T.a62)::slc T.a13 1 z (acc.flatMap encI)::pt c (.cells (coC b X m).toArray T.a59)::l)) ?_ ?_)
   ·refine zi (λhc=>?_) λhc=>?_
    ·refine zb (zo4 (p:=p) hs) λ_ w' hs=>?_;obtain ⟨e,rfl,he,hs⟩:=hs;refine zd (zg ⟨?_,hs⟩);have h1:decide (i<N)=true:=decide_eq_true (by omega);rw [h1,Bool.true_and]
     congr 1
     rw [Bool.eq_iff_iff];simpa using he
    ·refine zg ⟨?_,hs⟩;have h1:decide (i<N)=false:=decide_eq_false (by omega);rw [h1];rfl
   clear hs;rintro _ w ⟨rfl,hs⟩;refine zh ?_
   cases hgo:(decide (i<N) && s.isSome) with
   | false =>
    refine z07 rfl ?_
    have hfin:z3a (N-i) s=([],s):=by
     rw [Bool.and_eq_false_iff] at hgo
     rcases hgo with h|h
     ·have:N-i=0:=by have:=of_decide_eq_false h;omega
      rw [this];cases s <;> rfl
     ·cases s with
      | none =>
       by_cases h0:N-i=0
       ·rw [h0];rfl
       ·exact zwo _ h0
      | some u=>cases h
    rw [hfin,List.append_nil] at hps
    have hacc2:acc=H.ps.1:=by rw [hps]
    have hs2:s=H.ps.2:=by rw [hps]
    refine zm (zg ⟨z,?_⟩)
    have er:({ H.row id with parts:=acc }:RowT)=H.row id:=by rw [hacc2];rfl
    rw [<- hs2,<- hacc2,<- er];exact hs
   | true =>
    refine zw rfl ?_;rw [Bool.and_eq_true,decide_eq_true_eq] at hgo;obtain ⟨u,rfl⟩:=Option.isSome_iff_exists.1 hgo.2
    obtain ⟨j,hj⟩:∃ j,N-i=j+1:=⟨N-i-1,by omega⟩
    have hstep:z3a (N-i) (some u)=((zq 256 (some u)).1::(z3a j (zq 256 (some u)).2).1,(z3a j (zq 256 (some u)).2).2):=by rw [hj];rfl
    have hj2:N-(i+1)=j:=by omega
    refine zj (λv w'=>∃ z2:Sl,v=(z2,())/\Sat w' (rdS T.a65 p (zq 256 (some u)).2::pt a (.cells (rowC z { H.row id with parts:=acc }).toArray T.a62)::slc T.a13 1 z2 ((acc++[(zq 256 (some u)).1]).flatMap encI)::pt c (.cells (coC b X m).toArray T.a59)::l)) ?_ ?_
    ·refine zt hs λw' hs=>zf (z0y hs ?_);refine zb (z7l (p:=p) 256 (by omega) hs) λ_ w' hs=>?_;obtain ⟨rfl,hs⟩:=hs;refine zd ?_ (by first|trivial|(repeat (first|exact trivial|exact λ_=>z09 hs|exact λ_=>z0g hs|refine And.intro ?_ ?_)))
     refine z7o hs (enc:=encI) [(zq 256 (some u)).1] λy2 w' hs=>⟨(by first|trivial|(repeat (first|exact trivial|exact λ_=>z09 hs|exact λ_=>z0g hs|refine And.intro ?_ ?_))),?_⟩
     refine ze (wp_app' (x:=z) (y:=y2) (xs:=acc) (ys:=[(zq 256 (some u)).1]) (enc:=encI) hs (λz2 w' hs=>?_) (by simp only [List.length_cons,List.length_nil];omega));exact ze (zg ⟨z2,rfl,hs.sub⟩)
    clear hs;rintro _ w ⟨z2,rfl,hs⟩;refine zh (zf ?_);refine zy hs λw' hs=>?_
    have ei:IntKind.wrap .i64 ((i:Int)+1)=((i+1:Nat):Int):=by rw [w64 (by omega) (by omega)];omega
    rw [ei];refine wp_lt (z0x (N-(i+1)) ⟨i+1,acc++[(zq 256 (some u)).1],(zq 256 (some u)).2,z2,rfl,by omega,rfl,by rw [List.length_append,hacc];rfl,?_,hs.pick [1,0,0]⟩);rw [hps,hstep,hj2,List.append_assoc];rfl
  clear hs;rintro _ w ⟨z,hs⟩;refine zh (zj (λv w'=>v=(!(decide (H.ps.2=some []) && zb0 X (H.row id)),())/\Sat w' (pt a (.cells (rowC z (H.row id)).toArray T.a62)::slc T.a13 1 z (H.ps.1.flatMap encI)::pt c (.cells (coC b X m).toArray T.a59)::l)) ?_ ?_)
  ·refine zt hs λw' hs=>zb (zo2 (p:=p) hs) λ_ w' hs=>?_;obtain ⟨e,rfl,he,hs⟩:=hs;refine zd (z04 ?_);refine z8 hs ?_
   by_cases he0:e≠0
   ·refine zw (by simpa using he0) (ze ?_);refine zg ⟨?_,hs⟩;have:decide (H.ps.2=some [])=false:=decide_eq_false λh=>he0 (he.2 h);rw [this];rfl
   have he1:e=0:=by omega
   have hend:decide (H.ps.2=some [])=true:=decide_eq_true (he.1 he1);rw [hend,Bool.true_and];refine z07 (by simp [he1]) (zb (z00v id hs) λ_ w' hs=>?_);obtain ⟨rfl,hs⟩:=hs;refine zd (z04 ?_);refine z8 hs (z04 ?_);refine z8 hs (z04 ?_);refine z8 hs (z04 ?_);refine z8 hs (z04 ?_);refine z8 hs (z04 ?_);refine z8 hs (z04 ?_);refine z8 hs ?_
   have efit:zb0 X (H.row id)=(!(!idT id || decide (H.pi.1<1) || decide (H.pi.1>1048576) || decide (H.ep.1>X.epochs) || decide (H.st.1>5) || decide (H.fa.1>3)) && (z1h H.wh.1 && (z1h H.si.1 && z1h H.li.1))):=by
    show (idT id && decide (1<=H.pi.1) && decide (H.pi.1<=1048576) && decide (H.ep.1<=X.epochs) && decide (H.st.1<=5) && decide (H.fa.1<=3) && z1h H.wh.1 && z1h H.si.1 && z1h H.li.1)=_
    have d1:∀ u v:Int,decide (u>v)=!decide (u<=v):=λu v=>by rw [<- decide_not];exact decide_eq_decide.2 (by omega)
    rw [d1,d1,d1,d1,d1];simp only [Bool.not_or,Bool.not_not,Bool.and_assoc]
   rw [efit];show (Prog.ite (!idT id || decide (H.pi.1<1) || decide (H.pi.1>1048576) || decide (H.ep.1>X.epochs) || decide (H.st.1>5) || decide (H.fa.1>3)) _ _).wp _ _ _ _
   cases hb:(!idT id || decide (H.pi.1<1) || decide (H.pi.1>1048576) || decide (H.ep.1>X.epochs) || decide (H.st.1>5) || decide (H.fa.1>3)) with
   | true =>
    refine zw rfl (ze ?_);exact zg ⟨rfl,hs⟩
   | false =>
   refine z07 rfl (zb (z6z H.wh.1 hs) λ_ w' hs=>?_);obtain ⟨rfl,hs⟩:=hs;refine zd (z04 ?_);refine z8 hs ?_
   cases h1:z1h H.wh.1 with
   | false =>
    refine zw rfl (ze ?_);exact zg ⟨rfl,hs⟩
   | true =>
   refine z07 rfl (zb (z6z H.si.1 hs) λ_ w' hs=>?_);obtain ⟨rfl,hs⟩:=hs;refine zd (z04 ?_);refine z8 hs ?_
   cases h2:z1h H.si.1 with
   | false =>
    refine zw rfl (ze ?_);exact zg ⟨rfl,hs⟩
   | true =>
   refine z07 rfl (zb (z6z H.li.1 hs) λ_ w' hs=>?_);obtain ⟨rfl,hs⟩:=hs;refine zd (ze ?_);refine zg ⟨?_,hs⟩;simp
  clear hs;rintro _ w ⟨rfl,hs⟩;refine zh ?_
  cases hfit:(decide (H.ps.2=some []) && zb0 X (H.row id)) with
  | false =>
   refine zw rfl ?_;rw [if_neg λhh=>by rw [decide_eq_true hh.1,hh.2.1] at hfit;cases hfit];exact ⟨rfl,none,rfl,hs.tail.tail⟩
  | true =>
  refine z07 rfl ?_;rw [Bool.and_eq_true,decide_eq_true_eq] at hfit;refine zb (z05q (b:=b) (c:=c) (q:=a) (x:=z) (n:=H.row id) (X:=X) (m:=m) (by show H.ps.1.length<=1000;omega) hs) λ_ w' hs=>?_;obtain ⟨rfl,hs⟩:=hs;refine zd (wp_lt ?_)
  cases hh:z6x X.parts (H.row id) with
  | true =>
   rw [if_pos ⟨hfit.1,hfit.2,rfl⟩];exact ⟨rfl,a,z,rfl,by show H.ps.1.length<=300;omega,hs⟩
  | false =>
   rw [if_neg λh=>by cases h.2.2];exact ⟨rfl,some ⟨a,0,none⟩,rfl,hs.tail.tail⟩
end
theorem z05a {n:Int} {ps:List Int} (h:z9q n ps=true):(∀ p ∈ ps,p<n)/\ps.Pairwise (· < ·):=by
 unfold z9q at h;rw [Bool.and_eq_true,List.all_eq_true,List.all_eq_true] at h;obtain ⟨h1,h2⟩:=h;refine ⟨λp hp=>by simpa using h1 p hp,?_⟩
 have hc:∀ (j:Nat) (hj:j+1<ps.length),ps[j]<ps[j+1]:=λj hj=>by
  have:=h2 (j+1) (List.mem_range.2 hj);rw [Bool.or_eq_true,decide_eq_true_eq,decide_eq_true_eq] at this
  rcases this with e|e
  ·omega
  ·rw [List.getD_eq_getElem?_getD,List.getD_eq_getElem?_getD,List.getElem?_eq_getElem hj,List.getElem?_eq_getElem (by omega)] at e;exact e
 rw [List.pairwise_iff_getElem];intro i j hi hj hij
 have:∀ (d:Nat) (hd:i+(d+1)<ps.length),ps[i]<ps[i+(d+1)]:=by
  intro d
  induction d with
  | zero=>exact λhd=>hc i hd
  | succ d ih=>exact λhd=>Int.lt_trans (ih (by omega)) (hc (i+(d+1)) hd)
 have h3:=this (j-i-1) (by omega)
 have e:i+(j-i-1+1)=j:=by omega
 simp only [e] at h3;exact h3
theorem zg9 {most:Int} (hm:0<=most) (s:Lf):0<=(zq most s).1:=by
 unfold zq;simp only;split <;> omega
theorem zp4:∀ (k:Nat) (s:Lf),∀ p ∈ (z3a k s).1,0<=p
 | 0,s,p,h=>by cases h
 | k+1,none,p,h=>by cases h
 | k+1,some b,p,h=>by
  have h:p ∈ (zq 256 (some b)).1::(z3a k (zq 256 (some b)).2).1:=h
  rcases List.mem_cons.1 h with rfl|h
  ·exact zg9 (by omega) _
  ·exact zp4 k _ p h
theorem zpd {X:CoT} {k v:ByteArray} {n:RowT} (he:0<=X.epochs) (h:z3g X k v=some n):n.id=k.extract 1 k.size/\n.owed=[]/\OkRow X (z3f n):=by
 unfold z3g at h;split at h
 ·rename_i hc
  obtain ⟨-,hfit,hhold⟩:=hc;have h:=Option.some.inj h;subst h;refine ⟨rfl,rfl,?_⟩;generalize hn:(hdT X.epochs (some (bl v))).row (k.extract 1 k.size)=n at hfit hhold ⊢
  have p0:0<=n.epoch:=by rw [<- hn];exact zg9 he _
  have p1:0<=n.state:=by rw [<- hn];exact zg9 (by omega) _
  have p2:0<=n.fate:=by rw [<- hn];exact zg9 (by omega) _
  have p3:∀ p ∈ n.parts,0<=p:=by rw [<- hn];exact zp4 _ _
  have p4:n.owed=[]:=by rw [<- hn];rfl
  unfold zb0 at hfit;simp only [Bool.and_eq_true,decide_eq_true_eq] at hfit;obtain ⟨⟨⟨⟨⟨⟨⟨⟨a1,a2⟩,a3⟩,a4⟩,a5⟩,a6⟩,a7⟩,a8⟩,a9⟩:=hfit;unfold z6x at hhold;simp only [Bool.and_eq_true] at hhold;obtain ⟨⟨⟨b1,b2⟩,b3⟩,b4⟩:=hhold;obtain ⟨c1,c2⟩:=z05a b1
  have k1:(n.state=0\/n.state=5)↔n.parts=[]:=by
   rw [beq_iff_eq,<- Bool.decide_or] at b2;exact decide_eq_decide.1 b2
  have k2:n.own=true->n.state=3:=λho=>by rw [ho] at b3;simpa using b3
  have k3:n.next=true->n.state=2\/n.state=3:=λho=>by rw [ho] at b4;simpa using b4
  unfold z3f
  by_cases ho:z1a n=true
  ·rw [if_pos ho];refine ⟨a1,⟨a2,a3⟩,⟨p0,a4⟩,z4k.1 a7,⟨p1,a5⟩,z4k.1 a8,z4k.1 a9,⟨p2,a6⟩,c2,λp hp=>⟨p3 p hp,c1 p hp⟩,k1,k2,k3,List.Sublist.refl _,λ_=>ho,λ_ e=>?_⟩;have:=k1.2 e;simp only [z1a,Bool.and_eq_true,decide_eq_true_eq] at ho;omega
  ·rw [if_neg ho];refine ⟨a1,⟨a2,a3⟩,⟨p0,a4⟩,z4k.1 a7,⟨p1,a5⟩,z4k.1 a8,z4k.1 a9,⟨p2,a6⟩,c2,λp hp=>⟨p3 p hp,c1 p hp⟩,k1,k2,k3,?_,λhne=>absurd p4 hne,λhh=>absurd hh ho⟩;rw [p4];exact List.nil_sublist _
 ·cases h
theorem z0cp {k:ByteArray} (h1:ltS k (ByteArray.mk #[116])=false) (h2:ltS k (ByteArray.mk #[117])=true):k=tK (k.extract 1 k.size):=by
 unfold ltS at h1 h2;rw [ByteArray.toList_eq,ByteArray.toList_eq] at h1 h2;have e1:(ByteArray.mk #[116]).data.toList=[116]:=rfl;have e2:(ByteArray.mk #[117]).data.toList=[117]:=rfl;rw [e1] at h1;rw [e2] at h2;apply zcl;rw [zjg]
 have e3:bl (k.extract 1 k.size)=(bl k).drop 1:=by
  show (k.extract 1 k.size).data.toList=_;rw [ByteArray.data_extract,Array.toList_extract];show ((bl k).drop 1).take (k.size-1)=_;exact List.take_of_length_le (by rw [List.length_drop,z10];omega)
 rw [e3];have h1:Op.bytesLess (bl k) [116]=false:=h1;have h2:Op.bytesLess (bl k) [117]=true:=h2
 cases hb:bl k with
 | nil=>rw [hb] at h1;cases h1
 | cons x xs =>
  rw [hb] at h1 h2;show x::xs=116::xs
  congr 1
  simp only [Op.bytesLess,Bool.or_eq_false_iff,Bool.or_eq_true,Bool.and_eq_true,Bool.and_eq_false_iff,decide_eq_true_eq,decide_eq_false_iff_not,beq_iff_eq,beq_eq_false_iff_ne] at h1 h2
  have h3:¬ x<116:=by
   intro h;simp_all
  have h4:x<117:=by
   rcases h2 with h|h
   ·exact h
   ·have:=h.2;cases xs <;> simp [Op.bytesLess] at this
  have h5:x.toNat<117:=h4;have h6:¬ x.toNat<116:=h3;apply UInt8.toNat_inj.1;show x.toNat=116;omega
structure StOk (X:CoT) (l:List RowT) (ks:List ByteArray):Prop where
 pids:l.Pairwise λa b=>a.pid<b.pid
 row:∀ r ∈ l,OkRow X r
 id:∀ r ∈ l,tK r.id ∈ ks
 ids:(l.map (·.id)).Nodup
 len:l.length<=ks.length
theorem zx2 {X:CoT} (h1:1<=X.parts/\X.parts<=256) (h2:1<=X.rows/\X.rows<=1024) (h3:0<=X.epochs/\X.epochs<=32767) {l:List RowT} {ks:List ByteArray} (h:StOk X l ks) (hk:ks.length<=1048576):OkT { X with l:=l } :=
 ⟨h1,h2,h3,by have:=h.len;show (l.length:Int)<=_;omega,h.pids,h.ids,λr hr=>by
  have k:=h.row r hr
  exact ⟨k.1,k.2,k.3,k.4,k.5,k.6,k.7,k.8,k.9,k.10,k.11,k.12,k.13,k.14,k.15⟩⟩
theorem zx4 {X:CoT} (he:0<=X.epochs) {l:List RowT} {ks:List ByteArray} (h:StOk X l ks) {k v:ByteArray} (hkt:k=tK (k.extract 1 k.size)) (hnew:k ∉ ks) :
  StOk X (match z3g X k v with|some r=>z7f l r|none=>l) (ks++[k]):=by
 have hmore:StOk X l (ks++[k]):=⟨h.pids,h.row,λr hr=>List.mem_append_left _ (h.id r hr),h.ids,by rw [List.length_append];have:=h.len;omega⟩
 cases hr:z3g X k v with
 | none=>exact hmore
 | some r =>
  obtain ⟨e1,e2,e3⟩:=zpd he hr;show StOk X (z7f l r) (ks++[k]);unfold z7f;split
  ·exact hmore
  ·rename_i hn
   have hne:∀ y ∈ l,y.pid≠r.pid:=λy hy e=>hn (List.any_eq_true.2 ⟨y,hy,by simpa using e⟩)
   have hpo:(z3f r).pid=r.pid/\(z3f r).id=r.id:=by unfold z3f;split <;> exact ⟨rfl,rfl⟩
   have hp:=zb5 (z3f r) l;refine ⟨zdk _ h.pids (by rw [hpo.1];exact hne),λx hx=>?_,λx hx=>?_,?_,?_⟩
   ·rcases List.mem_cons.1 (hp.mem_iff.1 hx) with rfl|hx
    ·exact e3
    ·exact h.row x hx
   ·rcases List.mem_cons.1 (hp.mem_iff.1 hx) with rfl|hx
    ·rw [hpo.2,e1,<- hkt];simp
    ·exact List.mem_append_left _ (h.id x hx)
   ·refine ((hp.map (·.id)).symm.nodup ?_);rw [List.map_cons,List.nodup_cons];refine ⟨λhin=>?_,h.ids⟩;obtain ⟨y,hy,ey⟩:=List.mem_map.1 hin;have:=h.id y hy;rw [show y.id=r.id from ey.trans hpo.2,e1,<- hkt] at this;exact hnew this
   ·rw [hp.length_eq,List.length_cons,List.length_append];have:=h.len;simp;omega
theorem zx3 (X:CoT) (l:List RowT) (kvs:List (ByteArray × ByteArray)) (k v:ByteArray):z1b X l (kvs++[(k,v)])=match z3g X k v with|some r=>z7f (z1b X l kvs) r|none=>z1b X l kvs:=by
 unfold z1b;rw [List.foldl_append];rfl
section
variable {w:World} {l r r1 r2 r3 r4 l':List HP} {b c q t:Nat} {x z:Sl} {n:RowT} {X:CoT} {M:LedA} {D:DiskA}
def kvC (a:AtM):ByteArray × ByteArray:=(a.r.key,a.r.value)
theorem z01o (l:List AtM) (f t:ByteArray):(z57 l f t).Sublist l:=(List.takeWhile_sublist _).trans (List.drop_sublist _ _)
theorem zjn {α:Type} {p:α->Bool} {a:α}:∀ {xs:List α},a ∈ xs.takeWhile p->p a=true
 | [],h=>by cases h
 | x::xs,h=>by
  by_cases hx:p x=true
  ·rw [List.takeWhile_cons_of_pos hx] at h
   rcases List.mem_cons.1 h with rfl|h
   ·exact hx
   ·exact zjn h
  ·rw [List.takeWhile_cons_of_neg hx] at h;cases h
theorem z01n {l:List AtM} (hs:z5i l) {a:AtM} (ha:a ∈ z57 l (ByteArray.mk #[116]) (ByteArray.mk #[117])):a.r.key=tK (a.r.key.extract 1 a.r.key.size):=by
 have h1:=(z7d (k:=ByteArray.mk #[116]) hs).2 a ((List.takeWhile_sublist _).subset ha);have h2:=zjn ha;exact z0cp h1 h2
set_option maxHeartbeats 4000000 in
theorem z038 (parts rows epochs:Int) (h1:1<=parts/\parts<=256) (h2:1<=rows/\rows<=1024) (h3:0<=epochs/\epochs<=32767) (hsort:z5i M.2.l) (hlen:M.2.l.length<=100000) (hsz:∀ a ∈ M.2.l,a.r.key.size<=1000000/\a.r.value.size<=1000000)
  [hf:Fo l leP b M r] (hs:Sat w l) :
  Ret P F.a203 #[.pointer (some ⟨b,0,none⟩),.agg #[.int .i64 parts,.int .i64 rows,.int .i64 epochs]] w λvs w'=>∃ c:Nat,vs=[.pointer (some ⟨c,0,none⟩),.int .i64 0] /\
   OkT ⟨parts,rows,epochs,z1b ⟨parts,rows,epochs,[]⟩ [] ((z57 M.2.l (ByteArray.mk #[116]) (ByteArray.mk #[117])).map kvC)⟩ /\
   Sat w' (coP b c ⟨parts,rows,epochs,z1b ⟨parts,rows,epochs,[]⟩ [] ((z57 M.2.l (ByteArray.mk #[116]) (ByteArray.mk #[117])).map kvC)⟩::leP b M::r) :=
 zsp _ parts rows epochs <| by
  delta z08l AC AD AE AH AI AJ AK AO AP AR AW Aa Ab Ac Ad Ae Af Ag Ah Aj Ak An Av Az B9 BE BJ BK Bd;have hs:=hs.perm hf.perm;clear hf;refine zr hs λa0 w' hs=>wp_lt (z06 ?_ (by simp));refine z8 hs (z8 hs ?_);refine z8 hs (z8 hs ?_);refine z8 hs (z8 hs ?_);refine wp_lt ?_
  refine z07 (by
   have d:∀ p:Prop,∀ [Decidable p],¬ p->decide p=false:=λp _ h=>decide_eq_false h;rw [d _ (by omega),d _ (by omega),d _ (by omega),d _ (by omega),d _ (by omega),d _ (by omega)]
   rfl) ?_
  refine zl hs (z8a ekS evF hs λm12 w' hs=>?_);refine z8a ekI evF hs λm13 w' hs=>z8a ekI evSl hs λm14 w' hs=>zr hs λc w' hs=>zb (zwa (b:=b) (M:=M) (ByteArray.mk #[116]) (ByteArray.mk #[117]) 1048576 (by decide) (by omega) hs) λ_ w' hs=>?_;obtain ⟨y,rfl,hs⟩:=hs;refine zd ?_
  obtain ⟨R,hR⟩:∃ R,R=z57 M.2.l (ByteArray.mk #[116]) (ByteArray.mk #[117]):=⟨_,rfl⟩
  rw [<- hR] at hs ⊢
  have hRs:R.Sublist M.2.l:=by rw [hR];exact z01o _ _ _
  have hRk:∀ a ∈ R,a.r.key=tK (a.r.key.extract 1 a.r.key.size):=λa ha=>z01n hsort (by rw [<- hR];exact ha);have hRl:=hRs.length_le
  have hRn:(R.map λa=>a.r.key).Nodup:=by
   rw [List.Nodup,List.pairwise_map];exact (hsort.sublist hRs).imp λh=>zb8 h
  obtain ⟨X0,hX0⟩:∃ X0:CoT,X0=⟨parts,rows,epochs,[]⟩:=⟨_,rfl⟩
  have q1:X0.parts=parts:=by rw [hX0]
  have q2:X0.rows=rows:=by rw [hX0]
  have q3:X0.epochs=epochs:=by rw [hX0]
  rw [<- hX0]
  obtain ⟨XI,hXI⟩:∃ XI:Nat->CoT,XI=λi=>{ X0 with l:=z1b X0 [] ((R.take i).map kvC) }:=⟨_,rfl⟩
  have hyl:=hs.slen y (xs:=R) (enc:=zp)
  have hok0:StOk X0 [] []:=⟨.nil,(λr h=>by cases h),(λr h=>by cases h),.nil,Nat.le_refl _⟩
  have hs:Sat w' (coP b c (XI 0)::slc T.a40 5 y (R.flatMap zp)::leP b M::r):=by
   have hs:Sat w' (HP.all []::_):=hs.all_nil
   have hok:OkT (XI 0):=by rw [hXI];exact zx2 (by rw [q1];exact h1) (by rw [q2];exact h2) (by rw [q3];exact h3) hok0 (Nat.zero_le _)
   have e1:(XI 0).parts=parts:=by rw [hXI];exact q1
   have e2:(XI 0).rows=rows:=by rw [hXI];exact q2
   have e3:(XI 0).epochs=epochs:=by rw [hXI];exact q3
   have el:(XI 0).l=[]:=by rw [hXI];rfl
   have h4:Sat w' (pt c (.cells (coC b (XI 0) ⟨m12,m13,m14,[]⟩).toArray T.a59)::z03 ekS evF m12 (z1l [])::z03 ekI evF m13 (z11 [])::z03 ekI evSl m14 (z0c [])::HP.all (([]:List RowM).map z2u)::slc T.a40 5 y (R.flatMap zp)::leP b M::r):=by
    show Sat w' (pt c (.cells #[.pointer (some ⟨b,0,none⟩),.int .i64 (XI 0).parts,.int .i64 (XI 0).rows,.int .i64 (XI 0).epochs,.map (some m12),.map (some m13),.map (some m14)] T.a59)::z03 ekS evF m12 []::z03 ekI evF m13 []::z03 ekI evSl m14 []::HP.all []::slc T.a40 5 y (R.flatMap zp)::leP b M::r);rw [e1,e2,e3];exact hs.sub
   exact zk1 ⟨m12,m13,m14,[]⟩ (by rw [el];exact .refl _) hok h4
  refine zj (λv w'=>StOk X0 (z1b X0 [] (R.map kvC)) (R.map λa=>a.r.key)/\Sat w' (coP b c (XI R.length)::leP b M::r)) ?_ ?_;rotate_left
  ·rintro _ w2 ⟨hst,hs⟩;refine zh ?_
   have e:XI R.length=⟨parts,rows,epochs,z1b X0 [] (R.map kvC)⟩:=by
    rw [hXI];show ({ X0 with l:=z1b X0 [] ((R.take R.length).map kvC) }:CoT)=_;rw [List.take_length,<- q1,<- q2,<- q3]
   rw [e] at hs;refine ⟨rfl,c,rfl,?_,hs⟩;have:=zx2 (by rw [q1];exact h1) (by rw [q2];exact h2) (by rw [q3];exact h3) hst (by rw [List.length_map];omega);rw [<- q1,<- q2,<- q3];exact this
  refine z0a (λk v w=>∃ i:Nat,v=((i:Int),())/\i<=R.length/\R.length-i=k/\StOk X0 (z1b X0 [] ((R.take i).map kvC)) ((R.take i).map λa=>a.r.key)/\Sat w (coP b c (XI i)::slc T.a40 5 y (R.flatMap zp)::leP b M::r)) R.length
   ⟨0,rfl,by omega,rfl,hok0,hs⟩ ?_
  clear hs;rintro k _ w ⟨i,rfl,hi,hk,hst,hs⟩;refine zh (zi (λhc=>?_) λhc=>?_);rotate_left
  ·have e:i=R.length:=by omega
   rw [e,List.take_length] at hst;rw [e] at hs;exact zm (zg ⟨hst,hs.sub⟩)
  have hil:i<R.length:=by omega
  refine z5b hs (xs:=R) (enc:=zp) i hil ?_;have haR:R[i] ∈ R:=List.getElem_mem hil
  have htk:R.take (i+1)=R.take i++[R[i]]:=by rw [List.take_add_one,List.getElem?_eq_getElem hil,Option.toList_some]
  have hkey:=hRk _ haR;have hszi:=hsz _ (hRs.subset haR)
  have hnew:R[i].r.key ∉ (R.take i).map λa=>a.r.key:=λhin=>by
   obtain ⟨a,ha,ea⟩:=List.mem_map.1 hin;obtain ⟨j,hj,rfl⟩:=List.mem_take_iff_getElem.1 ha;have h5:=List.pairwise_iff_getElem.1 (hsort.sublist hRs) j i (by omega) hil (by omega);exact zb8 h5 ea
  generalize R[i]=a at *;refine zu hs λa25 w' hs=>zv hs λw' hs=>z8 hs (z8 hs ?_)
  obtain ⟨X,hX⟩:∃ X,X=XI i:=⟨_,rfl⟩
  have hXl:X.l=z1b X0 [] ((R.take i).map kvC):=by rw [hX,hXI]
  have hXc:X.parts=X0.parts/\X.rows=X0.rows/\X.epochs=X0.epochs:=by rw [hX,hXI];exact ⟨rfl,rfl,rfl⟩
  have hXe:X.epochs=epochs:=hXc.2.2.trans q3
  have hread0:∀ kk v,z3g X kk v=z3g X0 kk v:=λkk v=>by
   unfold z3g zb0;rw [hXc.2.2,hXc.1]
  rw [<- hX] at hs
  have hks:1<=a.r.key.size:=by
   have e:=congrArg ByteArray.size hkey;rw [<- z10 (tK _),zjg,List.length_cons] at e;omega
  have hstep:=zx4 (X:=X0) (by rw [q3];exact h3.1) hst hkey hnew (v:=a.r.value)
  have esn:z1b X0 [] ((R.take (i+1)).map kvC)=match z3g X0 a.r.key a.r.value with|some r=>z7f (z1b X0 [] ((R.take i).map kvC)) r|none=>z1b X0 [] ((R.take i).map kvC):=by
   rw [htk,List.map_append];exact zx3 X0 [] _ a.r.key a.r.value
  have hst2:StOk X0 (z1b X0 [] ((R.take (i+1)).map kvC)) ((R.take (i+1)).map λa=>a.r.key):=by
   rw [esn,htk,List.map_append];exact hstep
  have hok2:OkT (XI (i+1)):=by
   rw [hXI];exact zx2 (by rw [q1];exact h1) (by rw [q2];exact h2) (by rw [q3];exact h3) hst2 (by rw [List.length_map,List.length_take];omega)
  have hnext:∀ {w:World},Sat w (coP b c (XI (i+1))::slc T.a40 5 y (R.flatMap zp)::leP b M::r)->(Prog.done 2 [Value.int .i64 (IntKind.wrap .i64 ((i:Int)+1))]).wp P tt w ((Post.catch (λe vs w'=>e=0/\∃ c:Nat,vs=[.pointer (some ⟨c,0,none⟩),.int .i64 0] /\
   OkT ⟨parts,rows,epochs,z1b X0 [] (R.map kvC)⟩/\Sat w' (coP b c ⟨parts,rows,epochs,z1b X0 [] (R.map kvC)⟩::leP b M::r)) 1 λvs w'=>∃ x,vs=z1e [] x/\StOk X0 (z1b X0 [] (R.map kvC)) (R.map λa=>a.r.key)/\Sat w' (coP b c (XI R.length)::leP b M::r)).catch 2 λvs w'=>∃ x' mm,mm<k/\vs=z1e [.one (.int .i64)] x'/\∃ i:Nat,x'=((i:Int),())/\i<=R.length/\R.length-i=mm/\StOk X0 (z1b X0 [] ((R.take i).map kvC)) ((R.take i).map λa=>a.r.key)/\Sat w' (coP b c (XI i)::slc T.a40 5 y (R.flatMap zp)::leP b M::r)):=λ{w} hs=>by
   exact z22 (us':=[.int .i64 ((i+1:Nat):Int)]) (by (try simp (disch:=omega) only [w64]);first|rfl|(congr;omega)) (z0x (R.length-(i+1)) ⟨i+1,rfl,by omega,rfl,hst2,hs⟩)
  obtain ⟨m,hp,hXok,hs⟩:=z67 (hs.pick [1]);have hrd:=z0bd (b:=b) (c:=c) (X:=X) (m:=m) a.r.key a.r.value ⟨hks,hszi.1⟩ hszi.2 (by rw [hXe];exact h3) hs;rw [hread0] at hrd
  cases hrt:z3g X0 a.r.key a.r.value with
  | none =>
   rw [hrt] at hrd esn;refine zb hrd λ_ w' hs=>?_;obtain ⟨p,rfl,hs⟩:=hs;refine ⟨(p,false,()),rfl,trivial,z23 _ _ ?_⟩;refine wp_lt (zt hs λw' hs=>?_);refine z8 hs (z6o (⟨0,0,none⟩,()) (λh=>by cases h) ?_);refine zh (z3k (0,()) (λh=>by cases h) ?_);refine zh (z3k (none,()) (λh=>by cases h) ?_);refine zh (ze ?_);refine zj (λv w'=>Sat w' (coP b c (XI (i+1))::slc T.a40 5 y (R.flatMap zp)::leP b M::r)) ?_ (by rintro _ w2 hs;refine zh ?_;exact hnext hs);refine z07 rfl (zg ?_)
   have e:XI (i+1)=X:=by
    rw [hX,hXI];show ({ X0 with l:=z1b X0 [] ((R.take (i+1)).map kvC) }:CoT)={ X0 with l:=z1b X0 [] ((R.take i).map kvC) };rw [esn]
   rw [e];exact z4g m hp hXok hs
  | some n =>
   rw [hrt] at hrd esn;obtain ⟨f1,f2,f3⟩:=zpd (by rw [q3];exact h3.1) hrt;refine zb hrd λ_ w' hs=>?_;obtain ⟨q,z,rfl,hnl,hs⟩:=hs;refine ⟨(some ⟨q,0,none⟩,true,()),rfl,trivial,z23 _ _ ?_⟩;refine wp_lt (zt hs λw' hs=>?_);refine z8 hs (z04 ?_);refine z8 hs ?_;have hs:Sat w' (pt c (.cells (coC b X m).toArray T.a59)::z03 ekS evF m.ids (z1l m.rs)::z03 ekI evF m.pids (z11 m.rs)::z03 ekI evSl m.owed (z0c m.rs)::HP.all (m.rs.map z2u)::pt q (.cells (rowC z n).toArray T.a62)::slc T.a13 1 z (n.parts.flatMap encI)::slc T.a40 5 y (R.flatMap zp)::leP b M::r):=hs.sub;refine zau hp hXok hs (λt RS hpm hpr hpf htX htp hs=>?_) λhpf=>?_
   ·refine ze (zj (λv w'=>Sat w' (coP b c (XI (i+1))::slc T.a40 5 y (R.flatMap zp)::leP b M::r)) ?_ (by rintro _ w2 hs;refine zh ?_;exact hnext hs));refine z07 rfl (zg ?_)
    have e:XI (i+1)=X:=by
     rw [hX,hXI];show ({ X0 with l:=z1b X0 [] ((R.take (i+1)).map kvC) }:CoT)={ X0 with l:=z1b X0 [] ((R.take i).map kvC) };rw [esn];show ({ X0 with l:=z7f (z1b X0 [] ((R.take i).map kvC)) n }:CoT)=_;rw [<- hXl];unfold z7f;rw [if_pos (List.any_eq_true.2 ⟨t.r,htX,by simpa using htp⟩)]
    rw [e];exact z3c (t:=t) (m:=m) hpr hXok hs
   ·refine ze (zj (λv w'=>Sat w' (coP b c (XI (i+1))::slc T.a40 5 y (R.flatMap zp)::leP b M::r)) ?_ (by rintro _ w2 hs;refine zh ?_;exact hnext hs));refine zw rfl ?_;have hne:=z9y.1 hpf;have hs:Sat w' (coP b c X::pt q (.cells (rowC z n).toArray T.a62)::slc T.a13 1 z (n.parts.flatMap encI)::slc T.a40 5 y (R.flatMap zp)::leP b M::r):=z4g m hp hXok hs
    have hXI2:(XI (i+1)).l=zb4 X.l (z3f n):=by
     rw [hXI];show z1b X0 [] ((R.take (i+1)).map kvC)=_;rw [esn];show z7f (z1b X0 [] ((R.take i).map kvC)) n=_;rw [<- hXl];unfold z7f;rw [if_neg];intro hh;obtain ⟨y2,hy,ey⟩:=List.any_eq_true.1 hh;exact hne y2 hy (by simpa using ey)
    refine zb (z02e (b:=b) (c:=c) (q:=q) (z:=z) (n:=n) (X:=X) (X':=XI (i+1)) hok2 (by rw [hXI];exact ⟨hXc.1.symm,hXc.2.1.symm,hXc.2.2.symm⟩) (by
     rw [hXI2,hpf,List.filter_eq_self.2 λy2 hy=>by simpa using hne y2 hy]
     have e:({ n with owed:=z0z none n }:RowT)=z3f n:=by
      unfold z3f
      by_cases ho:z1a n=true
      ·rw [if_pos ho];unfold z0z;rw [if_pos ho]
      ·rw [if_neg ho,zap ho,<- f2]
     rw [e]
     exact zb5 _ _) (λt ht=>by
     refine ⟨λe=>absurd e (hne t ht),λe=>?_⟩;have hin:=hst.id t (by rw [<- hXl];exact ht);rw [e,f1,<- hkey] at hin
     exact absurd hin hnew) (by omega) hs) λ_ w' hs=>?_
    obtain ⟨rfl,-,hs⟩:=hs;exact zd (zg hs)
end
theorem z0a5 {X:CoT} {id:ByteArray} {who limit now:Int} (h:z1h now=false):(z2o X id who limit now).2=.no:=by unfold z2o;rw [h];rfl
theorem z0bs {X:CoT} {pid epoch now:Int} {ps:List Int} (h:z1h now=false):(z6c X pid epoch now ps).2=.no:=by unfold z6c;rw [if_pos h]
theorem z0c5 {X:CoT} {pid epoch now:Int} {cm:Bool} (h:z1h now=false):(z6e X pid epoch cm now).2=.no:=by unfold z6e;rw [if_pos h]
theorem z0ai {X:CoT} {pid epoch part now:Int} (h:z1h now=false):(z3t X pid epoch part now).2=.no:=by unfold z3t;rw [if_pos h]
def zd7 (d:Nat) (D:DiskA) (X:CoT) (a:ActT) (c:Nat) (e:Int) (X':CoT) (M':LedA) (D':DiskA):Prop :=
 ((e=0/\X'=X.act a)\/(e=5/\X'=X))/\InvC d M' D' X' (c+1)/\∀ k,z82 D (k+1)->e=0/\z82 D' k
theorem znb {d:Nat} {M M':LedA} {D D':DiskA} {X X':CoT} {c:Nat} {a:ActT} {now e:Int} (h:InvC d M D X c) (hc:c<=10000) (ha:z6g X a) (ht:z1h now=false->a=.no) (hd:zd5 X M D a now e X' M' D'):zd7 d D X a c e X' M' D':=by
 cases a with
 | no =>
  obtain ⟨rfl,rfl,rfl,rfl⟩:=hd;exact ⟨.inl ⟨rfl,rfl⟩,h.more (by omega),λk hr=>⟨rfl,hr.less (by omega)⟩⟩
 | owes n =>
  obtain ⟨rfl,rfl,rfl,rfl⟩:=hd;exact ⟨.inl ⟨rfl,rfl⟩,(h.owes ha).more (by omega),λk hr=>⟨rfl,hr.less (by omega)⟩⟩
 | row n =>
  obtain ⟨⟨x,hx⟩,rfl⟩:=hd
  have htm:z1h now=true:=by
   cases hq:z1h now with
   | true=>rfl
   | false=>have:=ht hq;cases this
  obtain ⟨p1,p2⟩:=z0gx h hc ha htm x;rw [hx] at p1 p2
  rcases p1 with ⟨e1,e2⟩|⟨e1,e2⟩
  ·have e1:e=5:=e1;refine ⟨.inr ⟨e1,if_neg (by omega)⟩,?_,λk hr=>absurd e1 (p2 k hr).1⟩;rw [if_neg (by omega)];exact InvC.more e2 (by omega)
  ·have e1:e=0:=e1;refine ⟨.inl ⟨e1,if_pos e1⟩,?_,λk hr=>⟨e1,(p2 k hr).2⟩⟩;rw [if_pos e1];exact e2
section
variable {w:World} {l r r1 r2 r3:List HP} {b c d k0:Nat} {X:CoT} {M:LedA} {D:DiskA}
theorem zg3 (id:ByteArray) (who limit now:Int) (h:InvC d M D X k0) (hk:k0<=10000) [hf:Fo l (coP b) c X r1] [hf1:Fo r1 leP b M r2] [hf2:Fo r2 dk d D r] (hs:Sat w l) :
  Ret P F.a186 #[.pointer (some ⟨c,0,none⟩),.string id,.int .i64 who,.int .i64 limit,.int .i64 now] w λvs w'=>∃ (e:Int) (X':CoT) (M':LedA) (D':DiskA),vs=zaw (z2o X id who limit now).1 e/\zd7 d D X (z2o X id who limit now).2 k0 e X' M' D'/\Sat w' (coP b c X'::leP b M'::dk d D'::r):=by
 have hcp:=h.cpl;obtain ⟨g1,rfl,g3,g4,g5⟩:=hcp;refine Ret.mono (z09i (b:=b) (c:=c) (M:=M) (D:=D) id who limit now h.ok g1 (by omega) hs) λvs w' hh=>?_;obtain ⟨e,X',M',D',hd,hv,hs⟩:=hh;exact ⟨e,X',M',D',hv,znb h hk (zhn h.ok ..) z0a5 hd,hs⟩
theorem z01k (pid epoch now:Int) (p:Sl) (ps:List Int) (h:InvC d M D X k0) (hk:k0<=10000) (hl:ps.length<=6) [hf:Fo l (coP b) c X r1] [hf1:Fo r1 leP b M r2] [hf2:Fo r2 dk d D r] [hps:FocR r p 1 (ps.flatMap encI)] (hs:Sat w l) :
  Ret P F.a183 #[.pointer (some ⟨c,0,none⟩),.int .i64 pid,.int .i64 epoch,.int .i64 now,p.v] w λvs w'=>∃ (e:Int) (X':CoT) (M':LedA) (D':DiskA),vs=zca (z6c X pid epoch now ps).1 e/\zd7 d D X (z6c X pid epoch now ps).2 k0 e X' M' D'/\Sat w' (coP b c X'::leP b M'::dk d D'::r):=by
 have hcp:=h.cpl;have hsm:=h.sm.parts;obtain ⟨g1,rfl,g3,g4,g5⟩:=hcp;refine Ret.mono (z0by (b:=b) (c:=c) (M:=M) (D:=D) pid epoch now p ps h.ok (by omega) g1 (by omega) hs) λvs w' hh=>?_;obtain ⟨e,X',M',D',hd,hv,hs⟩:=hh;exact ⟨e,X',M',D',hv,znb h hk (zth h.ok ..) z0bs hd,hs⟩
theorem z01l (pid epoch:Int) (cm:Bool) (now:Int) (h:InvC d M D X k0) (hk:k0<=10000) [hf:Fo l (coP b) c X r1] [hf1:Fo r1 leP b M r2] [hf2:Fo r2 dk d D r] (hs:Sat w l) :
  Ret P F.a185 #[.pointer (some ⟨c,0,none⟩),.int .i64 pid,.int .i64 epoch,.bool cm,.int .i64 now] w λvs w'=>∃ (e:Int) (X':CoT) (M':LedA) (D':DiskA),vs=z02x (z6e X pid epoch cm now).1 e/\zd7 d D X (z6e X pid epoch cm now).2 k0 e X' M' D'/\Sat w' (coP b c X'::leP b M'::dk d D'::r):=by
 have hcp:=h.cpl;obtain ⟨g1,rfl,g3,g4,g5⟩:=hcp;refine Ret.mono (z0c0 (b:=b) (c:=c) (M:=M) (D:=D) pid epoch cm now h.ok g1 (by omega) hs) λvs w' hh=>?_;obtain ⟨e,X',M',D',hd,hv,hs⟩:=hh;exact ⟨e,X',M',D',hv,znb h hk (ztu h.ok ..) z0c5 hd,hs⟩
theorem zkk (pid epoch part now:Int) (h:InvC d M D X k0) (hk:k0<=10000) [hf:Fo l (coP b) c X r1] [hf1:Fo r1 leP b M r2] [hf2:Fo r2 dk d D r] (hs:Sat w l) :
  Ret P F.a187 #[.pointer (some ⟨c,0,none⟩),.int .i64 pid,.int .i64 epoch,.int .i64 part,.int .i64 now] w λvs w'=>∃ (e:Int) (X':CoT) (M':LedA) (D':DiskA),vs=zca (z3t X pid epoch part now).1 e/\zd7 d D X (z3t X pid epoch part now).2 k0 e X' M' D'/\Sat w' (coP b c X'::leP b M'::dk d D'::r):=by
 have hcp:=h.cpl;obtain ⟨g1,rfl,g3,g4,g5⟩:=hcp;refine Ret.mono (z008 (b:=b) (c:=c) (M:=M) (D:=D) pid epoch part now h.ok g1 (by omega) hs) λvs w' hh=>?_;obtain ⟨e,X',M',D',hd,hv,hs⟩:=hh;exact ⟨e,X',M',D',hv,znb h hk (zor h.ok ..) z0ai hd,hs⟩
theorem z045 {q:ByteArray} {seg gap most:Int} {L:List RecM} (hc:zg1 seg gap) (hm:1<=most/\most<=1024) (hq:z2n q=true) (hb:zd4 q D) (hI:InvH q M D d seg gap most L) (hL:L.length<=100000) [hf:Fo l dk d D r] (hs:Sat w l) :
  Ret P F.a69 #[.pointer (some ⟨d,0,none⟩),.string q,.agg #[.int .i64 seg,.int .i64 gap,.int .i64 most]] w λvs w'=>∃ b:Nat,vs=[.pointer (some ⟨b,0,none⟩),.int .i64 0]/\Sat w' (leP b M::dk d D::r):=by
 obtain ⟨e1,e2,e3,e4,e5,e6⟩:=z00t hI.g hL seg gap most
 have h:=z046 (d:=d) (D:=D) q seg gap most hq hc hm hI.g.q.calm.1 hI.g.q.cpl hb.no (by rw [e1];decide) (by
  rw [e1,e2];intro a ha;unfold z16 at ha;obtain ⟨b,-,hb⟩:=List.mem_flatMap.1 ha
  exact zoa a hb) (by rw [e1,e2,e6];omega) rfl (z05j (by rw [e3];exact Nat.zero_le _)) (hs.perm hf.perm)
 rw [e1,e2] at h
 refine h.mono λvs w' ⟨b,h1,h2⟩=>⟨b,h1,?_⟩
 have em:M=(z2f ⟨d,q,seg,gap,M.1.L.l⟩ most,(z2k ⟨0,[]⟩ (z16 (z0e M.1.L.l))).2):=by
  rw [<- hI.t,<- hI.f.form]
 rw [em]
 have el:(z2f ⟨d,q,seg,gap,M.1.L.l⟩ most,(z2k ⟨0,[]⟩ (z16 (z0e M.1.L.l))).2).1.L.l=M.1.L.l:=by rw [<- em]
 exact h2
theorem zvp (hs:Sat w l):Ret P F.a181 #[] w λvs w'=>vs=[.agg #[.int .i64 300,.int .i64 90,.int .i64 1]]/\Sat w' l :=
 zak <| by
  unfold z91
  refine zu hs λa w' hs=>?_
  refine zv hs λw' hs=>?_
  refine zl hs ?_
  exact ⟨rfl,rfl,hs.tail⟩
theorem z028 (id:ByteArray):ltS (tK id) (ByteArray.mk #[116])=false/\ltS (tK id) (ByteArray.mk #[117])=true:=by
 unfold ltS;rw [ByteArray.toList_eq,ByteArray.toList_eq,ByteArray.toList_eq];have e0:(tK id).data.toList=116::bl id:=zjg id;rw [e0];constructor
 ·show Op.bytesLess (116::bl id) [116]=false;cases bl id <;> rfl
 ·rfl
theorem z01m {l:List AtM} (h:∀ a ∈ l,∃ id,a.r.key=tK id):z57 l (ByteArray.mk #[116]) (ByteArray.mk #[117])=l:=by
 have h0:z0j l (ByteArray.mk #[116])=0:=by
  unfold z0j
  rw [List.filter_eq_nil_iff.2 λa ha=>by
   obtain ⟨id,e⟩:=h a ha
   rw [e,(z028 id).1];simp]
  rfl
 unfold z57;rw [h0,List.drop_zero]
 exact za8 _ λa ha=>by
  obtain ⟨id,e⟩:=h a ha;rw [e];exact (z028 id).2
theorem z056 {X Y:CoT} (h1:X.parts=Y.parts) (h2:X.epochs=Y.epochs) (k v:ByteArray):z3g X k v=z3g Y k v:=by
 unfold z3g zb0;rw [h1,h2]
theorem z023 {X Y:CoT} (h1:X.parts=Y.parts) (h2:X.epochs=Y.epochs) (kvs:List (ByteArray × ByteArray)):z1b X [] kvs=z1b Y [] kvs:=by
 have e:z3g X=z3g Y:=funext λk=>funext λv=>z056 h1 h2 k v;unfold z1b;rw [e]
theorem z05x {X:CoT} (hX:OkT X) (hs:Sm X) {r:RowT} (hr:r ∈ X.l):(z34 r).size<=30:=by
 have h1:=hs.pids r hr;have h2:=hs.len;have h3:=hs.rows;have:=z02g hX hs.epochs hs.parts (hX.row r hr) (by omega)
 have e:(z34 r).size=(z7n r).length:=by rw [<- z10];unfold z34;rw [zbt]
 omega
set_option maxHeartbeats 1000000 in
theorem z024 (h:InvC d M D X k0) (hk:k0<=10000) [hf:Fo l dk d D r] (hs:Sat w l) :
  Ret P F.a182 #[.pointer (some ⟨d,0,none⟩),.agg #[.int .i64 X.parts,.int .i64 X.rows,.int .i64 X.epochs]] w λvs w'=>∃ b c:Nat,vs=[.pointer (some ⟨c,0,none⟩),.int .i64 0]/\Sat w' (coP b c { X with l:=znl X.l }::leP b M::dk d D::r) :=
 zs9 _ X.parts X.rows X.epochs <| by
  delta z086 Aa Ab Ac Ad Af Al B9 BD BE;obtain ⟨⟨L,h1,h2,h3⟩,h4,h5,h6⟩:=h;have hs:=hs.perm hf.perm;clear hf;refine zr hs λa0 w' hs=>zb (zvp hs) λ_ w' hs=>?_;obtain ⟨rfl,hs⟩:=hs;refine ⟨(300,90,1,()),rfl,trivial,z90 _ _ _ ?_⟩;refine zb (z045 (d:=d) (M:=M) (D:=D) (by unfold zg1;omega) (by omega) zjh h6 h1 (by omega) hs) λ_ w' hs=>?_;obtain ⟨b,rfl,hs⟩:=hs;refine ⟨(some ⟨b,0,none⟩,0,()),rfl,trivial,z23 _ _ ?_⟩;refine wp_lt (z06 ?_ (by simp));refine zl hs ?_;obtain ⟨rs,hrs1,hrs2⟩:=zx6 h4 h1.g.led h2
  have hkey:∀ a ∈ M.2.l,∃ q ∈ X.l,a.r.key=tK q.id/\a.r.value=z34 q:=λa ha=>by
   have hin:(a.r.key,a.r.value) ∈ rs.map λr=>(tK r.id,z34 r):=by rw [<- hrs2];exact List.mem_map.2 ⟨a,ha,rfl⟩
   obtain ⟨q,hq,e⟩:=List.mem_map.1 hin;simp only [Prod.mk.injEq] at e;exact ⟨q,hrs1.mem_iff.1 hq,e.1.symm,e.2.symm⟩
  have hlen:=h1.g.len
  refine zb (z038 (b:=b) (M:=M) X.parts X.rows X.epochs h4.parts h4.rows h4.epochs h1.g.led.sort (by omega) (λa ha=>by
   obtain ⟨q,hq,e1,e2⟩:=hkey a ha;have hv:=z05x h4 h5 hq;have hi:=(h4.row q hq).id;simp only [idT,Bool.and_eq_true,decide_eq_true_eq] at hi;rw [e1,e2,<- z10,zjg,List.length_cons,z10]
   omega) hs) λ_ w' hs=>?_
  obtain ⟨c,rfl,hok,hs⟩:=hs;refine ⟨(some ⟨c,0,none⟩,0,()),rfl,trivial,z23 _ _ ?_⟩;refine wp_lt ⟨rfl,b,c,rfl,?_⟩
  have e:z1b ⟨X.parts,X.rows,X.epochs,[]⟩ [] ((z57 M.2.l (ByteArray.mk #[116]) (ByteArray.mk #[117])).map kvC)=znl X.l:=by
   rw [z01m λa ha=>by obtain ⟨q,-,e,-⟩:=hkey a ha;exact ⟨q.id,e⟩];have e2:M.2.l.map kvC=rs.map λr=>(tK r.id,z34 r):=hrs2;rw [e2,z023 (X:=⟨X.parts,X.rows,X.epochs,[]⟩) (Y:=X) rfl rfl];exact zqm h4 hrs1
  rw [e] at hs;exact hs.sub
end
abbrev aId:ByteArray:=ByteArray.mk #[97]
def v0:CoT:=⟨2,4,100,[]⟩
def vr (epoch who state:Int) (parts:List Int) (since limit fate:Int) (owed:List Int):CoT:=⟨2,4,100,[⟨aId,1,epoch,who,state,parts,since,limit,fate,false,false,owed⟩]⟩
def v1:CoT:=vr 0 5 0 [] 0 100 0 []
def v2:CoT:=vr 0 5 1 [1] 1 100 0 []
def v3:CoT:=vr 0 5 2 [1] 1 100 0 [1]
def v4:CoT:=vr 1 5 0 [] 0 100 1 []
def v5:CoT:=vr 1 6 4 [0,1] 0 100 1 [0,1]
def v6:CoT:=vr 1 6 4 [0,1] 0 100 1 [1]
def v7:CoT:=vr 2 6 0 [] 0 100 3 []
def v8:CoT:=vr 2 6 0 [] 0 100 0 []
theorem s1:(z2o v0 aId 5 100 0).1=(1,0,0)/\v0.act (z2o v0 aId 5 100 0).2=v1:=⟨by kernel_rfl,by kernel_rfl⟩
theorem s2:(z6c v1 1 0 1 [1]).1=0/\v1.act (z6c v1 1 0 1 [1]).2=v2:=⟨by kernel_rfl,by kernel_rfl⟩
theorem s3:(z6e v2 1 0 true 2).1=(0,23)/\v2.act (z6e v2 1 0 true 2).2=v3:=⟨by kernel_rfl,by kernel_rfl⟩
theorem s4:(z3t v3 1 0 1 3).1=0/\v3.act (z3t v3 1 0 1 3).2=v4:=⟨by kernel_rfl,by kernel_rfl⟩
theorem s5:(z6e v4 1 0 true 4).1=(1,0)/\v4.act (z6e v4 1 0 true 4).2=v4:=⟨by kernel_rfl,by kernel_rfl⟩
theorem s6:(z2o v4 aId 6 100 5).1=(0,0,23)/\v4.act (z2o v4 aId 6 100 5).2=v5:=⟨by kernel_rfl,by kernel_rfl⟩
theorem s7:(z3t v5 1 1 0 5).1=0/\v5.act (z3t v5 1 1 0 5).2=v6:=⟨by kernel_rfl,by kernel_rfl⟩
theorem s8:(z3t v6 1 1 1 5).1=0/\v6.act (z3t v6 1 1 1 5).2=v7:=⟨by kernel_rfl,by kernel_rfl⟩
theorem s9:(z2o v7 aId 6 100 6).1=(1,2,0)/\v7.act (z2o v7 aId 6 100 6).2=v8:=⟨by kernel_rfl,by kernel_rfl⟩
theorem s10:(z2o v8 aId 5 100 8).1=(0,0,20)/\v8.act (z2o v8 aId 5 100 8).2=v8:=⟨by kernel_rfl,by kernel_rfl⟩
theorem s11:(z6c v8 1 1 7 [0]).1=20/\v8.act (z6c v8 1 1 7 [0]).2=v8:=⟨by kernel_rfl,by kernel_rfl⟩
theorem m3:z37 v3.l=[⟨1,0,1,true⟩]:=by kernel_rfl
theorem m5:z37 v5.l=[⟨1,1,0,false⟩,⟨1,1,1,false⟩]:=by kernel_rfl
theorem z0gh:OkT v0:=⟨by decide,by decide,by decide,by decide,.nil,.nil,λr h=>by cases h⟩
theorem zd7.go {d:Nat} {D:DiskA} {X Y:CoT} {a:ActT} {c k:Nat} {e:Int} {X':CoT} {M':LedA} {D':DiskA} (h:zd7 d D X a c e X' M' D') (hr:z82 D (k+1)) (hy:X.act a=Y):e=0/\X'=Y/\InvC d M' D' Y (c+1)/\z82 D' k:=by
 obtain ⟨h1,h2,h3⟩:=h;obtain ⟨r1,r2⟩:=h3 k hr
 rcases h1 with ⟨-,e2⟩|⟨e1,-⟩
 ·rw [e2,hy] at h2;exact ⟨r1,e2.trans hy,h2,r2⟩
 ·omega
section
variable {w:World} {l r:List HP}
set_option maxHeartbeats 4000000 in
theorem z002 (hs:Sat w l):Ret P F.a180 #[] w λvs w'=>vs=[.bool true]/\Sat w' l :=
 zbm <| by
  unfold za1;refine zb (z0cu 65536 (by decide) hs) λ_ w' hs=>?_;obtain ⟨d,rfl,hs⟩:=hs;refine ⟨(some ⟨d,0,none⟩,0,()),rfl,trivial,z23 _ _ ?_⟩;refine wp_lt ?_;have hI:=z03l d 65536 (by decide) z0gh rfl (by decide) (by decide) (by decide)
  have hR:z82 (⟨65536,-1,false,[]⟩:DiskA) 20:=⟨by decide,by decide⟩
  refine zb (z024 (d:=d) (X:=v0) hI (by decide) hs) λ_ w' hs=>?_;obtain ⟨b,c,rfl,hs⟩:=hs;have hs:Sat w' (coP b c v0::leP b _::dk d _::l):=hs;generalize ((z2f ⟨d,tQ,300,90,[]⟩ 1,⟨0,[]⟩):LedA)=M0 at hI hs;generalize (⟨65536,-1,false,[]⟩:DiskA)=D0 at hI hR hs;refine ⟨(some ⟨c,0,none⟩,0,()),rfl,trivial,z23 _ _ ?_⟩;refine wp_lt (z06 ?_ (by simp));refine zb (zg3 (b:=b) (c:=c) (d:=d) aId 5 100 0 hI (by decide) hs) λ_ w' hs=>?_;obtain ⟨e,X',M1,D1,rfl,hst,hs⟩:=hs;obtain ⟨rfl,rfl,hI,hR⟩:=hst.go hR s1.2;rw [s1.1];refine ⟨(1,0,0,()),rfl,trivial,z90 _ _ _ ?_⟩;refine wp_lt (wp_lt ?_);refine wp_lt (z9k hs (enc:=encI) [1] (λy1 w' hs=>?_));have hs:Sat w' (coP b c v1::leP b M1::dk d D1::slc T.a13 1 y1 ([(1:Int)].flatMap encI)::l):=hs.sub;refine zb (z01k (b:=b) (c:=c) (d:=d) 1 0 1 y1 [1] hI (by decide) (by decide) hs) λ_ w' hs=>?_;obtain ⟨e,X',M2,D2,rfl,hst,hs⟩:=hs;obtain ⟨rfl,rfl,hI,hR⟩:=hst.go hR s2.2;rw [s2.1];refine ⟨(0,()),rfl,trivial,zh ?_⟩;refine wp_lt (zb (z01l (b:=b) (c:=c) (d:=d) 1 0 true 2 hI (by decide) hs) λ_ w' hs=>?_);obtain ⟨e,X',M3,D3,rfl,hst,hs⟩:=hs;obtain ⟨rfl,rfl,hI,hR⟩:=hst.go hR s3.2;rw [s3.1];refine ⟨(0,23,()),rfl,trivial,z23 _ _ ?_⟩;refine wp_lt (wp_lt ?_);refine zb (znx (b:=b) (c:=c) (X:=v3) (by decide) hs) λ_ w' hs=>?_;obtain ⟨z1,rfl,hs⟩:=hs;rw [m3] at hs;refine zd (zb (zkk (b:=b) (c:=c) (d:=d) 1 0 1 3 hI (by decide) hs) λ_ w' hs=>?_);obtain ⟨e,X',M4,D4,rfl,hst,hs⟩:=hs;obtain ⟨rfl,rfl,hI,hR⟩:=hst.go hR s4.2;rw [s4.1];refine ⟨(0,()),rfl,trivial,zh ?_⟩;refine zb (z01l (b:=b) (c:=c) (d:=d) 1 0 true 4 hI (by decide) hs) λ_ w' hs=>?_;obtain ⟨e,X',M5,D5,rfl,hst,hs⟩:=hs;obtain ⟨rfl,rfl,hI,hR⟩:=hst.go hR s5.2;rw [s5.1];refine ⟨(1,0,()),rfl,trivial,z23 _ _ ?_⟩;refine wp_lt (wp_lt ?_);refine zb (zg3 (b:=b) (c:=c) (d:=d) aId 6 100 5 hI (by decide) hs) λ_ w' hs=>?_;obtain ⟨e,X',M6,D6,rfl,hst,hs⟩:=hs;obtain ⟨rfl,rfl,hI,hR⟩:=hst.go hR s6.2;rw [s6.1];refine ⟨(0,0,23,()),rfl,trivial,z90 _ _ _ ?_⟩;refine wp_lt (wp_lt ?_);refine wp_lt (zb (znx (b:=b) (c:=c) (X:=v5) (by decide) hs) λ_ w' hs=>?_);obtain ⟨z2,rfl,hs⟩:=hs;rw [m5] at hs;refine zd (zb (zkk (b:=b) (c:=c) (d:=d) 1 1 0 5 hI (by decide) hs) λ_ w' hs=>?_);obtain ⟨e,X',M7,D7,rfl,hst,hs⟩:=hs;obtain ⟨rfl,rfl,hI,hR⟩:=hst.go hR s7.2;rw [s7.1];refine ⟨(0,()),rfl,trivial,zh ?_⟩;refine zb (zkk (b:=b) (c:=c) (d:=d) 1 1 1 5 hI (by decide) hs) λ_ w' hs=>?_;obtain ⟨e,X',M8,D8,rfl,hst,hs⟩:=hs;obtain ⟨rfl,rfl,hI,hR⟩:=hst.go hR s8.2;rw [s8.1];refine ⟨(0,()),rfl,trivial,zh ?_⟩;refine zb (zg3 (b:=b) (c:=c) (d:=d) aId 6 100 6 hI (by decide) hs) λ_ w' hs=>?_;obtain ⟨e,X',M9,D9,rfl,hst,hs⟩:=hs;obtain ⟨rfl,rfl,hI,hR⟩:=hst.go hR s9.2;rw [s9.1];refine ⟨(1,2,0,()),rfl,trivial,z90 _ _ _ ?_⟩;refine wp_lt (wp_lt ?_);refine wp_lt (zb (zg3 (b:=b) (c:=c) (d:=d) aId 5 100 8 hI (by decide) hs) λ_ w' hs=>?_);obtain ⟨e,X',M10,D10,rfl,hst,hs⟩:=hs;obtain ⟨rfl,rfl,hI,hR⟩:=hst.go hR s10.2;rw [s10.1];refine ⟨(0,0,20,()),rfl,trivial,z90 _ _ _ ?_⟩;refine wp_lt (wp_lt ?_);refine wp_lt ?_;have hz1:=hs.slen z1 (xs:=[(⟨1,0,1,true⟩:MarkT)]) (enc:=z4z);have hz2:=hs.slen z2 (xs:=[(⟨1,1,0,false⟩:MarkT),⟨1,1,1,false⟩]) (enc:=z4z);have hz1:z1.len=1:=hz1;have hz2:z2.len=2:=hz2;refine zve (sz:=4) (x:=z1) hs (xs:=[(⟨1,0,1,true⟩:MarkT)]) (enc:=z4z) 0 (by decide) (zne _ _ _ _ ?_);refine z07 (by rw [hz1];rfl) (zj (λv w'=>v=(true,())/\Sat w' l) ?_ (by rintro _ w2 ⟨rfl,hs⟩;refine zh ?_;exact ⟨rfl,rfl,hs⟩));refine zve (sz:=4) (x:=z2) hs (xs:=[(⟨1,1,0,false⟩:MarkT),⟨1,1,1,false⟩]) (enc:=z4z) 1 (by decide) (zne _ _ _ _ ?_);refine zw (by rw [hz2];rfl) (z9k hs (enc:=encI) [0] (λy2 w' hs=>?_));have hs:Sat w' (coP b c v8::leP b M10::dk d D10::slc T.a13 1 y2 ([(0:Int)].flatMap encI)::l):=hs.sub;refine zb (z01k (b:=b) (c:=c) (d:=d) 1 1 7 y2 [0] hI (by decide) (by decide) hs) λ_ w' hs=>?_;obtain ⟨e,X',M11,D11,rfl,hst,hs⟩:=hs;obtain ⟨rfl,rfl,hI,hR⟩:=hst.go hR s11.2;rw [s11.1];refine ⟨(20,()),rfl,trivial,zh ?_⟩;exact wp_lt (zg ⟨rfl,hs.sub⟩)
theorem z0gp (id:ByteArray) (pid epoch now:Int) (hs:Sat w l):Ret P F.a179 #[.string id,.int .i64 pid,.int .i64 epoch,.int .i64 now] w λvs w'=>vs=[.bool true]/\Sat w' l :=
 zs8 id pid epoch now <| by
  delta z085 AA AB AH AK AO Aa Ab Ac Ad Aj Ak Al Am Ax BZ Bc Be
  refine zj (λv w'=>∃ s:ByteArray,v=(s,())/\Sat w' l) ?_ ?_
  ·refine zi (λh=>?_) λh=>?_
   ·refine wp_must (by omega) ?_
    refine wp_lt ?_
    exact zg ⟨_,rfl,hs⟩
   ·exact zg ⟨_,rfl,hs⟩
  clear hs
  rintro _ w ⟨s,rfl,hs⟩
  refine zh ?_
  have n1:∀ {w:World} (s:ByteArray) (a b c:Int),Sat w l->Ret P F.a186 #[.pointer none,.string s,.int .i64 a,.int .i64 b,.int .i64 c] w λvs w'=>vs=[.int .i64 0,.int .i64 0,.int .i64 1]/\Sat w' l:=λs a b c hs =>
   zh8 none s a b c <| by
    delta zxt AA AB AC AD AE AP AR AS Aa Ab Ac Ad Ah Aj Al Am An Ao Ap Aq B2
    exact wp_lt (zw rfl ⟨rfl,rfl,hs⟩)
  have n2:∀ {w:World} (a b:Int) (cm:Bool) (c:Int),Sat w l->Ret P F.a185 #[.pointer none,.int .i64 a,.int .i64 b,.bool cm,.int .i64 c] w λvs w'=>vs=[.int .i64 0,.int .i64 1]/\Sat w' l:=λa b cm c hs =>
   zh7 none a b cm c <| by
    delta zxs AA AP AR Ab Ac Ad Al Am Ao Ap Aq
    exact wp_lt (zw rfl ⟨rfl,rfl,hs⟩)
  have n3:∀ {w:World} (a:Int),Sat w l->Ret P F.a191 #[.pointer none,.int .i64 a] w λvs w'=>vs=[.int .i64 0,.int .i64 1]/\Sat w' l:=λa hs =>
   zsd none a <| by
    delta z08a AA AC AD AE AO AP AR AS AU Aa Ab Ac Ad Ah Ak Al Am Ao Ap Aq Av Aw B2
    exact wp_lt (zw rfl ⟨rfl,rfl,hs⟩)
  refine zb (n1 s pid 1 now hs) λ_ w' hs=>?_
  obtain ⟨rfl,hs⟩:=hs
  refine ⟨(0,0,1,()),rfl,trivial,z90 _ _ _ ?_⟩
  refine wp_lt (wp_lt (wp_lt ?_))
  refine zb (n2 pid epoch true now hs) λ_ w' hs=>?_
  obtain ⟨rfl,hs⟩:=hs
  refine ⟨(0,1,()),rfl,trivial,z23 _ _ ?_⟩
  refine wp_lt (wp_lt ?_)
  refine zb (n3 now hs) λ_ w' hs=>?_
  obtain ⟨rfl,hs⟩:=hs
  refine ⟨(0,1,()),rfl,trivial,z23 _ _ ?_⟩
  refine wp_lt (wp_lt ?_)
  have n4:Ret P F.a189 #[.pointer none,.int .i64 pid] w' λvs w'=>vs=[.agg #[.string (ByteArray.mk #[]),.int .i64 0,.int .i64 0,.int .i64 0,.int .i64 0,.slice none 0 0,.int .i64 0,.int .i64 0,.int .i64 0],.bool false]/\Sat w' l :=
   zsb none pid <| by
    delta z088 AH AI AJ AK Aa Ab Ac Ad Ah Ao Ap Aq B2 BZ Ca
    refine zu hs λa w' hs=>?_
    refine z6o (⟨0,0,none⟩,()) (λh=>by cases h) ?_
    refine zh ?_
    refine z3k (none,()) (λh=>by cases h) ?_
    refine zh ?_
    refine z3k (none,()) (λh=>by cases h) ?_
    refine zh ?_
    refine zw rfl ?_
    refine zv hs λw' hs=>?_
    refine zl hs ?_
    exact ⟨rfl,rfl,hs.tail⟩
  refine zb n4 λ_ w' hs=>?_
  obtain ⟨rfl,hs⟩:=hs
  refine ⟨(ByteArray.mk #[],0,0,0,0,⟨none,0,0⟩,0,0,0,false,()),rfl,trivial,?_⟩
  change Prog.wp P (Prog.act (new T.a61) sA _) tt _ _
  refine zu hs λa w' hs=>?_
  refine zv hs λw' hs=>?_
  have hs:=hs.tail
  refine wp_lt ?_
  refine zj (λv w'=>v=(true,())/\Sat w' l) ?_ (by rintro _ w2 ⟨rfl,hs⟩;refine zh ?_;exact ⟨rfl,rfl,hs⟩)
  refine zw rfl ?_
  refine z9k hs (enc:=encI) [0] (λy2 w' hs=>?_)
  have hs:=hs.tail
  have n5:Ret P F.a183 #[.pointer none,.int .i64 pid,.int .i64 epoch,.int .i64 now,y2.v] w' λvs w'=>vs=[.int .i64 1]/\Sat w' l :=
   zh6 none pid epoch now y2 <| by
    delta zxr AA AB AC AD AE AN AO AP AR AS AZ Aa Ab Ac Ad Ah Ak Al Am An Ao Ap Aq Az B2 Bc
    exact wp_lt (zw rfl ⟨rfl,rfl,hs⟩)
  refine zb n5 λ_ w' hs=>?_
  obtain ⟨rfl,hs⟩:=hs
  refine zd ?_
  refine zw rfl ?_
  have n6:Ret P F.a187 #[.pointer none,.int .i64 pid,.int .i64 epoch,.int .i64 0,.int .i64 now] w' λvs w'=>vs=[.int .i64 1]/\Sat w' l :=
   zh9 none pid epoch 0 now <| by
    delta zxu AA AC AE AO AP AR Aa Ab Ac Ad Ak Al Am Ao Ap Aq Av Az B2 BQ Bb
    exact wp_lt (zw rfl ⟨rfl,rfl,hs⟩)
  refine zb n6 λ_ w' hs=>?_
  obtain ⟨rfl,hs⟩:=hs
  refine zd ?_
  refine zw rfl ?_
  have n7:Ret P F.a188 #[.pointer none] w' λvs w'=>vs=[.slice none 0 0]/\Sat w' l :=
   zha none <| by
    delta zxv AC AE AO AR Aa Ab Ac Ad Ak Al Ao Ap Aq Av Bc Bf Br
    exact zw rfl ⟨rfl,rfl,hs⟩
  refine zb n7 λ_ w' hs=>?_
  obtain ⟨rfl,hs⟩:=hs
  refine zd ?_
  refine zw rfl ?_
  have n8:Ret P F.a190 #[.pointer none] w' λvs w'=>vs=[.slice none 0 0]/\Sat w' l :=
   zsc none <| by
    delta z089 AO AR Aa Ab Ac Ad Ak Al Ao Ap Aq Av B2 BZ Bc Bf Br Ca
    exact zw rfl ⟨rfl,rfl,hs⟩
  refine zb n8 λ_ w' hs=>?_
  obtain ⟨rfl,hs⟩:=hs
  refine zd ?_
  refine zw rfl ?_
  have n9:Ret P F.a184 #[.pointer none,.int .i64 pid,.int .i64 epoch] w' λvs w'=>vs=[.bool false]/\Sat w' l :=
   zsa none pid epoch <| by
    delta z087 AA AB AD AI AJ AR Aa Ab Ac Ad Ah Aj Ao Ap Aq
    refine z6o (⟨0,0,none⟩,()) (λh=>by cases h) ?_
    refine zh ?_
    refine z3k (none,()) (λh=>by cases h) ?_
    refine zh ?_
    refine z3k (none,()) (λh=>by cases h) ?_
    refine zh ?_
    exact zw rfl ⟨rfl,rfl,hs⟩
  refine zb n9 λ_ w' hs=>?_
  obtain ⟨rfl,hs⟩:=hs
  refine zd ?_
  refine zw rfl ?_
  refine zb (z002 hs) λ_ w' hs=>?_
  obtain ⟨rfl,hs⟩:=hs
  refine zd ?_
  refine wp_lt ?_
  exact zg ⟨rfl,hs⟩
end
end Go.Dec
