/- What the claim of this folder leans on: our own texts, joined, without what it does not use. -/
import Derived.Test.YtogdpmpccmpekaaGreatQHold6
set_option linter.unusedVariables false
set_option linter.unusedSimpArgs false
namespace Go.Dec
set_option maxRecDepth 4000
def za3:ByteArray:=ByteArray.mk #[0,1,2,2,3,3,3,3,4,4,4,4,4,4,4,4,5,5,5,5,5,5,5,5,5,5,5,5,5,5,5,5,6,6,6,6,6,6,6,6,6,6,6,6,6,6,6,6,6,6,6,6,6,6,6,6,6,6,6,6,6,6,6,6,7,7,7,7,7,7,7,7,7,7,7,7,7,7,7,7,7,7,7,7,7,7,7,7,7,7,7,7,7,7,7,7,7,7,7,7,7,7,7,7,7,7,7,7,7,7,7,7,7,7,7,7,7,7,7,7,7,7,7,7,7,7,7,7,8,8,8,8,8,8,8,8,8,8,8,8,8,8,8,8,8,8,8,8,8,8,8,8,8,8,8,8,8,8,8,8,8,8,8,8,8,8,8,8,8,8,8,8,8,8,8,8,8,8,8,8,8,8,8,8,8,8,8,8,8,8,8,8,8,8,8,8,8,8,8,8,8,8,8,8,8,8,8,8,8,8,8,8,8,8,8,8,8,8,8,8,8,8,8,8,8,8,8,8,8,8,8,8,8,8,8,8,8,8,8,8,8,8,8,8,8,8,8,8,8,8,8,8,8,8,8,8]
theorem zsg:∀ i:Fin 256,∃ k:Nat,bt za3 (i.val:Int)=k/\k<=8/\(1<=i.val->2 ^ k<=2*i.val):=by
 have h:∀ i:Fin 256,0<=bt za3 (i.val:Int)/\(bt za3 (i.val:Int)).toNat<=8/\(1<=i.val->2 ^ (bt za3 (i.val:Int)).toNat<=2*i.val):=by decide
 intro i
 obtain ⟨h1,h2,h3⟩:=h i
 exact ⟨(bt za3 (i.val:Int)).toNat,by omega,h2,h3⟩
theorem z07z (x:Int):IntKind.wrap .u8 x=x % 256:=by simp [IntKind.wrap,IntKind.bits,IntKind.signed]
section
variable {w:World} {l:List HP}
structure LenS (n x s B:Nat):Prop where
 h1:x*2 ^ s<=n
 h2:1<=x
 h3:x<B
 h4:s<=64
theorem LenS.shift {n x s:Nat} (a b:Nat) (h:LenS n x s (2 ^ (a+b))) (hx:2 ^ a<=x) (hs:s+a<=64):LenS n (x / 2 ^ a) (s+a) (2 ^ b):=by
 obtain ⟨h1,h2,h3,h4⟩:=h
 have hp:0<2 ^ a:=Nat.two_pow_pos a
 refine ⟨?_,Nat.div_pos hx hp,?_,hs⟩
 ·rw [Nat.pow_add,<- Nat.mul_assoc,Nat.mul_right_comm]
  exact Nat.le_trans (Nat.mul_le_mul_right _ (Nat.div_mul_le_self x (2 ^ a))) h1
 ·rw [Nat.div_lt_iff_lt_mul hp,Nat.mul_comm,<- Nat.pow_add];exact h3
theorem z04l (n:Nat) (h0:1<=n) (h1:n<18446744073709551616) (hs:Sat w l):Ret P F.a66 #[.int .u64 n] w λvs w'=>(∃ k:Nat,vs=[.int .i64 k]/\k<=64/\2 ^ k<=2*n)/\Sat w' l :=
 zhm n <| by
  delta z00v Ac Ad Ah Ai Ak Ao B9
  refine zl (λv w'=>(∃ x s:Nat,v=((x:Int),(s:Int),())/\LenS n x s (2 ^ 32)/\s<=32)/\Sat w' l) ?_ ?_
  ·refine zdu (λhc=>?_) λhc=>?_
   ·have hc:(n:Int)>=4294967296:=of_decide_eq_true hc
    refine z86 (y:=((n / 2 ^ 32:Nat):Int)) (by rw [Int.fdiv_eq_ediv_of_nonneg _ (by omega)];omega) ?_
    exact z4z ⟨(((n / 2 ^ 32:Nat):Int),((32:Nat):Int),()),rfl,⟨_,32,rfl,by have:=LenS.shift (n:=n) (x:=n) (s:=0) 32 32 ⟨by omega,h0,by omega,by omega⟩ (by omega) (by omega);simpa using this,by omega⟩,hs⟩
   ·have hc:¬ (n:Int)>=4294967296:=of_decide_eq_false hc
    exact z4z ⟨((n:Int),((0:Nat):Int),()),rfl,⟨n,0,rfl,⟨by omega,h0,by omega,by omega⟩,by omega⟩,hs⟩
  rintro _ w ⟨⟨x,s,rfl,hx,hs1⟩,hs⟩
  refine zl (λv w'=>(∃ x s:Nat,v=((x:Int),(s:Int),())/\LenS n x s (2 ^ 16)/\s<=48)/\Sat w' l) ?_ ?_
  ·refine zdu (λhc=>?_) λhc=>?_
   ·have hc:(x:Int)>=65536:=of_decide_eq_true hc
    refine z86 (y:=((x / 2 ^ 16:Nat):Int)) (by dsimp only;rw [Int.fdiv_eq_ediv_of_nonneg _ (by omega)];omega) ?_
    refine z86 (y:=((s+16:Nat):Int)) (by dsimp only;rw [w64 (by omega) (by omega)];omega) ?_
    exact z4z ⟨(((x / 2 ^ 16:Nat):Int),((s+16:Nat):Int),()),rfl,⟨_,_,rfl,LenS.shift 16 16 hx (by omega) (by omega),by omega⟩,hs⟩
   ·have hc:¬ (x:Int)>=65536:=of_decide_eq_false hc
    exact z4z ⟨((x:Int),(s:Int),()),rfl,⟨x,s,rfl,⟨hx.h1,hx.h2,by omega,hx.h4⟩,by omega⟩,hs⟩
  clear hs hx hs1
  rintro _ w ⟨⟨x,s,rfl,hx,hs1⟩,hs⟩
  refine zl (λv w'=>(∃ x s:Nat,v=((x:Int),(s:Int),())/\LenS n x s (2 ^ 8)/\s<=56)/\Sat w' l) ?_ ?_
  ·refine zdu (λhc=>?_) λhc=>?_
   ·have hc:(x:Int)>=256:=of_decide_eq_true hc
    refine z86 (y:=((x / 2 ^ 8:Nat):Int)) (by dsimp only;rw [Int.fdiv_eq_ediv_of_nonneg _ (by omega)];omega) ?_
    refine z86 (y:=((s+8:Nat):Int)) (by dsimp only;rw [w64 (by omega) (by omega)];omega) ?_
    exact z4z ⟨(((x / 2 ^ 8:Nat):Int),((s+8:Nat):Int),()),rfl,⟨_,_,rfl,LenS.shift 8 8 hx (by omega) (by omega),by omega⟩,hs⟩
   ·have hc:¬ (x:Int)>=256:=of_decide_eq_false hc
    exact z4z ⟨((x:Int),(s:Int),()),rfl,⟨x,s,rfl,⟨hx.h1,hx.h2,by omega,hx.h4⟩,by omega⟩,hs⟩
  clear hs hx hs1
  rintro _ w ⟨⟨x,s,rfl,hx,hs1⟩,hs⟩
  have hx3:=hx.h3
  have e:IntKind.wrap .u8 (x:Int)=x:=by rw [z07z];omega
  have e':IntKind.wrap .u8 ((x:Int),(s:Int),()).1=x:=e
  obtain ⟨k,hk1,hk2,hk3⟩:=zsg ⟨x,by omega⟩
  refine wp_must (by rw [e'];omega) ?_
  refine z86 (y:=((s+k:Nat):Int)) ?_ ?_
  ·show IntKind.wrap .i64 ((s:Int)+IntKind.wrap .i64 (bt za3 (IntKind.wrap .u8 (x:Int))))=_
   rw [e,hk1,w64 (x:=(k:Int)) (by omega) (by omega),w64 (by omega) (by omega)];omega
  ·refine ⟨rfl,⟨s+k,rfl,by omega,?_⟩,hs⟩
   have h5:=hk3 hx.h2
   have h6:=hx.h1
   rw [Nat.pow_add]
   calc 2 ^ s*2 ^ k<=2 ^ s*(2*x):=Nat.mul_le_mul_left _ h5
    _=2*(x*2 ^ s):=by rw [Nat.mul_comm (2 ^ s),Nat.mul_assoc]
    _<=2*n:=by omega
theorem z0ab (n:Nat) (h0:1<=n) (h1:n<18446744073709551616) (hs:Sat w l):Ret P F.a65 #[.int .u64 n] w λvs w'=>(∃ k:Nat,vs=[.int .i64 k]/\k<=64/\2 ^ k<=2*n)/\Sat w' l :=
 zhl n <| by
  delta z00u AC Ad Ai Ak
  refine zb (z04l n h0 h1 hs) λvs w' ⟨⟨k,hv,h2,h3⟩,hs⟩=>?_
  subst hv
  exact ⟨((k:Int),()),rfl,trivial,rfl,⟨k,rfl,h2,h3⟩,hs⟩
theorem z06s (hs:Sat w l):Ret P F.a65 #[.int .u64 0] w λvs w'=>vs=[.int .i64 0]/\Sat w' l :=
 zhl 0 <| by
  delta z00u AC Ad Ai Ak
  refine wp_callS (0,()) (vs₀:=[.int .i64 0]) (R:=λw'=>Sat w' l) ?_ rfl λw' hs=>⟨trivial,rfl,rfl,hs⟩
  refine zhm 0 ?_
  delta z00v Ac Ad Ah Ai Ak Ao B9
  refine zl (λv w'=>v=(0,0,())/\Sat w' l) (z1r rfl (z4z ⟨(0,0,()),rfl,rfl,hs⟩)) ?_
  rintro _ w ⟨rfl,hs⟩
  refine zl (λv w'=>v=(0,0,())/\Sat w' l) (z1r rfl (z4z ⟨(0,0,()),rfl,rfl,hs⟩)) ?_
  clear hs
  rintro _ w ⟨rfl,hs⟩
  refine zl (λv w'=>v=(0,0,())/\Sat w' l) (z1r rfl (z4z ⟨(0,0,()),rfl,rfl,hs⟩)) ?_
  clear hs
  rintro _ w ⟨rfl,hs⟩
  refine wp_must (by decide) (z86 (y:=0) ?_ ⟨rfl,rfl,hs⟩)
  show IntKind.wrap .i64 (0+IntKind.wrap .i64 (bt za3 (IntKind.wrap .u8 0)))=0
  decide
end
section
variable {w:World} {l r:List HP} {v:Nat} {A:ViewA}
theorem z05g (f:Value) (z:Sl) (ys:List TxnA) (h1:ys.length<=1) (hs:Sat w (slc T.a15 4 z (ys.flatMap z1b)::l)) :
  Ret P F.a147 #[z.v,f] w λvs w'=>vs=[]/\Sat w' (slc T.a15 4 z (ys.flatMap z1b)::l) :=
 zov z f <| by
  delta z02n AC Ad Ag Ai Ak Am
  have hl:=hs.slen z (xs:=ys) (enc:=z1b)
  refine wp_lt ?_
  have hlen:Ret P F.a65 #[.int .u64 (IntKind.wrap .u64 ((z.len:Nat):Int))] w λvs w'=>(∃ k:Int,vs=[.int .i64 k])/\Sat w' (slc T.a15 4 z (ys.flatMap z1b)::l):=by
   rw [zin (by omega) (by omega)]
   by_cases h0:z.len=0
   ·rw [h0]
    exact Ret.mono (z06s hs) λvs w' h=>⟨⟨0,h.1⟩,h.2⟩
   ·exact Ret.mono (z0ab z.len (by omega) (by omega) hs) λvs w' h=>⟨by obtain ⟨⟨k,h1,-⟩,-⟩:=h;exact ⟨k,h1⟩,h.2⟩
  refine zb hlen λ_ w' hs=>?_
  obtain ⟨⟨k,rfl⟩,hs⟩:=hs
  refine zd ?_
  refine zb (R:=λvs w'=>vs=[]/\Sat w' (slc T.a15 4 z (ys.flatMap z1b)::l)) ?_ λ_ w' hs=>?_
  ·refine zox z _ _ _ _ ?_
   delta z02p AA AC AK Ac Ad Ae Ag Ai Aj Ak Am Ao Av Aw Ay B8 BA BB Bg
   refine z03 (λm q w=>q=(0,((z.len:Nat):Int),k,true,true,())/\Sat w (slc T.a15 4 z (ys.flatMap z1b)::l)) 0 ⟨rfl,hs⟩ ?_
   clear hs
   rintro m _ w ⟨rfl,hs⟩
   refine z2q _ _ _ _ _ ?_
   refine z4m ?_
   rw [w64 (by omega) (by omega)]
   refine wp_lt ?_
   refine z0p ?_ (by omega)
   refine zb (R:=λvs w'=>vs=[]/\Sat w' (slc T.a15 4 z (ys.flatMap z1b)::l)) ?_ λ_ w' hs=>?_
   ·refine zow z _ _ _ ?_
    delta z02o AK AR Ac Ad Ae Ag Ai Aj Ak An Ao Av BA BB BC
    rw [w64 (by omega) (by omega)]
    refine wp_lt ?_
    refine zl (λq w'=>Sat w' (slc T.a15 4 z (ys.flatMap z1b)::l)) ?_ ?_
    ·refine z03 (λm q w=>q=(0+1,())/\Sat w (slc T.a15 4 z (ys.flatMap z1b)::l)) 0 ⟨rfl,hs⟩ ?_
     clear hs
     rintro m _ w ⟨rfl,hs⟩
     refine zk ?_
     refine zu ?_ (by omega)
     exact zo (zf hs)
    clear hs
    rintro _ w hs
    refine zk ?_
    exact ⟨rfl,rfl,hs⟩
   obtain ⟨rfl,hs⟩:=hs
   refine zd ?_
   refine zo (zo ?_)
   exact ⟨rfl,rfl,hs⟩
  obtain ⟨rfl,hs⟩:=hs
  refine zd ?_
  exact ⟨rfl,rfl,hs⟩
theorem zyx [hf:Fo l vw v A r] (h1:A.op.length<=1) (hs:Sat w l):Ret P F.a57 #[.pointer (some ⟨v,0,none⟩)] w λvs w'=>∃ z:Sl,vs=[z.v]/\Sat w' (slc T.a15 4 z (A.op.flatMap z1b)::vw v A::r) :=
 zhk _ <| by
  delta zuk A8 AI AJ AN Aa Ac Ad Am Ap B2 BB BO BR
  obtain ⟨m1,m2,hok,hs⟩:=z8r (hs.perm hf.perm)
  have hmany:=hok.many
  refine zu ?_ (by simp)
  refine zj ?_
  refine z8 hs ?_
  refine zdv hs λit w' hs=>?_
  refine zl (λx w'=>∃ (z:Sl) (ys:List TxnA),x=(z,())/\ys.Perm A.op/\Sat w' (slc T.a15 4 z (ys.flatMap z1b)::vw v A::r)) ?_ ?_
  ·refine z03 (λk x w=>∃ (z:Sl) (ys:List TxnA) (todo:List (Int × TxnA)) (last:Option (Int × TxnA)),x=(z,())/\todo.length=k/\(ys++todo.map Prod.snd).Perm A.op /\
    Sat w (slc T.a15 4 z (ys.flatMap z1b)::itP ekI evX it m1 (opK A) todo last::pt v (.cells #[.int .i64 A.next,.map (some m1),.map (some m2)] T.a16)::z1e ekK evX m2 (faK A)::r)) (opK A).length
    ⟨⟨none,0,0⟩,[],opK A,none,rfl,rfl,by rw [List.nil_append,opK,List.map_map];exact .of_eq (List.map_id _),hs.slc_nil⟩ ?_
   clear hs
   rintro k _ w ⟨z,ys,todo,last,rfl,hk,hperm,hs⟩
   have hlen:=hperm.length_eq
   rw [List.length_append,List.length_map] at hlen
   refine zk ?_
   refine zg5 hs (λk t=>(k,t.pid,t.epoch,t.first,t.last,())) (λkk t todo' w' hp hs=>?_) λh0=>?_
   ·refine z2q kk t.pid t.epoch t.first t.last ?_
    refine zil hs (kk,t.pid,t.epoch,t.first,t.last,()) ?_
    refine z2q kk t.pid t.epoch t.first t.last ?_
    refine zn hs λc w' hs=>?_
    refine zm hs λw' hs=>?_
    refine zg hs ?_
    refine zb (zrg t hs) λ_ _ hs=>?_
    obtain ⟨rfl,hs⟩:=hs
    refine zd ?_
    refine z3w hs (xs:=ys) (enc:=z1b) t (λz w' hs=>?_)
    refine z0l todo'.length ?_ (by rw [<- hk,hp.length_eq,List.length_cons];omega)
    refine ⟨z,ys++[t],todo',some (kk,t),rfl,rfl,?_,hs.sub⟩
    rw [List.append_assoc,List.singleton_append]
    exact ((List.Perm.append_left ys (hp.map Prod.snd)).symm).trans hperm
   ·refine zo (zf ⟨z,ys,rfl,?_,?_⟩)
    ·subst h0
     rw [List.map_nil,List.append_nil] at hperm
     exact hperm
    ·have hs:=(hs.pick [1]).itDone
     have hs:Sat w (vw v A::slc T.a15 4 z (ys.flatMap z1b)::r):=z4c m1 m2 hok hs
     exact hs.pick [1]
  clear hs
  rintro _ w ⟨z,ys,rfl,hperm,hs⟩
  refine zk ?_
  have hy:ys=A.op:=by
   have hlen:=hperm.length_eq
   cases hop:A.op with
   | nil=>rw [hop] at hperm;exact hperm.eq_nil
   | cons t ts =>
    rw [hop] at hperm h1
    have:ts=[]:=by simpa using h1
    subst this
    exact List.perm_singleton.1 hperm
  rw [hy] at hs
  refine zb (z05g _ z A.op h1 hs) λ_ w' h=>?_
  obtain ⟨rfl,hs⟩:=h
  refine zd ?_
  exact ⟨rfl,z,rfl,hs⟩
end
section
variable {w:World} {l r:List HP} {p:Nat} {A:PartA}
theorem zsu [hf:Fo l paP p A r] (h1:A.V.op.length<=1) (hlen:A.L.l.length<=1000000000) (hs:Sat w l):Ret P F.a87 #[.pointer (some ⟨p,0,none⟩)] w λvs w'=>vs=[.int .i64 (z3a A)]/\Sat w' (paP p A::r) :=
 zho _ <| by
  delta z00x AC AH Aa Ac Ad Ag Ai Ak Al Aq;unfold z3a
  obtain ⟨lg,t,v,hs⟩:=z4k (hs.perm hf.perm)
  refine zu ?_ (by simp)
  refine zj ?_
  refine z8 hs ?_
  refine zb (zyx (v:=v) (A:=A.V) h1 hs) λ_ w' hs=>?_
  obtain ⟨z,rfl,hs⟩:=hs
  refine zd ?_
  have hz:=hs.slen z (xs:=A.V.op) (enc:=z1b)
  refine zh (λh=>?_) λh=>?_
  ·have h0:A.V.op.length=0:=by simpa [hz] using h
   rw [if_pos h0]
   have hs:Sat w' (paP p A::r):=z2b A hs
   refine zb (zia (p:=p) (A:=A) hlen hs) λ_ w' hs=>?_
   obtain ⟨rfl,hs⟩:=hs
   refine zd ?_
   refine wp_lt ?_
   exact ⟨rfl,rfl,hs⟩
  ·have h0:¬ A.V.op.length=0:=by simpa [hz] using h
   rw [if_neg h0]
   refine zj ?_
   refine z8 hs ?_
   refine zb (zdf (v:=v) (A:=A.V) hs) λ_ w' hs=>?_
   obtain ⟨rfl,hs⟩:=hs
   refine zd ?_
   have hs:Sat w' (paP p A::r):=z2b A hs
   refine zb (zfw (p:=p) (A:=A) hs) λ_ w' hs=>?_
   obtain ⟨rfl,hs⟩:=hs
   refine zd ?_
   refine wp_lt ?_
   refine ⟨rfl,?_,hs⟩
   have e:(if z0t A.L.l>z2m A.V then z0t A.L.l else z2m A.V)=max (z2m A.V) (z0t A.L.l):=by split <;> omega
   rw [e]
theorem zmx {A:PartA} (h1:A.V.op.length<=1):z9w A:=λ{w l r p} hf hlen hs=>@zsu w l r p A hf h1 hlen hs
end
theorem gdk {w:World} {d e:Nat} {D:DiskA} {X:HP} {l:List HP} (h:d=e) (hs:Sat w (X::dk d D::l)):Sat w (X::dk e D::l):=by rw [<- h];exact hs
theorem zrc:∀ (bs:List BatM) (A:PartA),(bs.foldl z57 A).L=A.L
 | [],A=>rfl
 | b::bs,A=>by rw [List.foldl_cons,zrc bs];rfl
theorem z04s (L:LogA) (most:Int):(z41 L most).L=L:=by unfold z41;rw [zrc];rfl
section
variable {w:World} {l r r1 r2 r3 l':List HP} {b d t p:Nat} {M:LedA} {D:DiskA}
def s13 (seg:Int):Int:=64+(if Int.tmod seg 200<0 then 0-Int.tmod seg 200 else Int.tmod seg 200)
theorem z07c (seg:Int):64<=s13 seg/\s13 seg<=263:=by
 have h1:=Int.lt_tmod_of_pos seg (b:=200) (by omega)
 have h2:=Int.tmod_lt_of_pos seg (b:=200) (by omega)
 unfold s13
 split <;> omega
end
def gP:ByteArray:=ByteArray.mk #[120]
def gM (d:Nat):LedA:=(z41 ⟨d,gP,64,30,[]⟩ 2,⟨0,[]⟩)
def gD:DiskA:=⟨65536,-1,false,[]⟩
abbrev gA:ByteArray:=ByteArray.mk #[97]
abbrev gB:ByteArray:=ByteArray.mk #[98]
theorem g1 (d:Nat) (x:Sl):(z7z (gM d) gD (z4f 0 x [z5u gA (ByteArray.mk #[49]) 0])).1=0/\zbv (gM d).2 (z2d ((z4f 0 x [z5u gA (ByteArray.mk #[49]) 0]).to (z09 (gM d).1 gD (z4f 0 x [z5u gA (ByteArray.mk #[49]) 0])).1.1))=true:=⟨by kernel_rfl,by kernel_rfl⟩
section
variable {d:Nat} {x1 x2 x3 x4:Sl} {S U V W:LedA × DiskA}
theorem g2 (x:Sl) (h:S=(z7z (gM d) gD (z4f 0 x1 [z5u gA (ByteArray.mk #[49]) 0])).2):(z7z S.1 S.2 (z4f 0 x [z5u gA (ByteArray.mk #[50]) 0])).1=0/\zbv S.1.2 (z2d ((z4f 0 x [z5u gA (ByteArray.mk #[50]) 0]).to (z09 S.1.1 S.2 (z4f 0 x [z5u gA (ByteArray.mk #[50]) 0])).1.1))=true/\S.1.2.l.length=1:=by subst h;exact ⟨by kernel_rfl,by kernel_rfl,by kernel_rfl⟩
theorem g3 (x:Sl) (h:S=(z7z (gM d) gD (z4f 0 x1 [z5u gA (ByteArray.mk #[49]) 0])).2) (h2:U=(z7z S.1 S.2 (z4f 0 x2 [z5u gA (ByteArray.mk #[50]) 0])).2):(z7z U.1 U.2 (z4f 0 x [z5u gB (ByteArray.mk #[120]) 0])).1=0/\zbv U.1.2 (z2d ((z4f 0 x [z5u gB (ByteArray.mk #[120]) 0]).to (z09 U.1.1 U.2 (z4f 0 x [z5u gB (ByteArray.mk #[120]) 0])).1.1))=true/\U.1.2.l.length=1:=by subst h h2;exact ⟨by kernel_rfl,by kernel_rfl,by kernel_rfl⟩
theorem g4 (x:Sl) (h:S=(z7z (gM d) gD (z4f 0 x1 [z5u gA (ByteArray.mk #[49]) 0])).2) (h2:U=(z7z S.1 S.2 (z4f 0 x2 [z5u gA (ByteArray.mk #[50]) 0])).2) (h3:V=(z7z U.1 U.2 (z4f 0 x3 [z5u gB (ByteArray.mk #[120]) 0])).2) :
  (z0u V.1.2.l gB).isSome=true/\(z7z V.1 V.2 (z4f 1 x [zkh gB 1])).1=0/\zbv V.1.2 (z2d ((z4f 1 x [zkh gB 1]).to (z09 V.1.1 V.2 (z4f 1 x [zkh gB 1])).1.1))=true/\V.1.2.l.length=2:=by subst h h2 h3;exact ⟨by kernel_rfl,by kernel_rfl,by kernel_rfl,by kernel_rfl⟩
theorem g5 (h:S=(z7z (gM d) gD (z4f 0 x1 [z5u gA (ByteArray.mk #[49]) 0])).2) (h2:U=(z7z S.1 S.2 (z4f 0 x2 [z5u gA (ByteArray.mk #[50]) 0])).2) (h3:V=(z7z U.1 U.2 (z4f 0 x3 [z5u gB (ByteArray.mk #[120]) 0])).2) (h4:W=(z7z V.1 V.2 (z4f 1 x4 [zkh gB 1])).2) :
  (orC (z0u W.1.2.l gA)).r.value=ByteArray.mk #[50]/\(z0u W.1.2.l gA).isSome=true/\z0u W.1.2.l gB=none/\W.1.2.l.length=1/\z07h W.1=3:=by subst h h2 h3 h4;exact ⟨by kernel_rfl,by kernel_rfl,by kernel_rfl,by kernel_rfl,by kernel_rfl⟩
end
instance (r:RecM) (c:ComM):Decidable (z3r r c):=by unfold z3r;infer_instance
def zkf (r:RecM):ComM:=⟨z54 (r.key.extract 1 r.key.size).data.toList,(zx (some r.value.data.toList)).1,(zx (zx (some r.value.data.toList)).2).1,(zx (zx (zx (some r.value.data.toList)).2).2).1⟩
def z6y (r:RecM):Option ComM:=if z3r r (zkf r) then some (zkf r) else none
theorem zca {r:RecM} {c:ComM}:z6y r=some c↔z3r r c:=by
 unfold z6y
 constructor
 ·intro h
  split at h
  ·rename_i h1
   rw [<- Option.some.inj h];exact h1
  ·cases h
 ·intro h
  have e:zkf r=c:=by
   obtain ⟨h1,h2,h3⟩:=z91 h
   obtain ⟨q1,q2,q3,-⟩:=zdt h.1
   obtain ⟨q0,q5,q6,q7⟩:=h.1
   unfold zkf
   rw [h2,h3,zjm q0,q1,q2,q3]
   obtain ⟨a,b,d,e⟩:=c
   simp only at q5 q6 q7
   congr 1 <;> simp only <;> omega
  rw [e,if_pos h]
theorem zas {r:RecM} {c:ComM} {e:Int} (h:zrq r c e):(e=0/\z6y r=some c)\/(e=6/\c=com0/\z6y r=none):=by
 rcases h with ⟨h1,h2⟩|⟨h1,h2,h3⟩
 ·exact .inl ⟨h1,zca.2 h2⟩
 ·refine .inr ⟨h1,h2,?_⟩
  cases hp:z6y r with
  | none=>rfl
  | some c'=>exact absurd (zca.1 hp) (h3 c')
structure OffA where
 A:PartA
 at_:Int
 C:TbC
def ofP (b:Nat) (M:OffA):HP:=HP.ex λq:Nat × Nat=>HP.star (pt b (.cells #[.pointer (some ⟨q.2,0,none⟩),.int .i64 M.at_,.pointer (some ⟨q.1,0,none⟩)] T.a24)) (HP.star (tbC q.1 M.C) (paP q.2 M.A))
def z28 (C:TbC) (a:AtM):TbC:=if (z6y a.r).isSome=true then (z72 C [a]).2 else C
def zgi {β:Type} (ok:β->AtM->Bool) (st:β->AtM->β):β->List AtM->Bool
 | _,[]=>true
 | C,a::xs=>ok C a && zgi ok st (st C a) xs
theorem zlj {β:Type} (ok:β->AtM->Bool) (st:β->AtM->β):∀ (xs:List AtM) (C:β) (i:Nat) (h:i<xs.length),zgi ok st C xs=true->ok ((xs.take i).foldl st C) xs[i]=true
 | x::xs,C,0,_,h=>by
  have h:(ok C x && zgi ok st (st C x) xs)=true:=h
  rw [Bool.and_eq_true] at h
  exact h.1
 | x::xs,C,i+1,hi,h=>by
  have h:(ok C x && zgi ok st (st C x) xs)=true:=h
  rw [Bool.and_eq_true] at h
  exact zlj ok st xs (st C x) i (by simpa using hi) h.2
def okK (C:TbC) (a:AtM):Bool:=(z6y a.r).isNone || zlh C a
abbrev endsK:TbC->List AtM->Bool:=zgi okK z28
def z56 (M:OffA):OffA:=if (z17 M.A M.at_ 1099511627776 true).2≠0 then M else ⟨M.A,(z17 M.A M.at_ 1099511627776 true).1.2,(z17 M.A M.at_ 1099511627776 true).1.1.foldl z28 M.C⟩
theorem zvp (C:TbC) (xs:List AtM):(z72 C xs).2.l.length<=C.l.length+xs.length:=by
 unfold z72
 split
 ·exact Nat.le_add_right _ _
 ·exact zg1 xs C
theorem zvn (C:TbC) (a:AtM):(z28 C a).l.length<=C.l.length+1:=by
 unfold z28
 split
 ·exact zvp C [a]
 ·exact Nat.le_succ _
theorem zbr:∀ (xs:List AtM) (C:TbC),(xs.foldl z28 C).l.length<=C.l.length+xs.length
 | [],C=>Nat.le_refl _
 | x::xs,C=>by
  have h1:=zbr xs (z28 C x)
  have h2:=zvn C x
  rw [List.foldl_cons,List.length_cons];omega
theorem zmg {A:PartA} {c:Bool} {a:AtM}:∀ (bs:List BatM) (n:Int),a ∈ (z2j A c n bs).1->∃ b ∈ bs,a ∈ z2d b
 | [],n,h=>by cases h
 | b::bs,n,h=>by
  by_cases hs:c=true/\b.base>=z3a A
  ·rw [z96 hs] at h;cases h
  rw [zbi hs] at h
  rcases List.mem_append.1 h with h|h
  ·split at h
   ·exact ⟨b,List.mem_cons_self ..,h⟩
   ·cases h
  ·obtain ⟨d,h1,h2⟩:=zmg bs _ h
   exact ⟨d,List.mem_cons_of_mem _ h1,h2⟩
theorem zlp {b:BatM} {a:AtM} (h:a ∈ z2d b):a.r ∈ b.rs:=by
 unfold z2d at h
 split at h
 ·cases h
 ·obtain ⟨i,hi,rfl⟩:=List.mem_mapIdx.1 h
  exact List.getElem_mem hi
theorem zx6 {l:List SegA} {off most:Int} {b:BatM} (hok:z0s 0 l) (h:b ∈ (z3h l off most).2):∀ r ∈ b.rs,z26 r=0:=by
 unfold z3h at h
 split at h
 ·cases h
 split at h
 ·cases h
 ·obtain ⟨c,hc,hf⟩:=List.mem_filterMap.1 (List.mem_of_mem_take h)
  have hv:=((z7i (Int.le_refl 0) hok).valid c hc).1
  have hr:=(z1q hv).2
  unfold z0k at hf
  split at hf
  ·cases hf
  split at hf
  ·cases hf;exact hr
  ·cases hf
   exact λr h=>hr r (List.mem_of_mem_drop h)
theorem zzw {A:PartA} {off most:Int} {c:Bool} (hok:z0s 0 A.L.l) {a:AtM} (h:a ∈ (z17 A off most c).1.1) : -9223372036854775808<=a.off/\z26 a.r=0:=by
 unfold z17 at h
 split at h
 ·cases h
 ·obtain ⟨b,h1,h2⟩:=zmg _ _ h
  exact ⟨zyn a h2,zx6 hok h1 _ (zlp h2)⟩
section
variable {w:World} {l r r1 r2 r3 l':List HP} {b d t p:Nat} {M:OffA} {D:DiskA}
theorem z8j (hs:Sat w (ofP b M::l)):∃ t p:Nat,Sat w (pt b (.cells #[.pointer (some ⟨p,0,none⟩),.int .i64 M.at_,.pointer (some ⟨t,0,none⟩)] T.a24)::tbC t M.C::paP p M.A::l):=by
 obtain ⟨⟨t,p⟩,hs⟩:=hs.ex
 have hs:=hs.star
 have hs:=(hs.pick [1]).star
 exact ⟨t,p,hs.pick [2]⟩
theorem zki (t p:Nat) (hs:Sat w (pt b (.cells #[.pointer (some ⟨p,0,none⟩),.int .i64 M.at_,.pointer (some ⟨t,0,none⟩)] T.a24)::tbC t M.C::paP p M.A::l)):Sat w (ofP b M::l):=by
 have h1:=(hs.pick [1,1]).star_mk
 exact .ex_mk (t,p) ((h1.pick [1]).star_mk)
theorem z8i (M:OffA) (hs:Sat w l) [h1:FocB l b (.cells [.pointer (some ⟨p,0,none⟩),.int .i64 M.at_,.pointer (some ⟨t,0,none⟩)].toArray T.a24) r1] [h2:Fo r1 tbC t M.C r2] [h3:Fo r2 paP p M.A r3] [h4:Sub r3 l']:Sat w (ofP b M::l'):=by
 have hs:=hs.perm (h1.perm.trans (.cons _ (h2.perm.trans (.cons _ h3.perm))))
 have hs:Sat w (ofP b M::r3):=zki t p hs
 exact hs.sub
set_option maxHeartbeats 1000000 in
theorem zqv {r1:List HP} [hf:Fo l ofP b M r1] [hf2:Fo r1 dk M.A.L.d D r] (h:Cpl M.A.L.pre M.A.L.l D) (hat : -9223372036854775808<=M.at_/\M.at_<9223372036854775808)
  (hend:endsK M.C (z17 M.A M.at_ 1099511627776 true).1.1=true) (hlen:M.C.l.length+(z17 M.A M.at_ 1099511627776 true).1.1.length<=1000000) (hst:z9w M.A) (hs:Sat w l) :
  Ret P F.a74 #[.pointer (some ⟨b,0,none⟩)] w λvs w'=>vs=[]/\Sat w' (ofP b (z56 M)::dk M.A.L.d D::r) :=
 zux _ <| by
  delta z09f AC AH AI AJ AK AR AY AZ Aa Ab Ac Ad Ae Ag Ai Aj Ak Al An Ao Ap BB BE BF BG BV Bk;unfold z56
  have hs:=hs.perm (hf.perm.trans (.cons _ hf2.perm))
  clear hf hf2
  obtain ⟨t,p,hs⟩:=z8j hs
  refine zv hs λw' hs=>?_
  refine zj ?_
  refine z8 hs ?_
  refine zj ?_
  refine z8 hs ?_
  have hs:Sat w' (paP p M.A::dk M.A.L.d D::pt b (.cells #[.pointer (some ⟨p,0,none⟩),.int .i64 M.at_,.pointer (some ⟨t,0,none⟩)] T.a24)::tbC t M.C::r):=hs.sub
  refine zb (zzv (p:=p) (A:=M.A) (D:=D) hst M.at_ 1099511627776 true hat (by omega) h hs) λ_ w' hs=>?_
  obtain ⟨z,rfl,hs⟩:=hs
  have hpo:∀ a ∈ (z17 M.A M.at_ 1099511627776 true).1.1,-9223372036854775808<=a.off/\z26 a.r=0:=λa ha=>zzw h.segs ha
  generalize z17 M.A M.at_ 1099511627776 true=q at hs hend hlen hpo ⊢
  obtain ⟨⟨xs,n⟩,e⟩:=q
  simp only at hs hend hlen hpo ⊢
  refine ⟨(z,n,e,()),rfl,trivial,zea _ _ _ ?_⟩
  refine wp_lt ?_
  refine wp_lt ?_
  refine ze ?_
  refine zh (λhe=>?_) λhe=>?_
  ·rw [if_pos (by simpa using he)]
   exact ⟨rfl,rfl,z8i (t:=t) (p:=p) M hs⟩
  rw [if_neg (by simpa using he)]
  have hzl:=hs.slen z (xs:=xs) (enc:=zr)
  have hs:Sat w' (slc T.a37 5 z (xs.flatMap zr)::pt b (.cells #[.pointer (some ⟨p,0,none⟩),.int .i64 M.at_,.pointer (some ⟨t,0,none⟩)] T.a24)::tbC t M.C::paP p M.A::dk M.A.L.d D::r):=hs.sub
  refine zl (λq w'=>Sat w' (pt b (.cells #[.pointer (some ⟨p,0,none⟩),.int .i64 M.at_,.pointer (some ⟨t,0,none⟩)] T.a24)::tbC t (xs.foldl z28 M.C)::paP p M.A::dk M.A.L.d D::r)) ?_ ?_
  rotate_left
  ·rintro _ w2 hs
   refine zk ?_
   refine zj ?_
   refine z02 hs λw' hs=>?_
   exact ⟨rfl,rfl,z8i (t:=t) (p:=p) ⟨M.A,n,xs.foldl z28 M.C⟩ hs⟩
  refine z03 (λm q w=>∃ i:Nat,q=((i:Int),())/\i<=xs.length/\xs.length-i=m/\Sat w (slc T.a37 5 z (xs.flatMap zr)::pt b (.cells #[.pointer (some ⟨p,0,none⟩),.int .i64 M.at_,.pointer (some ⟨t,0,none⟩)] T.a24)::tbC t ((xs.take i).foldl z28 M.C)::paP p M.A::dk M.A.L.d D::r)) xs.length
   ⟨0,rfl,by omega,rfl,hs⟩ ?_
  clear hs
  rintro m _ w ⟨i,rfl,hi,hm,hs⟩
  refine zk ?_
  refine zh (λhc=>?_) λhc=>?_
  rotate_left
  ·rw [List.take_of_length_le (by omega)] at hs
   exact zo (zf hs.sub)
  have hil:i<xs.length:=by omega
  have htk:(xs.take (i+1)).foldl z28 M.C=z28 ((xs.take i).foldl z28 M.C) xs[i]:=by rw [List.take_add_one,List.getElem?_eq_getElem hil,Option.toList_some,List.foldl_append,List.foldl_cons,List.foldl_nil]
  have hal:=zbr (xs.take i) M.C
  rw [List.length_take] at hal
  have hea:okK ((xs.take i).foldl z28 M.C) xs[i]=true:=zlj okK z28 xs M.C i hil hend
  have hpa:=hpo _ (List.getElem_mem hil)
  generalize (xs.take i).foldl z28 M.C=C at *
  refine z1s hs i hil ?_
  generalize xs[i]=a at *
  refine zn hs λa19 w' hs=>?_
  refine zm hs λw' hs=>?_
  refine zae hs (a.r.key,a.r.value,a.r.gone,a.r.time,()) ?_
  refine zb (ze2 a.r (by have:=(z3j hpa.2).2.1;omega) hs) λ_ w' hs=>?_
  obtain ⟨c,e',rfl,hp,hs⟩:=hs
  refine ⟨(c.part,c.off,c.mem,c.gen,e',()),rfl,trivial,z2q _ _ _ _ _ ?_⟩
  refine zn hs λa29 w' hs=>?_
  refine zm hs λw' hs=>?_
  refine wp_lt ?_
  refine zl (λq w'=>Sat w' (slc T.a37 5 z (xs.flatMap zr)::pt b (.cells #[.pointer (some ⟨p,0,none⟩),.int .i64 M.at_,.pointer (some ⟨t,0,none⟩)] T.a24)::tbC t (z28 C a)::paP p M.A::dk M.A.L.d D::r)) ?_ ?_
  rotate_left
  ·rintro _ w2 hs
   refine zk ?_
   refine z1k (us':=[.int .i64 ((i+1:Nat):Int)]) (by (try simp (disch:=omega) only [w64]);first|rfl|(congr;omega)) ?_
   refine z0l (xs.length-(i+1)) ⟨i+1,rfl,by omega,rfl,?_⟩
   rw [htk];exact hs
  rcases zas hp with ⟨rfl,hpk⟩|⟨rfl,-,hpk⟩
  rotate_left
  ·refine zu ?_ (by simp)
   have e:z28 C a=C:=by unfold z28;rw [hpk];rfl
   rw [e]
   exact zf hs.sub
  have heb:zbv C [a]=true:=by
   unfold okK at hea
   rw [hpk] at hea
   have hea:zlh C a=true:=hea
   show (zlh C a && true)=true
   rw [hea];rfl
  refine z0p ?_ (by simp)
  have e:z28 C a=(z72 C [a]).2:=by unfold z28;rw [hpk];rfl
  rw [e]
  refine zl (λq w'=>Sat w' (slc T.a37 5 z (xs.flatMap zr)::pt b (.cells #[.pointer (some ⟨p,0,none⟩),.int .i64 M.at_,.pointer (some ⟨t,0,none⟩)] T.a24)::tbC t (z72 C [a]).2::paP p M.A::dk M.A.L.d D::r)) ?_ ?_
  rotate_left
  ·rintro _ w2 hs
   refine zk ?_
   exact zf hs
  refine zv hs λw' hs=>?_
  refine zj ?_
  refine z14 hs ?_
  refine zg hs ?_
  refine z7r hs (enc:=zr) [a] λy w' hs=>⟨(by first|trivial|(repeat (first|exact trivial|exact λ_=>z08 hs|exact λ_=>z0f hs|refine And.intro ?_ ?_))),?_⟩
  refine ze ?_
  have hs:Sat w' (tbC t C::slc T.a37 5 y ([a].flatMap zr)::slc T.a37 5 z (xs.flatMap zr)::pt b (.cells #[.pointer (some ⟨p,0,none⟩),.int .i64 M.at_,.pointer (some ⟨t,0,none⟩)] T.a24)::paP p M.A::dk M.A.L.d D::r):=hs.sub
  refine zb (zyb (t:=t) (C:=C) y [a] (λa' ha=>by rw [List.mem_singleton.1 ha];exact hpa.1) heb (by simp only [List.length_cons,List.length_nil];omega) hs) λ_ w' hs=>?_
  obtain ⟨rfl,hs⟩:=hs
  refine zd ?_
  refine ze ?_
  exact zf hs.sub
end
def z6g (pid epoch seq time:Int) (z:Sl) (cs:List ComM):BatM:=⟨0,pid,epoch,seq,1,time,z,cs.map λc=>z2v c time⟩
def z95 (M:OffA) (q:(Int × Bool × Int) × PartA × DiskA):OffA:=⟨q.2.1,M.at_,M.C⟩
def ofO (M:OffA) (part:Int):ComM × Bool:=match z0u M.C.l (z11 part) with
 | none=>(com0,false)
 | some a=>((z6y a.r).getD com0,true)
structure PenM where
 pid:Int
 epoch:Int
 c:ComM
def z3m (p:PenM):List Value:=[.int .i64 p.pid,.int .i64 p.epoch,.int .i64 p.c.part,.int .i64 p.c.off,.int .i64 p.c.mem,.int .i64 p.c.gen]
instance:EncN z3m 6:=⟨λ_=>rfl,by decide,by simp [z3m,Value.oneCell']⟩
instance:EncF z3m 3 (.int .i64) (λp=>p.c.off):=⟨λ_=>rfl⟩
section
variable {w:World} {l r r1 r2 r3 l':List HP} {b d t p:Nat} {M:OffA} {D:DiskA}
theorem zqu (pre:ByteArray) (seg gap most:Int) (hp:z5n pre=true) (hc:zkj seg gap) (hm:1<=most/\most<=1024) (hg:D.gone=false) {S:List SegA} (h:Cpl pre S D) (hno:∀ f ∈ D.fs,f.name≠ze7 pre/\f.name≠ze8 pre)
  (hf0 : -9223372036854775808<=z0t S/\z0t S<9223372036854775808)
  (hend:endsK ⟨0,[]⟩ (z17 (z41 ⟨d,pre,seg,gap,S⟩ most) (z0t S) 1099511627776 true).1.1=true) (hlen:(z17 (z41 ⟨d,pre,seg,gap,S⟩ most) (z0t S) 1099511627776 true).1.1.length<=1000000) (hst:z9w (z41 ⟨d,pre,seg,gap,S⟩ most)) [hf:Fo l dk d D r] (hs:Sat w l) :
  Ret P F.a75 #[.pointer (some ⟨d,0,none⟩),.string pre,.agg #[.int .i64 seg,.int .i64 gap,.int .i64 most]] w λvs w'=>∃ b:Nat,vs=[.pointer (some ⟨b,0,none⟩),.int .i64 0] /\
   Sat w' (ofP b (z56 ⟨z41 ⟨d,pre,seg,gap,S⟩ most,z0t S,⟨0,[]⟩⟩)::dk d D::r) :=
 zuy _ pre seg gap most <| by
  delta z09g A8 AC Ac Ad Ai Ak Al Am As Bh Bq Bv Bw
  refine zq (hs.perm hf.perm) λa0 w' hs=>?_
  clear hf
  refine zg hs ?_
  have hs:=hs.pick [1]
  refine zb (z050 (d:=d) (D:=D) pre seg gap most hp hc hm hg h hno hs) λ_ w' hs=>?_
  obtain ⟨p,rfl,hs⟩:=hs
  refine ⟨(some ⟨p,0,none⟩,0,()),rfl,trivial,z1v _ _ ?_⟩
  refine wp_lt ?_
  refine zu ?_ (by simp)
  obtain ⟨A,hA⟩:∃ A,A=z41 ⟨d,pre,seg,gap,S⟩ most:=⟨_,rfl⟩
  have hAL:A.L=⟨d,pre,seg,gap,S⟩:=by rw [hA];exact z04s _ _
  rw [<- hA] at hs hend hlen hst ⊢
  refine zb (zfw (p:=p) (A:=A) hs) λ_ w' hs=>?_
  obtain ⟨rfl,hs⟩:=hs
  refine zd ?_
  have e1:z0t A.L.l=z0t S:=by rw [hAL]
  have hd:A.L.d=d:=by rw [hAL]
  have hcp:Cpl A.L.pre A.L.l D:=by rw [hAL];exact h
  rw [e1]
  refine zb (z066 hs) λ_ w' hs=>?_
  obtain ⟨t,rfl,hs⟩:=hs
  refine zd ?_
  refine zq hs λb w' hs=>?_
  have hs:Sat w' (ofP b ⟨A,z0t S,⟨0,[]⟩⟩::dk d D::r):=by
   have hs:Sat w' (pt b (.cells #[.pointer (some ⟨p,0,none⟩),.int .i64 (z0t S),.pointer (some ⟨t,0,none⟩)] T.a24)::tbC t ⟨0,[]⟩::paP p A::dk d D::r):=hs.sub
   exact zki (M:=⟨A,z0t S,⟨0,[]⟩⟩) t p hs
  have hs:=gdk hd.symm hs
  refine zb (zqv (b:=b) (M:=⟨A,z0t S,⟨0,[]⟩⟩) (D:=D) hcp hf0 hend (by show 0+(z17 A (z0t S) 1099511627776 true).1.1.length<=1000000;omega) hst hs) λ_ w' hs=>?_
  obtain ⟨rfl,hs⟩:=hs
  refine zd ?_
  refine ⟨rfl,b,rfl,?_⟩
  exact gdk hd hs
set_option maxHeartbeats 1000000 in
theorem zx0 (pid epoch seq time:Int) (x:Sl) (cs:List ComM) (hcs:∀ c ∈ cs,z4a c/\(0<=time/\time<=1099511627776)) (hne:cs≠[]) (hcl:cs.length<=1000) {r1:List HP} [hf:Fo l ofP b M r1] [hf2:Fo r1 dk M.A.L.d D r] (hb:FocR r x 4 (cs.flatMap z0b)) (h:Cpl M.A.L.pre M.A.L.l D) (hs:Sat w l) :
  Ret P F.a72 #[.pointer (some ⟨b,0,none⟩),.int .i64 pid,.int .i64 epoch,.int .i64 seq,.int .i64 time,x.v] w λvs w'=>∃ z:Sl,
   vs=[.bool (z09 M.A D (z6g pid epoch seq time z cs)).1.2.1,.int .i64 (z09 M.A D (z6g pid epoch seq time z cs)).1.2.2]/\Sat w' (ofP b (z95 M (z09 M.A D (z6g pid epoch seq time z cs)))::dk M.A.L.d (z09 M.A D (z6g pid epoch seq time z cs)).2.2::r) :=
 zhn _ pid epoch seq time x <| by
  delta z00w AH AI AJ AK AL AM AR AZ Aa Ac Ad Ae Af Ag Ai Aj Ak Al An Ao Ap Ay BB BC BD BO Ba
  have hs:=hs.perm (hf.perm.trans (.cons _ hf2.perm))
  clear hf hf2
  have hxl:=hs.slen x (xs:=cs) (enc:=z0b)
  have hpos:0<cs.length:=List.length_pos_iff.2 hne
  refine zu ?_ (by simp)
  refine zu ?_ (by rw [hxl];omega)
  refine zn hs λa0 w' hs=>?_
  refine zm hs λw' hs=>?_
  have hs:Sat w' (slc T.a2 4 ⟨none,0,0⟩ (([]:List RecM).flatMap z01)::_):=hs.slc_nil
  have hs:Sat w' (pt a0 (.cells #[.int .i64 0,.int .i64 pid,.int .i64 epoch,.int .i64 seq,.int .i64 1,.int .i64 time,.slice none 0 0] T.a0)::slc T.a2 4 ⟨none,0,0⟩ (([]:List RecM).flatMap z01)::ofP b M::dk M.A.L.d D::r):=hs.sub
  refine zl (λq w'=>∃ z:Sl,Sat w' (pt a0 (.cells #[.int .i64 0,.int .i64 pid,.int .i64 epoch,.int .i64 seq,.int .i64 1,.int .i64 time,.slice z.a z.len z.cap] T.a0)::slc T.a2 4 z ((cs.map λc=>z2v c time).flatMap z01)::ofP b M::dk M.A.L.d D::r)) ?_ ?_
  ·refine z03 (λm q w=>∃ (i:Nat) (z:Sl),q=((i:Int),())/\i<=cs.length/\cs.length-i=m/\Sat w (pt a0 (.cells #[.int .i64 0,.int .i64 pid,.int .i64 epoch,.int .i64 seq,.int .i64 1,.int .i64 time,.slice z.a z.len z.cap] T.a0)::slc T.a2 4 z (((cs.take i).map λc=>z2v c time).flatMap z01)::ofP b M::dk M.A.L.d D::r)) cs.length
    ⟨0,⟨none,0,0⟩,rfl,by omega,rfl,hs⟩ ?_
   clear hs
   rintro m _ w ⟨i,z,rfl,hi,hm,hs⟩
   refine zk ?_
   refine zh (λhc=>?_) λhc=>?_
   rotate_left
   ·rw [List.take_of_length_le (by omega)] at hs
    exact zo (zf ⟨z,hs⟩)
   have hil:i<cs.length:=by omega
   have htk:(cs.take (i+1)).map (λc=>z2v c time)=(cs.take i).map (λc=>z2v c time)++[z2v cs[i] time]:=by rw [List.take_add_one,List.getElem?_eq_getElem hil,Option.toList_some,List.map_append];rfl
   have hmy:=hcs _ (List.getElem_mem hil)
   have hrl:((cs.take i).map λc=>z2v c time).length<=1000:=by rw [List.length_map,List.length_take];omega
   refine z1s hs i hil ?_
   generalize cs[i]=c at *
   refine zn hs λa8 w' hs=>?_
   refine zm hs λw' hs=>?_
   refine zg hs ?_
   refine zb (zme c time hs) λ_ w' hs=>?_
   obtain ⟨rfl,hs⟩:=hs
   have e:z38 c time=(z2v c time,0):=by unfold z38;rw [if_pos hmy]
   rw [e]
   refine ⟨((z2v c time).key,(z2v c time).value,false,time,0,()),rfl,trivial,z2q _ _ _ _ _ ?_⟩
   refine zn hs λa18 w' hs=>?_
   refine zm hs λw' hs=>?_
   refine wp_lt ?_
   refine zu ?_ (by simp)
   refine z8 hs ?_
   refine zg hs ?_
   refine z3w hs (xs:=(cs.take i).map λc=>z2v c time) (enc:=z01) (z2v c time) (λz' w' hs=>?_) rfl (by omega)
   rw [<- htk] at hs
   refine z02 hs λw' hs=>?_
   refine z1k (us':=[.int .i64 ((i+1:Nat):Int)]) (by (try simp (disch:=omega) only [w64]);first|rfl|(congr;omega)) ?_
   exact z0l (cs.length-(i+1)) ⟨i+1,z',rfl,by omega,rfl,hs.sub⟩
  clear hs
  rintro _ w ⟨z,hs⟩
  refine zk ?_
  refine zv hs λw' hs=>?_
  obtain ⟨t,p,hs⟩:=z8j (hs.pick [2])
  refine zj ?_
  refine z8 hs ?_
  refine zg hs ?_
  have hs:Sat w' (paP p M.A::dk M.A.L.d D::slc T.a2 4 z ((cs.map λc=>z2v c time).flatMap z01)::pt b (.cells #[.pointer (some ⟨p,0,none⟩),.int .i64 M.at_,.pointer (some ⟨t,0,none⟩)] T.a24)::tbC t M.C::r):=hs.sub
  have hb0:FocR (slc T.a2 4 z ((cs.map λc=>z2v c time).flatMap z01)::pt b (.cells #[.pointer (some ⟨p,0,none⟩),.int .i64 M.at_,.pointer (some ⟨t,0,none⟩)] T.a24)::tbC t M.C::r) (z6g pid epoch seq time z cs).x 4 ((z6g pid epoch seq time z cs).rs.flatMap z01) :=
   (FocR.head:FocR (slc T.a2 4 z ((cs.map λc=>z2v c time).flatMap z01)::pt b (.cells #[.pointer (some ⟨p,0,none⟩),.int .i64 M.at_,.pointer (some ⟨t,0,none⟩)] T.a24)::tbC t M.C::r) z 4 ((cs.map λc=>z2v c time).flatMap z01))
  refine zb (z074 (p:=p) (A:=M.A) (D:=D) (z6g pid epoch seq time z cs) hb0 h (by show (cs.map λc=>z2v c time).length<=_;rw [List.length_map];omega) rfl hs) λ_ w' hs=>?_
  obtain ⟨rfl,hs⟩:=hs
  generalize hq:z09 M.A D (z6g pid epoch seq time z cs)=q at *
  obtain ⟨⟨n,again,e⟩,A',D'⟩:=q
  simp only at hs ⊢
  refine ⟨(n,again,e,()),rfl,trivial,zea _ _ _ ?_⟩
  refine wp_lt ?_
  refine wp_lt ?_
  refine wp_lt ?_
  refine ze ?_
  refine wp_lt ?_
  refine wp_lt ?_
  refine ⟨rfl,z,by rw [hq],?_⟩
  rw [hq]
  exact z8i (t:=t) (p:=p) (z95 M ((n,again,e),A',D')) hs
end
theorem z05y (a:Addr):Addr.add (Addr.add (Addr.add a 0) 2) 1=Addr.add (Addr.add a 0) 3:=rfl
def z36 (b:BatM) (rs:List RecM):List PenM:=(rs.filterMap z6y).map λc=>⟨b.pid,b.epoch,c⟩
section
variable {w:World} {l r r1 r2 r3 l':List HP} {b d t p:Nat} {M:OffA} {D:DiskA}
set_option maxHeartbeats 1000000 in
theorem zsn (part:Int) (hp:0<=part/\part<=255) (hv:∀ a ∈ M.C.l,a.r.value.size<=1000000) [hf:Fo l ofP b M r] (hs:Sat w l) :
  Ret P F.a71 #[.pointer (some ⟨b,0,none⟩),.int .i64 part] w λvs w'=>vs=[.agg (z0b (ofO M part).1).toArray,.bool (ofO M part).2]/\Sat w' (ofP b M::r) :=
 zuv _ part <| by
  delta z09d A8 AD AI AJ AY AZ Aa Ac Ad Ae Ai Aj Ak Al Ay BB BF BJ BO BV BW Bk
  have hs:=hs.perm hf.perm
  clear hf
  obtain ⟨t,p,hs⟩:=z8j hs
  refine zn hs λa0 w' hs=>?_
  refine z1r (by rw [Bool.or_eq_false_iff,Bool.or_eq_false_iff,decide_eq_false_iff_not,decide_eq_false_iff_not];exact ⟨⟨rfl,by omega⟩,by omega⟩) ?_
  have hk:∀ {w:World} {l:List HP},Sat w l->Ret P F.a79 #[.int .i64 part] w λvs w'=>vs=[.string (z11 part)]/\Sat w' l:=λhs=>by
   have hk:=zm9 part.toNat (by omega) hs
   rw [show ((part.toNat:Nat):Int)=part by omega] at hk
   exact hk
  refine zl (λq w'=>∃ a:Nat,q=(⟨a,0,none⟩,(z0u M.C.l (z11 part)).isSome,())/\Sat w' (pt a (.cells #[.int .i64 (orC (z0u M.C.l (z11 part))).off,.string (orC (z0u M.C.l (z11 part))).r.key,.string (orC (z0u M.C.l (z11 part))).r.value,.bool (orC (z0u M.C.l (z11 part))).r.gone,.int .i64 (orC (z0u M.C.l (z11 part))).r.time] T.a37) ::
   pt a0 (.cells #[.int .i64 0,.int .i64 0,.int .i64 0,.int .i64 0] T.a23)::ofP b M::r)) ?_ ?_
  ·refine zv hs λw' hs=>?_
   refine zj ?_
   refine z14 hs ?_
   have hfin:∀ {w':World} {a:Nat},Sat w' (tbC t M.C::pt a (.cells #[.int .i64 (orC (z0u M.C.l (z11 part))).off,.string (orC (z0u M.C.l (z11 part))).r.key,.string (orC (z0u M.C.l (z11 part))).r.value,.bool (orC (z0u M.C.l (z11 part))).r.gone,.int .i64 (orC (z0u M.C.l (z11 part))).r.time] T.a37)::pt a0 (.cells #[.int .i64 0,.int .i64 0,.int .i64 0,.int .i64 0] T.a23)::pt b (.cells #[.pointer (some ⟨p,0,none⟩),.int .i64 M.at_,.pointer (some ⟨t,0,none⟩)] T.a24)::paP p M.A::r) ->
     Sat w' (pt a (.cells #[.int .i64 (orC (z0u M.C.l (z11 part))).off,.string (orC (z0u M.C.l (z11 part))).r.key,.string (orC (z0u M.C.l (z11 part))).r.value,.bool (orC (z0u M.C.l (z11 part))).r.gone,.int .i64 (orC (z0u M.C.l (z11 part))).r.time] T.a37)::pt a0 (.cells #[.int .i64 0,.int .i64 0,.int .i64 0,.int .i64 0] T.a23)::ofP b M::r):=λhs=>by
    have hs:=zki (M:=M) t p (hs.pick [3,0,2])
    exact hs.sub
   refine ⟨?_,?_⟩
   ·refine zb (hk hs) λ_ w' hs=>?_
    obtain ⟨rfl,hs⟩:=hs
    refine zd ?_ (by first|trivial|(repeat (first|exact trivial|exact λ_=>z08 hs|exact λ_=>z0f hs|refine And.intro ?_ ?_)))
    refine ⟨?_,?_⟩
    ·refine ze ?_
     refine zb (zl9 (t:=t) (C:=M.C) (z11 part) hs) λ_ w' hs=>?_
     obtain ⟨rfl,hs⟩:=hs
     refine ⟨((orC (z0u M.C.l (z11 part))).off,(orC (z0u M.C.l (z11 part))).r.key,(orC (z0u M.C.l (z11 part))).r.value,(orC (z0u M.C.l (z11 part))).r.gone,(orC (z0u M.C.l (z11 part))).r.time,(z0u M.C.l (z11 part)).isSome,()),rfl,trivial,ztb _ _ _ _ _ _ ?_⟩
     refine zn hs λa15 w' hs=>?_
     refine zm hs λw' hs=>?_
     refine wp_lt ?_
     refine ze ?_
     exact zf ⟨a15,rfl,hfin hs.sub⟩
    ·refine zn hs λa17 w' hs=>?_
     refine ze ?_
     refine zb (zl9 (t:=t) (C:=M.C) (z11 part) hs) λ_ w' hs=>?_
     obtain ⟨rfl,hs⟩:=hs
     refine ⟨((orC (z0u M.C.l (z11 part))).off,(orC (z0u M.C.l (z11 part))).r.key,(orC (z0u M.C.l (z11 part))).r.value,(orC (z0u M.C.l (z11 part))).r.gone,(orC (z0u M.C.l (z11 part))).r.time,(z0u M.C.l (z11 part)).isSome,()),rfl,trivial,ztb _ _ _ _ _ _ ?_⟩
     refine zm hs λw' hs=>?_
     refine wp_lt ?_
     refine ze ?_
     exact zf ⟨a17,rfl,hfin hs.sub⟩
   ·refine zn hs λa25 w' hs=>?_
    refine zb (hk hs) λ_ w' hs=>?_
    obtain ⟨rfl,hs⟩:=hs
    refine zd ?_ (by first|trivial|(repeat (first|exact trivial|exact λ_=>z08 hs|exact λ_=>z0f hs|refine And.intro ?_ ?_)))
    refine ze ?_
    refine zb (zl9 (t:=t) (C:=M.C) (z11 part) hs) λ_ w' hs=>?_
    obtain ⟨rfl,hs⟩:=hs
    refine ⟨((orC (z0u M.C.l (z11 part))).off,(orC (z0u M.C.l (z11 part))).r.key,(orC (z0u M.C.l (z11 part))).r.value,(orC (z0u M.C.l (z11 part))).r.gone,(orC (z0u M.C.l (z11 part))).r.time,(z0u M.C.l (z11 part)).isSome,()),rfl,trivial,ztb _ _ _ _ _ _ ?_⟩
    refine zm hs λw' hs=>?_
    refine wp_lt ?_
    refine ze ?_
    exact zf ⟨a25,rfl,hfin hs.sub⟩
  clear hs
  rintro _ w ⟨a,rfl,hs⟩
  refine z1v _ _ ?_
  unfold ofO
  cases hg:z0u M.C.l (z11 part) with
  | none =>
   rw [hg] at hs
   refine z0p ?_ (by simp)
   refine zm hs λw' hs=>?_
   refine zg hs ?_
   exact ⟨rfl,rfl,hs.sub⟩
  | some y =>
   rw [hg] at hs
   have hs:Sat w (pt a (.cells #[.int .i64 y.off,.string y.r.key,.string y.r.value,.bool y.r.gone,.int .i64 y.r.time] T.a37)::pt a0 (.cells #[.int .i64 0,.int .i64 0,.int .i64 0,.int .i64 0] T.a23)::ofP b M::r):=hs
   have hym:y ∈ M.C.l:=by
    unfold z0u at hg
    split at hg
    ·exact List.mem_of_getElem? hg
    ·cases hg
   refine zu ?_ (by simp)
   refine zae hs (y.r.key,y.r.value,y.r.gone,y.r.time,()) ?_
   refine zb (ze2 y.r (hv y hym) hs) λ_ w' hs=>?_
   obtain ⟨c,e',rfl,hpk,hs⟩:=hs
   refine ⟨(c.part,c.off,c.mem,c.gen,e',()),rfl,trivial,z2q _ _ _ _ _ ?_⟩
   have hc:(z6y y.r).getD com0=c:=by
    rcases zas hpk with ⟨-,h⟩|⟨-,h1,h⟩
    ·rw [h];rfl
    ·rw [h,h1];rfl
   refine zn hs λa49 w' hs=>?_
   refine zm hs λw' hs=>?_
   refine wp_lt ?_
   refine zg hs ?_
   refine zm hs λw' hs=>?_
   refine zg hs ?_
   refine ⟨rfl,?_,hs.sub⟩
   show _=[Value.agg (z0b ((z6y y.r).getD com0)).toArray,Value.bool true]
   rw [hc]
   rfl
theorem zqt (pid epoch:Int) (commit:Bool) (time:Int) {r1:List HP} [hf:Fo l ofP b M r1] [hf2:Fo r1 dk M.A.L.d D r] (h:Cpl M.A.L.pre M.A.L.l D) (h2:Cpl M.A.L.pre (z09 M.A D (z1h pid epoch commit time ⟨none,0,0⟩)).2.1.L.l (z09 M.A D (z1h pid epoch commit time ⟨none,0,0⟩)).2.2)
  (hat : -9223372036854775808<=M.at_/\M.at_<9223372036854775808)
  (hend:endsK M.C (z17 (z09 M.A D (z1h pid epoch commit time ⟨none,0,0⟩)).2.1 M.at_ 1099511627776 true).1.1=true) (hlen:M.C.l.length+(z17 (z09 M.A D (z1h pid epoch commit time ⟨none,0,0⟩)).2.1 M.at_ 1099511627776 true).1.1.length<=1000000) (hst:z9w (z09 M.A D (z1h pid epoch commit time ⟨none,0,0⟩)).2.1) (hs:Sat w l) :
  Ret P F.a70 #[.pointer (some ⟨b,0,none⟩),.int .i64 pid,.int .i64 epoch,.bool commit,.int .i64 time] w λvs w'=>vs=[.bool (z09 M.A D (z1h pid epoch commit time ⟨none,0,0⟩)).1.2.1,.int .i64 (z09 M.A D (z1h pid epoch commit time ⟨none,0,0⟩)).1.2.2] /\
   Sat w' (ofP b (if (z09 M.A D (z1h pid epoch commit time ⟨none,0,0⟩)).1.2.2=0 then z56 (z95 M (z09 M.A D (z1h pid epoch commit time ⟨none,0,0⟩))) else z95 M (z09 M.A D (z1h pid epoch commit time ⟨none,0,0⟩)))::dk M.A.L.d (z09 M.A D (z1h pid epoch commit time ⟨none,0,0⟩)).2.2::r) :=
 zuu _ pid epoch commit time <| by
  delta z09c AH AK Aa Ac Ad Ai Ak Al Am Ay BD
  have hs:=hs.perm (hf.perm.trans (.cons _ hf2.perm))
  clear hf hf2
  obtain ⟨t,p,hs⟩:=z8j hs
  refine zu ?_ (by simp)
  refine zj ?_
  refine z8 hs ?_
  have hs:Sat w (paP p M.A::dk M.A.L.d D::pt b (.cells #[.pointer (some ⟨p,0,none⟩),.int .i64 M.at_,.pointer (some ⟨t,0,none⟩)] T.a24)::tbC t M.C::r):=hs.sub
  refine zb (z04z (p:=p) (A:=M.A) (D:=D) pid epoch commit time h hs) λ_ w' hs=>?_
  obtain ⟨rfl,hs⟩:=hs
  obtain ⟨g1,g2,-⟩:=zsw M.A D (z1h pid epoch commit time ⟨none,0,0⟩)
  generalize z09 M.A D (z1h pid epoch commit time ⟨none,0,0⟩)=q at hs h2 hend hlen hst g1 g2 ⊢
  obtain ⟨⟨n,again,e⟩,A',D'⟩:=q
  simp only at hs h2 hend hlen hst g1 g2 ⊢
  refine ⟨(n,again,e,()),rfl,trivial,zea _ _ _ ?_⟩
  refine wp_lt ?_
  refine wp_lt ?_
  refine wp_lt ?_
  have hs:Sat w' (ofP b ⟨A',M.at_,M.C⟩::dk M.A.L.d D'::r):=z8i (t:=t) (p:=p) ⟨A',M.at_,M.C⟩ hs
  refine zl (λq w'=>Sat w' (ofP b (if e=0 then z56 ⟨A',M.at_,M.C⟩ else ⟨A',M.at_,M.C⟩)::dk M.A.L.d D'::r)) ?_ ?_
  rotate_left
  ·rintro _ w2 hs
   refine zk ?_
   refine wp_lt ?_
   refine wp_lt ?_
   exact ⟨rfl,rfl,hs⟩
  refine zh (λhe=>?_) λhe=>?_
  ·have he:e=0:=by simpa using he
   have hs:=gdk g1.symm hs
   refine zb (zqv (b:=b) (M:=⟨A',M.at_,M.C⟩) (D:=D') (by rw [g2];exact h2) hat hend hlen hst hs) λ_ w' hs=>?_
   obtain ⟨rfl,hs⟩:=hs
   refine zd ?_
   exact zf (by rw [if_pos he];exact gdk g1 hs)
  ·exact zf (by rw [if_neg (by simpa using he)];exact hs)
theorem zwy (y:Sl) (hy:y.len=0) (o:BatM) (hs:Sat w l):Ret P F.a78 #[.agg (zp o).toArray,y.v] w λvs w'=>vs=[.bool false]/\Sat w' l :=
 zv1 o.base o.pid o.epoch o.seq o.kind o.time o.x y <| by
  delta z09j A8 AM Ad As Aw Ay
  refine zq hs λa0 w' hs=>?_
  refine zb (R:=λvs w'=>vs=[.bool false]/\Sat w' l) ?_ λ_ w' hs=>?_
  ·refine zor y _ ?_
   delta z02j AC Ad Ay
   refine zb (R:=λvs w'=>vs=[.int .i64 (-1)]/\Sat w' l) ?_ λ_ w' hs=>?_
   ·refine zot y _ ?_
    delta z02l AK AM AR AX Ac Ad Ag Ai Ak Ao Bp
    refine zl (λq w'=>Sat w' l) ?_ ?_
    ·refine z03 (λm q w=>q=(0,())/\Sat w l) 0 ⟨rfl,hs.tail⟩ ?_
     clear hs
     rintro m _ w ⟨rfl,hs⟩
     refine zk ?_
     refine zu ?_ (by rw [hy];simp)
     exact zo (zf hs)
    clear hs
    rintro _ w hs
    refine zk ?_
    exact ⟨rfl,rfl,hs⟩
   obtain ⟨rfl,hs⟩:=hs
   refine zd ?_
   refine wp_lt ?_
   exact ⟨rfl,rfl,hs⟩
  obtain ⟨rfl,hs⟩:=hs
  refine zd ?_
  refine wp_lt ?_
  exact ⟨rfl,rfl,hs⟩
set_option maxHeartbeats 1000000 in
theorem zzl (b0:BatM) (hall:z0d M.A.L.l=[b0]) (hk:b0.kind=1) {r1:List HP} [hf:Fo l ofP b M r1] [hf2:Fo r1 dk M.A.L.d D r] (h:Cpl M.A.L.pre M.A.L.l D) (hs:Sat w l) :
  Ret P F.a73 #[.pointer (some ⟨b,0,none⟩)] w λvs w'=>∃ z:Sl,vs=[z.v]/\Sat w' (slc T.a25 6 z ((z36 b0 b0.rs).flatMap z3m)::ofP b M::dk M.A.L.d D::r) :=
 zuw _ <| by
  delta z09e AH AI AJ AM AN AO AX AY AZ Aa Ab Ac Ad Ae Af Ag Ai Aj Ak Al Ao Ap Aq Av Aw BB BO BV Ba Bo
  have hs:=hs.perm (hf.perm.trans (.cons _ hf2.perm))
  clear hf hf2
  obtain ⟨t,p,hs⟩:=z8j hs
  refine zu ?_ (by simp)
  refine zj ?_
  refine z8 hs ?_
  have hs:Sat w (paP p M.A::dk M.A.L.d D::pt b (.cells #[.pointer (some ⟨p,0,none⟩),.int .i64 M.at_,.pointer (some ⟨t,0,none⟩)] T.a24)::tbC t M.C::r):=hs.sub
  refine zb (zh3 (p:=p) (A:=M.A) (D:=D) h hs) λ_ w' hs=>?_
  obtain ⟨z,outs,rfl,hm,hs⟩:=hs
  refine zd ?_
  rw [hall] at hm
  obtain ⟨o,rfl,ho⟩:∃ o,outs=[o]/\o.p=b0:=by
   cases outs with
   | nil=>cases hm
   | cons o os =>
    cases os with
    | nil=>exact ⟨o,rfl,by simpa using hm⟩
    | cons _ _=>simp at hm
  have hrec:∀ r ∈ o.rs,z26 r=0:=by
   have hv:z07 b0=0:=((z7i (Int.le_refl 0) h.segs).valid b0 (by rw [hall];simp)).1
   have:=(z1q hv).2
   rw [<- ho] at this
   exact this
  have hn64:o.rs.length<=64:=by
   have hv:z07 b0=0:=((z7i (Int.le_refl 0) h.segs).valid b0 (by rw [hall];simp)).1
   have:=(z1q hv).1
   rw [<- ho] at this
   exact this
  have hko:o.kind=1:=by rw [<- ho] at hk;exact hk
  have hpe:z36 b0 b0.rs=z36 o o.rs:=by rw [<- ho];rfl
  rw [hpe]
  have hzl:=hs.slen z (xs:=[o]) (enc:=zp)
  have hs:Sat w' (slc T.a25 6 ⟨none,0,0⟩ (([]:List PenM).flatMap z3m)::slc T.a0 7 z ([o].flatMap zp)::z0i [o]::ofP b M::dk M.A.L.d D::r):=by
   have hs:Sat w' (slc T.a25 6 ⟨none,0,0⟩ (([]:List PenM).flatMap z3m)::_):=hs.slc_nil
   have hs:Sat w' (pt b (.cells #[.pointer (some ⟨p,0,none⟩),.int .i64 M.at_,.pointer (some ⟨t,0,none⟩)] T.a24)::tbC t M.C::paP p M.A::slc T.a25 6 ⟨none,0,0⟩ (([]:List PenM).flatMap z3m)::slc T.a0 7 z ([o].flatMap zp)::z0i [o]::dk M.A.L.d D::r):=hs.sub
   have hs:=zki (M:=M) t p hs
   exact hs.pick [1,1,1]
  refine zl (λq w'=>∃ z':Sl,q=(z',())/\Sat w' (slc T.a25 6 z' ((z36 o o.rs).flatMap z3m)::ofP b M::dk M.A.L.d D::r)) ?_ ?_
  rotate_left
  ·rintro _ w2 ⟨z',rfl,hs⟩
   refine zk ?_
   exact ⟨rfl,z',rfl,hs⟩
  refine z03 (λm q w=>∃ (i:Nat) (z':Sl) (xs:List PenM),q=(z',(i:Int),())/\i<=1/\1-i=m/\(i=0->xs=[])/\(i=1->xs=z36 o o.rs)/\Sat w (slc T.a25 6 z' (xs.flatMap z3m)::slc T.a0 7 z ([o].flatMap zp)::z0i [o]::ofP b M::dk M.A.L.d D::r)) 1
   ⟨0,⟨none,0,0⟩,[],rfl,by omega,rfl,(λ_=>rfl),(λh=>by cases h),hs⟩ ?_
  clear hs
  rintro m _ w ⟨i,z',xs,rfl,hi,hm,hx0,hx1,hs⟩
  refine z1v _ _ ?_
  refine zh (λhc=>?_) λhc=>?_
  rotate_left
  ·have hi1:i=1:=by rw [hzl] at hc;simp at hc;omega
   rw [hx1 hi1] at hs
   exact zo (zf ⟨z',rfl,hs.sub⟩)
  have hi0:i=0:=by rw [hzl] at hc;simp at hc;omega
  subst hi0
  have hxs:=hx0 rfl
  subst hxs
  refine zl (λq w'=>∃ z2:Sl,q=(z2,())/\Sat w' (slc T.a25 6 z2 ((z36 o o.rs).flatMap z3m)::slc T.a0 7 z ([o].flatMap zp)::z0i [o]::ofP b M::dk M.A.L.d D::r)) ?_ ?_
  rotate_left
  ·rintro _ w2 ⟨z2,rfl,hs⟩
   refine zk ?_
   refine z1k (us':=[z2.v,.int .i64 ((1:Nat):Int)]) (by (try simp (disch:=omega) only [w64]);first|rfl|(congr;omega)) ?_
   exact z0l 0 ⟨1,z2,z36 o o.rs,rfl,by omega,rfl,(λh=>by cases h),(λ_=>rfl),hs⟩
  refine z1s hs 0 (by simp) ?_
  refine zn hs λa15 w' hs=>?_
  refine wp_lt ?_
  refine zm hs λw' hs=>?_
  have hs:Sat w' (pt a15 (.cells #[.int .i64 o.base,.int .i64 o.pid,.int .i64 o.epoch,.int .i64 o.seq,.int .i64 o.kind,.int .i64 o.time,.slice o.x.a o.x.len o.x.cap] T.a0)::slc T.a25 6 z' (([]:List PenM).flatMap z3m)::slc T.a0 7 z ([o].flatMap zp)::z0i [o]::ofP b M::dk M.A.L.d D::r):=hs
  refine zl (λq w'=>q=(false,())/\Sat w' (pt a15 (.cells #[.int .i64 o.base,.int .i64 o.pid,.int .i64 o.epoch,.int .i64 o.seq,.int .i64 o.kind,.int .i64 o.time,.slice o.x.a o.x.len o.x.cap] T.a0)::slc T.a25 6 z' (([]:List PenM).flatMap z3m)::slc T.a0 7 z ([o].flatMap zp)::z0i [o]::ofP b M::dk M.A.L.d D::r)) ?_ ?_
  ·refine zv hs λw' hs=>?_
   refine z8 hs ?_
   refine zg hs ?_
   have e1:IntKind.wrap .i64 (((0:Nat):Int)+1)=1:=by decide
   rw [e1]
   refine wp_must (λ_=>by rw [hzl];simp) ?_
   refine zu ?_ (by rw [hko];simp)
   refine zb (zwy ⟨z0q z.a 7 (Int.toNat 1) z.cap,z.len-Int.toNat 1,z.cap-Int.toNat 1⟩ (by show z.len-1=0;rw [hzl];rfl) o hs) λ_ w' hs=>?_
   obtain ⟨rfl,hs⟩:=hs
   refine zd ?_
   refine ze ?_
   exact zf ⟨rfl,hs⟩
  clear hs
  rintro _ w ⟨rfl,hs⟩
  refine zk ?_
  refine zu ?_ (by simp)
  refine z8 hs ?_
  have hbr:FocR (z0i [o]::ofP b M::dk M.A.L.d D::r) o.x 4 (o.rs.flatMap z01):=zdx (by simp)
  have hxl:=hs.slen o.x (xs:=o.rs) (enc:=z01)
  refine zl (λq w'=>∃ z2:Sl,q=(z2,())/\Sat w' (slc T.a25 6 z2 ((z36 o o.rs).flatMap z3m)::slc T.a0 7 z ([o].flatMap zp)::z0i [o]::ofP b M::dk M.A.L.d D::r)) ?_ ?_
  rotate_left
  ·rintro _ w2 ⟨z2,rfl,hs⟩
   refine zk ?_
   exact zf ⟨z2,rfl,hs⟩
  refine z03 (λm q w=>∃ (i:Nat) (z2:Sl),q=(z2,(i:Int),())/\i<=o.rs.length/\o.rs.length-i=m/\Sat w (pt a15 (.cells #[.int .i64 o.base,.int .i64 o.pid,.int .i64 o.epoch,.int .i64 o.seq,.int .i64 o.kind,.int .i64 o.time,.slice o.x.a o.x.len o.x.cap] T.a0)::slc T.a25 6 z2 ((z36 o (o.rs.take i)).flatMap z3m)::slc T.a0 7 z ([o].flatMap zp)::z0i [o]::ofP b M::dk M.A.L.d D::r)) o.rs.length
   ⟨0,z',rfl,by omega,rfl,hs⟩ ?_
  clear hs
  rintro m2 _ w ⟨i,z2,rfl,hi2,hm2,hs⟩
  refine z1v _ _ ?_
  refine zh (λhc2=>?_) λhc2=>?_
  rotate_left
  ·rw [List.take_of_length_le (by omega)] at hs
   exact zo (zf ⟨z2,rfl,hs.sub⟩)
  have hil:i<o.rs.length:=by omega
  have htk:z36 o (o.rs.take (i+1))=z36 o (o.rs.take i)++z36 o [o.rs[i]]:=by
   unfold z36
   rw [List.take_add_one,List.getElem?_eq_getElem hil,Option.toList_some,List.filterMap_append,List.map_append]
  have hpl:(z36 o (o.rs.take i)).length<=64:=by
   unfold z36
   rw [List.length_map]
   have:=List.length_filterMap_le z6y (o.rs.take i)
   rw [List.length_take] at this
   omega
  have hr:=hrec _ (List.getElem_mem hil)
  refine z1s hs i hil ?_
  generalize o.rs[i]=y at *
  refine zn hs λa36 w' hs=>?_
  refine zm hs λw' hs=>?_
  refine zg hs ?_
  refine zb (ze2 y (by have:=(z3j hr).2.1;omega) hs) λ_ w' hs=>?_
  obtain ⟨c,e',rfl,hpk,hs⟩:=hs
  refine ⟨(c.part,c.off,c.mem,c.gen,e',()),rfl,trivial,z2q _ _ _ _ _ ?_⟩
  refine zn hs λa46 w' hs=>?_
  refine zm hs λw' hs=>?_
  refine wp_lt ?_
  refine zl (λq w'=>∃ z3:Sl,q=(z3,())/\Sat w' (pt a15 (.cells #[.int .i64 o.base,.int .i64 o.pid,.int .i64 o.epoch,.int .i64 o.seq,.int .i64 o.kind,.int .i64 o.time,.slice o.x.a o.x.len o.x.cap] T.a0)::slc T.a25 6 z3 ((z36 o (o.rs.take (i+1))).flatMap z3m)::slc T.a0 7 z ([o].flatMap zp)::z0i [o]::ofP b M::dk M.A.L.d D::r)) ?_ ?_
  rotate_left
  ·rintro _ w2 ⟨z3,rfl,hs⟩
   refine zk ?_
   refine z1k (us':=[z3.v,.int .i64 ((i+1:Nat):Int)]) (by (try simp (disch:=omega) only [w64]);first|rfl|(congr;omega)) ?_
   exact z0l (o.rs.length-(i+1)) ⟨i+1,z3,rfl,by omega,rfl,hs⟩
  rw [htk]
  rcases zas hpk with ⟨rfl,hp2⟩|⟨rfl,-,hp2⟩
  ·have e:z36 o [y]=[⟨o.pid,o.epoch,c⟩]:=by unfold z36;rw [List.filterMap_cons,hp2];rfl
   rw [e]
   refine z0p ?_ (by simp)
   refine z8 hs ?_
   refine z8 hs ?_
   refine zg hs ?_
   refine z3w hs (xs:=z36 o (o.rs.take i)) (enc:=z3m) ⟨o.pid,o.epoch,c⟩ (λz3 w' hs=>?_) rfl (by omega)
   exact zf ⟨z3,rfl,hs.sub⟩
  ·have e:z36 o [y]=[]:=by unfold z36;rw [List.filterMap_cons,hp2];rfl
   rw [e,List.append_nil]
   refine zu ?_ (by simp)
   exact zf ⟨z2,rfl,hs.sub⟩
end
inductive Hist:List BatM->ViewA->Prop where
 | nil:Hist [] ⟨0,[],[]⟩
 | snoc {bs:List BatM} {A:ViewA} {b:BatM}:Hist bs A->z5h A b=0->Hist (bs++[b]) (z1u A b)
theorem z04r:okV ⟨0,[],[]⟩:=⟨by show (0:Int)<=0/\(0:Int)<=_;omega,by simp,by simp,by simp,by simp,by simp,by simp,by simp,by simp⟩
theorem zqb {bs:List BatM} {A:ViewA} (h:Hist bs A):okV A:=by
 induction h with
 | nil=>exact z04r
 | snoc _ hc ih=>exact zm8 ih hc
theorem zk4 {A:ViewA} {b:BatM}:(z1u A b).next=b.base+zt b:=by
 unfold z1u
 split
 ·rfl
 ·split
  ·split <;> rfl
  ·rfl
theorem zwe {bs:List BatM} {A:ViewA} (h:Hist bs A):bs.Pairwise (λa b=>a.base<b.base)/\∀ b ∈ bs,b.base<A.next:=by
 induction h with
 | nil=>exact ⟨.nil,by simp⟩
 | @snoc bs A b _ hc ih =>
  obtain ⟨hv,hb,-⟩:=z5d hc
  have hs:=(z16 b hv).1
  refine ⟨?_,λc hcm=>?_⟩
  ·rw [List.pairwise_append]
   refine ⟨ih.1,by simp,λc hcm d hd=>?_⟩
   rw [List.mem_singleton.1 hd]
   have:=ih.2 c hcm
   omega
  ·rw [zk4]
   rcases List.mem_append.1 hcm with hcm|hcm
   ·have:=ih.2 c hcm;omega
   ·rw [List.mem_singleton.1 hcm];omega
theorem zxi {A:ViewA} (hok:okV A):z2m A<=A.next/\∀ t ∈ A.op,z2m A<=t.first:=by
 unfold z2m
 cases hop:A.op with
 | nil=>exact ⟨Int.le_refl _,by simp⟩
 | cons u us =>
  dsimp only
  have hu:u ∈ A.op:=by rw [hop];exact List.mem_cons_self ..
  have:=(hok.op u hu).1.first
  refine ⟨by omega,λt ht=>?_⟩
  have hb:=hok.byFirst
  rw [hop] at hb
  rcases List.mem_cons.1 ht with rfl|ht
  ·exact Int.le_refl _
  ·have:=(List.pairwise_cons.1 hb).1 t ht;omega
theorem z075 {s:Int}:∀ {bs:List BatM},bs.Pairwise (λa b=>a.base<b.base)->∃ b1 b2,bs=b1++b2/\(∀ c ∈ b1,c.base<s)/\∀ c ∈ b2,c.base>=s
 | [],_=>⟨[],[],rfl,by simp,by simp⟩
 | b::r,h=>by
  rw [List.pairwise_cons] at h
  by_cases hb:b.base<s
  ·obtain ⟨b1,b2,rfl,h1,h2⟩:=z075 (s:=s) h.2
   refine ⟨b::b1,b2,rfl,λc hc=>?_,h2⟩
   rcases List.mem_cons.1 hc with rfl|hc
   ·exact hb
   ·exact h1 c hc
  ·refine ⟨[],b::r,rfl,by simp,λc hc=>?_⟩
   rcases List.mem_cons.1 hc with rfl|hc
   ·omega
   ·have:=h.1 c hc;omega
def z013 (a b:BatM):Prop:=a.pid=b.pid/\a.epoch=b.epoch
def zwu (bs:List BatM) (i j:Nat) (a:BatM):Prop:=∀ k (hk:k<bs.length),i<k->k<j->z013 bs[k] a->z04 bs[k]=false
theorem zmb {A:ViewA} {p q:Int} (h:p≠q) {n:Int} {fa:List TxnA}:opF ⟨n,z35 q A.op,fa⟩ p=opF A p:=by
 unfold opF z35
 rw [List.find?_filter]
 congr 1
 funext t
 by_cases ht:t.pid=p
 ·have:t.pid≠q:=by rw [ht];exact h
  simp [ht,h]
 ·simp [ht]
theorem z0al {bs:List BatM} {A:ViewA} (h:Hist bs A):∀ i (hi:i<bs.length),bs[i].kind=1->zwu bs i bs.length bs[i]->∃ t,opF A bs[i].pid=some t/\t.epoch=bs[i].epoch/\t.first<=bs[i].base:=by
 induction h with
 | nil=>intro i hi;cases hi
 | @snoc bs A b hh hc ih =>
  obtain ⟨hv,hbase,hmay⟩:=z5d hc
  intro i hi hk hno
  by_cases hib:i<bs.length
  ·have hgi:(bs++[b])[i]=bs[i]:=List.getElem_append_left hib
   rw [hgi] at hk hno ⊢
   obtain ⟨t,h1,h2,h3⟩:=ih i hib hk λk hk' hik hkj hkey=>by
    have:=hno k (by rw [List.length_append];omega) hik (by rw [List.length_append];omega) (by rw [List.getElem_append_left hk'];exact hkey)
    rwa [List.getElem_append_left hk'] at this
   refine ⟨t,?_,h2,h3⟩
   unfold z1u
   split
   ·show (A.op++[_]).find? _=some t
    rw [List.find?_append]
    have:A.op.find? (λu=>decide (u.pid=bs[i].pid))=some t:=h1
    rw [this];rfl
   ·split
    ·rename_i hm
     obtain ⟨u,hu⟩:∃ u,opF A b.pid=some u:=Option.isSome_iff_exists.1 hm.2
     have hk0:b.kind≠0:=by
      have:=hm.1
      unfold z04 at this
      simp only [Bool.or_eq_true,decide_eq_true_eq] at this
      omega
     obtain ⟨-,m2,-,-⟩:=z6c (hmay hk0)
     have hne:bs[i].pid≠b.pid:=λe=>by
      have e2:u=t:=by rw [<- e,h1] at hu;exact (Option.some.inj hu).symm
      have:=hno bs.length (by rw [List.length_append];simp) hib (by rw [List.length_append];simp) (by
       rw [List.getElem_append_right (Nat.le_refl _)]
       simp only [Nat.sub_self,List.getElem_cons_zero]
       exact ⟨e.symm,by rw [<- m2 u hu,e2,h2]⟩)
      rw [List.getElem_append_right (Nat.le_refl _)] at this
      simp only [Nat.sub_self,List.getElem_cons_zero] at this
      rw [hm.1] at this;cases this
     split
     ·rw [zmb hne];exact h1
     ·rw [zmb hne];exact h1
    ·exact h1
  ·have hib:i=bs.length:=by rw [List.length_append] at hi;simp at hi;omega
   subst hib
   have hgi:(bs++[b])[bs.length]=b:=by rw [List.getElem_append_right (Nat.le_refl _)];simp
   rw [hgi] at hk ⊢
   obtain ⟨-,m2,-,-⟩:=z6c (hmay (by omega))
   unfold z1u
   cases ho:opF A b.pid with
   | none =>
    rw [if_pos ⟨hk,rfl⟩]
    refine ⟨⟨b.pid,b.epoch,b.base,-1⟩,?_,rfl,Int.le_refl _⟩
    show (A.op++[_]).find? _=_
    rw [List.find?_append]
    have:A.op.find? (λu=>decide (u.pid=b.pid))=none:=ho
    rw [this]
    simp
   | some t =>
    have hmk:z04 b=false:=by unfold z04;rw [hk];rfl
    rw [if_neg (λh=>by cases h.2),if_neg (λh=>by rw [hmk] at h;cases h.1)]
    refine ⟨t,ho,m2 t ho,?_⟩
    have:=((zqb hh).op t (z6d ho).1).1.first
    omega
def z3i (a:BatM):List BatM->Int
 | []=>0
 | b::r=>if z04 b=true/\b.pid=a.pid/\b.epoch=a.epoch then (if b.kind=2 then 1 else 2) else z3i a r
theorem zff (a b:BatM):∀ s:List BatM,z3i a (s++[b])=if z3i a s≠0 then z3i a s else z3i a [b]
 | []=>by simp [z3i]
 | c::s=>by
  have ih:=zff a b s
  have e:∀ t,z3i a (c::t)=if z04 c=true/\c.pid=a.pid/\c.epoch=a.epoch then (if c.kind=2 then 1 else 2) else z3i a t:=λ_=>rfl
  rw [List.cons_append,e,e]
  by_cases h:z04 c=true/\c.pid=a.pid/\c.epoch=a.epoch
  ·rw [if_pos h,if_pos h]
   split <;> simp
  ·rw [if_neg h,if_neg h,ih]
theorem zq2 (a b:BatM):z3i a [b]=if z04 b=true/\b.pid=a.pid/\b.epoch=a.epoch then (if b.kind=2 then 1 else 2) else 0:=rfl
theorem zhc {bs p s:List BatM} {a b:BatM} (h:bs++[b]=p++a::s):(s=[]/\a=b/\p=bs)\/∃ s',s=s'++[b]/\bs=p++a::s':=by
 rcases List.eq_nil_or_concat s with hs|⟨s',c,hs⟩
 ·subst hs
  left
  have:=List.append_inj' h rfl
  exact ⟨rfl,(List.cons.inj this.2).1.symm,this.1.symm⟩
 ·rw [List.concat_eq_append] at hs
  subst hs
  right
  have h2:bs++[b]=(p++a::s')++[c]:=by rw [h];simp
  have:=List.append_inj' h2 rfl
  exact ⟨s',by rw [(List.cons.inj this.2).1],this.1⟩
theorem z9o {A:ViewA} {b:BatM} (hc:z5h A b=0) :
  (b.kind=1/\opF A b.pid=none/\z1u A b=⟨b.base+zt b,A.op++[⟨b.pid,b.epoch,b.base,-1⟩],A.fa⟩) \/
  (∃ t,z04 b=true/\opF A b.pid=some t/\t.epoch=b.epoch/\((b.kind=3/\z1u A b=⟨b.base+zt b,z35 b.pid A.op,A.fa++[⟨t.pid,t.epoch,t.first,b.base⟩]⟩)\/(b.kind=2/\z1u A b=⟨b.base+zt b,z35 b.pid A.op,A.fa⟩))) \/
  ((z04 b=true->opF A b.pid=none)/\(b.kind=1->∃ t,opF A b.pid=some t/\t.epoch=b.epoch)/\z1u A b=⟨b.base+zt b,A.op,A.fa⟩):=by
 obtain ⟨hv,hbase,hmay⟩:=z5d hc
 have hmk:z04 b=true->b.kind=2\/b.kind=3:=λh=>by
  unfold z04 at h
  simpa using h
 cases ho:opF A b.pid with
 | none =>
  by_cases hk:b.kind=1
  ·left
   refine ⟨hk,rfl,?_⟩
   unfold z1u
   rw [if_pos ⟨hk,by rw [ho];rfl⟩]
  ·right;right
   refine ⟨λ_=>rfl,λh=>absurd h hk,?_⟩
   unfold z1u
   rw [if_neg (λh=>hk h.1),if_neg (λh=>by rw [ho] at h;cases h.2)]
 | some t =>
  by_cases hm:z04 b=true
  ·have hk:=hmk hm
   obtain ⟨-,m2,-,-⟩:=z6c (hmay (by omega))
   right;left
   refine ⟨t,hm,rfl,m2 t ho,?_⟩
   rcases hk with hk|hk
   ·right
    refine ⟨hk,?_⟩
    unfold z1u
    rw [if_neg (λh=>by omega),if_pos ⟨hm,by rw [ho];rfl⟩,if_neg (by omega)]
   ·left
    refine ⟨hk,?_⟩
    unfold z1u
    rw [if_neg (λh=>by omega),if_pos ⟨hm,by rw [ho];rfl⟩,if_pos hk,ho];rfl
  ·right;right
   refine ⟨λh=>absurd h hm,λh=>?_,?_⟩
   ·obtain ⟨-,m2,-,-⟩:=z6c (hmay (by omega))
    exact ⟨t,rfl,m2 t ho⟩
   ·unfold z1u
    rw [if_neg (λh=>by rw [ho] at h;cases h.2),if_neg (λh=>hm h.1)]
theorem zs4 {p s:List BatM} {a:BatM} (h:z3i a s=0):zwu (p++a::s) p.length (p++a::s).length a:=by
 intro k hk hik _ hkey
 have hk2:k-(p.length+1)<s.length:=by simp at hk;omega
 have z2t:(p++a::s)[k]=s[k-(p.length+1)]:=by
  rw [List.getElem_append_right (by omega)]
  have:k-p.length=(k-(p.length+1))+1:=by omega
  simp only [this,List.getElem_cons_succ]
 rw [z2t] at hkey ⊢
 have hall:∀ (s:List BatM),z3i a s=0->∀ c ∈ s,z013 c a->z04 c=false:=by
  intro s
  induction s with
  | nil=>intro _ c hc;cases hc
  | cons c s ih =>
   intro h d hd hkey
   unfold z3i at h
   split at h
   ·split at h <;> cases h
   ·rename_i hn
    rcases List.mem_cons.1 hd with rfl|hd
    ·cases hm:z04 d with
     | false=>rfl
     | true=>exact absurd ⟨hm,hkey.1,hkey.2⟩ hn
    ·exact ih h d hd hkey
 exact hall s h _ (List.getElem_mem hk2) hkey
theorem zyu {bs:List BatM} {A:ViewA} (h:Hist bs A) {p s:List BatM} {a:BatM} (hb:bs=p++a::s) (hk:a.kind=1) (he:z3i a s=0):∃ t,opF A a.pid=some t/\t.epoch=a.epoch/\t.first<=a.base:=by
 subst hb
 have hi:p.length<(p++a::s).length:=by simp
 have z2t:(p++a::s)[p.length]=a:=by simp
 have:=z0al h p.length hi (by rw [z2t];exact hk) (by rw [z2t];exact zs4 he)
 rwa [z2t] at this
theorem z0am {bs:List BatM} {A:ViewA} (h:Hist bs A):∀ p a s,bs=p++a::s->a.kind=1->z3i a s=2->∃ t ∈ A.fa,t.pid=a.pid/\t.epoch=a.epoch/\t.first<=a.base:=by
 induction h with
 | nil=>intro p a s h;simp at h
 | @snoc bs A b hh hc ih =>
  intro p a s hb hk he
  have hfa:∀ t ∈ A.fa,t ∈ (z1u A b).fa:=λt ht=>by
   rcases z9o hc with ⟨h1,h2,h3⟩|⟨u,h1,h2,h3,⟨-,h4⟩|⟨-,h4⟩⟩|⟨h1,h2,h3⟩
   ·rw [h3];exact ht
   ·rw [h4];exact List.mem_append_left _ ht
   ·rw [h4];exact ht
   ·rw [h3];exact ht
  rcases zhc hb with ⟨rfl,rfl,rfl⟩|⟨s',rfl,hb'⟩
  ·cases he
  ·rw [zff] at he
   by_cases h0:z3i a s'≠0
   ·rw [if_pos h0] at he
    obtain ⟨t,h1,h2⟩:=ih p a s' hb' hk he
    exact ⟨t,hfa t h1,h2⟩
   ·rw [if_neg h0,zq2] at he
    have h0:z3i a s'=0:=Decidable.not_not.1 h0
    split at he
    ·rename_i hm
     split at he
     ·cases he
     ·rename_i hk2
      obtain ⟨t,g1,g2,g3⟩:=zyu hh hb' hk h0
      rw [<- hm.2.1] at g1
      rcases z9o hc with ⟨h1,h2,h3⟩|⟨u,h1,h2,h3,⟨-,h4⟩|⟨h5,h4⟩⟩|⟨h1,h2,h3⟩
      ·rw [h2] at g1;cases g1
      ·rw [h2] at g1
       obtain rfl:=Option.some.inj g1
       refine ⟨⟨u.pid,u.epoch,u.first,b.base⟩,by rw [h4];simp,?_,g2,g3⟩
       show u.pid=a.pid
       rw [(z6d h2).2,hm.2.1]
      ·exact absurd h5 hk2
      ·rw [h1 hm.1] at g1;cases g1
    ·cases he
theorem z0an {bs:List BatM} {A:ViewA} (h:Hist bs A):∀ p a s,bs=p++a::s->a.kind=1->z3i a s=1->∀ t,(t ∈ A.op\/t ∈ A.fa)->t.pid=a.pid->t.epoch=a.epoch->a.base<t.first:=by
 induction h with
 | nil=>intro p a s h;simp at h
 | @snoc bs A b hh hc ih =>
  intro p a s hb hk he
  obtain ⟨hv,hbase,hmay⟩:=z5d hc
  rcases zhc hb with ⟨rfl,rfl,rfl⟩|⟨s',rfl,hb'⟩
  ·cases he
  ·have hlt:a.base<A.next:=(zwe hh).2 a (by rw [hb'];simp)
   rw [zff] at he
   by_cases h0:z3i a s'≠0
   ·rw [if_pos h0] at he
    have ih:=ih p a s' hb' hk he
    intro t ht htp hte
    rcases z9o hc with ⟨h1,h2,h3⟩|⟨u,h1,h2,h3,⟨-,h4⟩|⟨-,h4⟩⟩|⟨h1,h2,h3⟩
    ·rw [h3] at ht
     rcases ht with ht|ht
     ·rcases List.mem_append.1 ht with ht|ht
      ·exact ih t (.inl ht) htp hte
      ·rw [List.mem_singleton.1 ht];show a.base<b.base;omega
     ·exact ih t (.inr ht) htp hte
    ·rw [h4] at ht
     rcases ht with ht|ht
     ·exact ih t (.inl (List.mem_filter.1 ht).1) htp hte
     ·rcases List.mem_append.1 ht with ht|ht
      ·exact ih t (.inr ht) htp hte
      ·rw [List.mem_singleton.1 ht] at htp hte ⊢
       exact ih u (.inl (z6d h2).1) htp hte
    ·rw [h4] at ht
     rcases ht with ht|ht
     ·exact ih t (.inl (List.mem_filter.1 ht).1) htp hte
     ·exact ih t (.inr ht) htp hte
    ·rw [h3] at ht
     exact ih t ht htp hte
   ·rw [if_neg h0,zq2] at he
    have h0:z3i a s'=0:=Decidable.not_not.1 h0
    split at he
    ·rename_i hm
     split at he
     ·rename_i hk2
      obtain ⟨t,g1,g2,g3⟩:=zyu hh hb' hk h0
      rw [<- hm.2.1] at g1
      obtain ⟨m1,-,-,-⟩:=z6c (hmay (by omega))
      intro t2 ht htp hte
      rcases z9o hc with ⟨h1,h2,h3⟩|⟨u,h1,h2,h3,⟨h5,h4⟩|⟨h5,h4⟩⟩|⟨h1,h2,h3⟩
      ·rw [h2] at g1;cases g1
      ·omega
      ·rw [h4] at ht
       rcases ht with ht|ht
       ·have:=(List.mem_filter.1 ht).2
        simp at this
        exact absurd (htp.trans hm.2.1.symm) this
       ·exact absurd ⟨htp.trans hm.2.1.symm,hte.trans hm.2.2.symm⟩ (z8b m1 t2 ht)
      ·rw [h1 hm.1] at g1;cases g1
     ·cases he
    ·cases he
theorem zsc {bs:List BatM} {A:ViewA} (h:Hist bs A):∀ b ∈ bs,z07 b=0:=by
 induction h with
 | nil=>intro b hb;cases hb
 | snoc _ hc ih =>
  intro c hcm
  rcases List.mem_append.1 hcm with hcm|hcm
  ·exact ih c hcm
  ·rw [List.mem_singleton.1 hcm];exact (z5d hc).1
theorem zj0 (a:BatM):∀ s:List BatM,z3i a s=0\/z3i a s=1\/z3i a s=2
 | []=>.inl rfl
 | b::s=>by
  unfold z3i
  split
  ·split
   ·exact .inr (.inl rfl)
   ·exact .inr (.inr rfl)
  ·exact zj0 a s
theorem zyl {bs p s:List BatM} {a:BatM} {A:ViewA} (h:Hist bs A) (hb:bs=p++a::s):z3n A a=1↔(a.base<z2m A/\z04 a=false/\(a.kind=0\/z3i a s=1)):=by
 have hok:=zqb h
 have hv:=zsc h a (by rw [hb];simp)
 have hk:=(z16 a hv).2.2.1.1
 unfold z3n
 by_cases hm:z04 a=true
 ·rw [if_pos hm]
  simp [hm]
 rw [if_neg hm]
 have hm':z04 a=false:=by simpa using hm
 by_cases hs:a.base>=z2m A
 ·rw [if_pos hs]
  constructor
  ·intro h;cases h
  ·intro h;omega
 rw [if_neg hs]
 have hk01:a.kind=0\/a.kind=1:=by
  unfold z04 at hm'
  simp at hm'
  omega
 rcases hk01 with hk0|hk1
 ·rw [if_neg (λh=>by omega)]
  exact ⟨λ_=>⟨by omega,hm',.inl hk0⟩,λ_=>rfl⟩
 rcases zj0 a s with he|he|he
 ·obtain ⟨t,g1,g2,g3⟩:=zyu h hb hk1 he
  have:=(zxi hok).2 t (z6d g1).1
  omega
 ·have hd:=z0an h p a s hb hk1 he
  rw [if_neg]
  ·exact ⟨λ_=>⟨by omega,hm',.inr he⟩,λ_=>rfl⟩
  ·rintro ⟨-,h2,h3⟩
   obtain ⟨t,ht⟩:=Option.isSome_iff_exists.1 h2
   rw [ht] at h3
   obtain ⟨g1,g2,g3⟩:=z9z ht
   have h4:=hd t (.inr g1) g2 g3
   have h3:a.base>=t.first:=h3
   omega
 ·obtain ⟨t,g1,g2,g3,g4⟩:=z0am h p a s hb hk1 he
  rw [if_pos]
  ·constructor
   ·intro h;cases h
   ·rintro ⟨-,-,h|h⟩ <;> omega
  ·cases hf:faF A a.pid a.epoch with
   | none=>exact absurd ⟨g2,g3⟩ (z8b hf t g1)
   | some u =>
    refine ⟨hk1,rfl,?_⟩
    obtain ⟨f1,f2,f3⟩:=z9z hf
    have:u=t:=by
     have hkk:∀ {l:List TxnA},(l.map λt=>(t.pid,t.epoch)).Nodup->u ∈ l->t ∈ l->u=t:=λ{l} hnd h5 h6=>by
      induction l with
      | nil=>cases h5
      | cons c r ihl =>
       rw [List.map_cons,List.nodup_cons] at hnd
       rcases List.mem_cons.1 h5 with e5|m5 <;> rcases List.mem_cons.1 h6 with e6|m6
       ·exact e5.trans e6.symm
       ·exact absurd (List.mem_map.2 ⟨t,m6,by rw [<- e5,f2,f3,g2,g3]⟩) hnd.1
       ·exact absurd (List.mem_map.2 ⟨u,m5,by rw [<- e6,f2,f3,g2,g3]⟩) hnd.1
       ·exact ihl hnd.2 m5 m6
     exact hkk hok.keys f1 g1
    show a.base>=u.first
    rw [this];exact g4
structure InvQ (q:ByteArray) (A:PartA) (D:DiskA) (d:Nat):Prop where
 cpl:Cpl q A.L.l D
 calm:Calm D
 pre:A.L.pre=q
 dd:A.L.d=d
 hist:Hist (z0d A.L.l) A.V
 nxt:A.V.next<=zy A.L.l
 fst:z0t A.L.l=0
theorem znf {seg:Int} {l:List SegA} {bs:List BatM} (h:z0t l=0):z0t (z5x seg l bs).2=0:=by
 unfold z5x
 split
 ·exact h
 split
 ·exact h
 show z0t (if _ then _ else _)=0
 cases l with
 | nil=>rfl
 | cons s r =>
  have hs:s.base=0:=h
  split
  ·unfold z6o
   cases hq:(s::r).getLast? with
   | none=>exact h
   | some t =>
    cases r with
    | nil =>
     have:t=s:=by simpa using hq.symm
     subst this
     exact hs
    | cons u r=>exact hs
  ·exact hs
theorem zyv (q:ByteArray) (d n:Nat) (hn:n<=4194304) (seg gap most:Int):InvQ q (z41 ⟨d,q,seg,gap,[]⟩ most) ⟨n,-1,false,[]⟩ d :=
 ⟨zd2 q n hn,⟨rfl,rfl⟩,rfl,rfl,.nil,Int.le_refl _,rfl⟩
theorem zzo {n:Int} {c:BatM} (hv:z07 (c.to n)=0):z05 n [c]=(0,[c.to n]):=by
 unfold z05
 rw [if_neg (by rw [hv];simp)]
 rfl
theorem zyw {q:ByteArray} {A:PartA} {D:DiskA} {d:Nat} (hq:z5n q=true) (b:BatM) (h:InvQ q A D d) :
  InvQ q (z09 A D b).2.1 (z09 A D b).2.2 d/\(((z09 A D b).2.1.L.l=A.L.l/\(z09 A D b).2.1.V=A.V/\((z09 A D b).1.2.2≠0\/(z09 A D b).1.2.1=true)) \/
   ∃ c,z5h A.V c=0/\z0d (z09 A D b).2.1.L.l=z0d A.L.l++[c]/\(z09 A D b).2.1.V=z1u A.V c/\c.rs=b.rs/\c=(b.to (zy A.L.l)).p/\(z09 A D b).1=(zy A.L.l,false,0)/\zy (z09 A D b).2.1.L.l=c.base+zt c):=by
 have hpre:z5n A.L.pre=true:=by rw [h.pre];exact hq
 have hcp:Cpl A.L.pre A.L.l D:=by rw [h.pre];exact h.cpl
 unfold z09
 split
 ·rename_i hn
  exact ⟨h,.inl ⟨rfl,rfl,hn⟩⟩
 rename_i hn
 have hask:(zaz A (b.to (zy A.L.l))).2=0:=Classical.byContradiction λg=>hn (.inl g)
 have hcode:z5h A.V (b.to (zy A.L.l))=0:=by
  unfold zaz at hn hask
  by_cases g:(z1p A.T (b.to (zy A.L.l))).2≠0\/(z1p A.T (b.to (zy A.L.l))).1.again=true
  ·rw [if_pos g] at hn;exact absurd g hn
  ·rw [if_neg g] at hask;exact hask
 obtain ⟨hv,hbase,-⟩:=z5d hcode
 obtain ⟨c,hc⟩:∃ c,c=b.to (zy A.L.l):=⟨_,rfl⟩
 have hcn:c.to (zy A.L.l)=c:=by rw [hc];rfl
 have hcb:c.base=zy A.L.l:=by rw [hc];rfl
 have hcr:c.rs=b.rs:=by rw [hc];rfl
 rw [<- hc] at hcode hv ⊢
 have hst:=zlx A.L.seg [c] hpre hcp
 have hcalm:=hst.2.2.2.2 h.calm
 have hpl:z05 (zy A.L.l) [c]=(0,[c]):=by rw [zzo (by rw [hcn];exact hv),hcn]
 have hall:=z000 (seg:=A.L.seg) (bs:=[c]) hcp.segs (by simp) (by rw [hpl])
 rw [hpl] at hall
 have hfst:=znf (seg:=A.L.seg) (bs:=[c]) h.fst
 unfold zl0
 rcases zgr A.L.pre A.L.seg A.L.l D [c] with ⟨h1,h2⟩|⟨h1,h2,h3,h4⟩
 ·have e:(z5x A.L.seg A.L.l [c]).1=(zy A.L.l,0):=by
   unfold z5x
   rw [if_neg (by simp),if_neg (by rw [hpl];simp)]
  rw [if_neg (by rw [h1,e];simp)]
  obtain ⟨y1,y2,y3,y4,y5⟩:=zap hst.1
  rw [if_neg (by rw [y5 hcalm];simp)]
  have e2:c.to (z13 A.L.pre A.L.seg A.L.l D [c]).1.1=c:=by rw [h1,e];exact hcn
  rw [e2]
  have hal:z0d (z13 A.L.pre A.L.seg A.L.l D [c]).2.1=z0d A.L.l++[c.p]:=by rw [h2];exact hall.1
  have hnx:zy (z13 A.L.pre A.L.seg A.L.l D [c]).2.1=c.base+zt c:=by rw [h2];exact hall.2
  have htk:(zaw A.V c).2=z1u A.V c.p:=by
   unfold zaw
   rw [if_neg (by rw [hcode];simp)]
   rfl
  have hcp2:z5h A.V c.p=0:=hcode
  refine ⟨⟨by rw [h.pre] at y1;rw [h.pre];exact y1,zgw hcalm _ _,h.pre,h.dd,?_,?_,?_⟩,.inr ⟨c.p,hcp2,hal,htk,hcr,rfl,by rw [h1,e],hnx⟩⟩
  ·show Hist (z0d (z13 A.L.pre A.L.seg A.L.l D [c]).2.1) (zaw A.V c).2
   rw [hal,htk]
   exact .snoc h.hist hcp2
  ·show (zaw A.V c).2.next<=zy (z13 A.L.pre A.L.seg A.L.l D [c]).2.1
   rw [htk,hnx,zk4]
   exact Int.le_refl _
  ·show z0t (z13 A.L.pre A.L.seg A.L.l D [c]).2.1=0
   rw [h2]
   exact hfst
 ·rw [if_pos h2]
  refine ⟨⟨?_,hcalm,h.pre,h.dd,?_,?_,?_⟩,.inl ⟨h3,rfl,.inl h2⟩⟩
  ·have:=hst.1
   rw [h.pre] at this ⊢
   exact this
  ·show Hist (z0d (z13 A.L.pre A.L.seg A.L.l D [c]).2.1) A.V
   rw [h3];exact h.hist
  ·show A.V.next<=zy (z13 A.L.pre A.L.seg A.L.l D [c]).2.1
   rw [h3];exact h.nxt
  ·show z0t (z13 A.L.pre A.L.seg A.L.l D [c]).2.1=0
   rw [h3];exact h.fst
theorem zgx {a b:ByteArray} (h:ltS a b=true):a≠b:=λe=>by rw [e,z80] at h;cases h
theorem zhx {l:List AtM} {k:ByteArray} {a:AtM} (hs:z60 l):z0u l k=some a↔a ∈ l/\a.r.key=k:=by
 unfold z0u
 constructor
 ·intro h
  split at h
  ·rename_i ht
   obtain ⟨hi,hk⟩:=z6k.1 ht
   rw [List.getElem?_eq_getElem hi] at h
   obtain rfl:=Option.some.inj h
   exact ⟨List.getElem_mem hi,hk⟩
  ·cases h
 ·rintro ⟨hm,hk⟩
  obtain ⟨h1,h2⟩:=z7w (k:=k) hs
  have hm':a ∈ l.take (z0e l k)++l.drop (z0e l k):=by rw [List.take_append_drop];exact hm
  rcases List.mem_append.1 hm' with hm|hm
  ·exact absurd hk (zgx (h1 a hm))
  ·by_cases hi:z0e l k<l.length
   ·have hd:(l.drop (z0e l k)).Pairwise λa b=>ltS a.r.key b.r.key=true:=hs.sublist (List.drop_sublist ..)
    rw [List.drop_eq_getElem_cons hi] at hm h2 hd
    rcases List.mem_cons.1 hm with rfl|hm
    ·rw [if_pos (z6k.2 ⟨hi,hk⟩),List.getElem?_eq_getElem hi]
    ·have:=(List.pairwise_cons.1 hd).1 a hm
     rw [hk,h2 _ (List.mem_cons_self ..)] at this;cases this
   ·rw [List.drop_eq_nil_of_le (by omega)] at hm;cases hm
theorem zqn {T:TbC} {r x:AtM} (hs:z60 T.l):x ∈ (z2i T r).l↔(x=r/\r.r.gone=false)\/(x ∈ T.l/\x.r.key≠r.r.key):=by
 obtain ⟨h1,h2⟩:=z7w (k:=r.r.key) hs
 have h1:∀ a ∈ T.l.take (z0e T.l r.r.key),a.r.key≠r.r.key:=λa ha=>zgx (h1 a ha)
 have hl:x ∈ T.l↔x ∈ T.l.take (z0e T.l r.r.key)\/x ∈ T.l.drop (z0e T.l r.r.key):=by
  rw [<- List.mem_append,List.take_append_drop]
 unfold z2i
 by_cases ht:z3k T.l r.r.key=true
 ·obtain ⟨hi,hk⟩:=z6k.1 ht
  have hd:(T.l.drop (z0e T.l r.r.key)).Pairwise λa b=>ltS a.r.key b.r.key=true:=hs.sublist (List.drop_sublist ..)
  rw [List.drop_eq_getElem_cons hi] at hd hl
  have h3:∀ a ∈ T.l.drop (z0e T.l r.r.key+1),a.r.key≠r.r.key:=λa ha e=>by
   have:=(List.pairwise_cons.1 hd).1 a ha
   rw [hk] at this
   exact zgx this e.symm
  rw [if_pos ht,hl]
  by_cases hg:r.r.gone=true
  ·rw [if_pos hg]
   simp only [List.mem_append,List.mem_cons,hg,Bool.true_eq_false,and_false,false_or]
   constructor
   ·rintro (h|h)
    ·exact ⟨.inl h,h1 _ h⟩
    ·exact ⟨.inr (.inr h),h3 _ h⟩
   ·rintro ⟨h|h|h,hne⟩
    ·exact .inl h
    ·exact absurd (by rw [h];exact hk) hne
    ·exact .inr h
  ·have hg:r.r.gone=false:=by simpa using hg
   rw [if_neg (by rw [hg];simp),List.set_eq_take_append_cons_drop,if_pos hi]
   simp only [List.mem_append,List.mem_cons,hg,and_true]
   constructor
   ·rintro (h|h|h)
    ·exact .inr ⟨.inl h,h1 _ h⟩
    ·exact .inl h
    ·exact .inr ⟨.inr (.inr h),h3 _ h⟩
   ·rintro (h|⟨h|h|h,hne⟩)
    ·exact .inr (.inl h)
    ·exact .inl h
    ·exact absurd (by rw [h];exact hk) hne
    ·exact .inr (.inr h)
 ·have ht:z3k T.l r.r.key=false:=by simpa using ht
  have h3:∀ a ∈ T.l.drop (z0e T.l r.r.key),a.r.key≠r.r.key:=λa ha=>(zgx (zq6 hs ht a ha)).symm
  rw [if_neg (by rw [ht];simp)]
  by_cases hg:r.r.gone=true
  ·rw [if_pos hg]
   simp only [hg,Bool.true_eq_false,and_false,false_or]
   constructor
   ·intro h
    refine ⟨h,?_⟩
    rcases hl.1 h with h|h
    ·exact h1 _ h
    ·exact h3 _ h
   ·exact λh=>h.1
  ·have hg:r.r.gone=false:=by simpa using hg
   rw [if_neg (by rw [hg];simp),hl]
   simp only [List.mem_append,List.mem_cons,hg,and_true]
   constructor
   ·rintro (h|h|h)
    ·exact .inr ⟨.inl h,h1 _ h⟩
    ·exact .inl h
    ·exact .inr ⟨.inr h,h3 _ h⟩
   ·rintro (h|⟨h|h,hne⟩)
    ·exact .inr (.inl h)
    ·exact .inl h
    ·exact .inr (.inr h)
theorem z049 {T:TbC} {r:AtM} (hs:z60 T.l) (k:ByteArray):z0u (z2i T r).l k=if r.r.key=k then (if r.r.gone=true then none else some r) else z0u T.l k:=by
 apply Option.ext
 intro a
 rw [zhx (zg0 r hs),zqn hs]
 by_cases hk:r.r.key=k
 ·rw [if_pos hk]
  by_cases hg:r.r.gone=true
  ·rw [if_pos hg]
   simp only [hg,Bool.true_eq_false,and_false,false_or,reduceCtorEq,iff_false]
   rintro ⟨⟨h,h1⟩,h2⟩
   exact h1 (h2.trans hk.symm)
  ·rw [if_neg hg]
   have hg:r.r.gone=false:=by simpa using hg
   simp only [hg,and_true,Option.some.injEq]
   constructor
   ·rintro ⟨h|⟨h,h1⟩,h2⟩
    ·exact h.symm
    ·exact absurd (h2.trans hk.symm) h1
   ·rintro rfl
    exact ⟨.inl rfl,hk⟩
 ·rw [if_neg hk,zhx hs]
  constructor
  ·rintro ⟨⟨h,-⟩|⟨h,h1⟩,h2⟩
   ·rw [h] at h2;exact absurd h2 hk
   ·exact ⟨h,h2⟩
  ·rintro ⟨h,h2⟩
   exact ⟨.inr ⟨h,λe=>hk (e.symm.trans h2)⟩,h2⟩
def oP:ByteArray:=ByteArray.mk #[111]
def zay (bs:List BatM) (r:RecM):Prop:=∃ p b s,bs=p++b::s/\r ∈ b.rs/\∃ m ∈ s,m.kind=2/\m.pid=b.pid/\m.epoch=b.epoch
theorem zay.more {bs:List BatM} {r:RecM} (h:zay bs r) (cs:List BatM):zay (bs++cs) r:=by
 obtain ⟨p,b,s,rfl,h1,m,h2,h3⟩:=h
 exact ⟨p,b,s++cs,by simp,h1,m,List.mem_append_left _ h2,h3⟩
theorem zw4 {a:BatM}:∀ {s:List BatM},z3i a s=1->∃ m ∈ s,m.kind=2/\m.pid=a.pid/\m.epoch=a.epoch
 | [],h=>by cases h
 | b::r,h=>by
  have h:(if z04 b=true/\b.pid=a.pid/\b.epoch=a.epoch then (if b.kind=2 then 1 else 2) else z3i a r)=1:=h
  by_cases hm:z04 b=true/\b.pid=a.pid/\b.epoch=a.epoch
  ·rw [if_pos hm] at h
   by_cases hk:b.kind=2
   ·exact ⟨b,List.mem_cons_self ..,hk,hm.2⟩
   ·rw [if_neg hk] at h;cases h
  ·rw [if_neg hm] at h
   obtain ⟨m,h1,h2⟩:=zw4 h
   exact ⟨m,List.mem_cons_of_mem _ h1,h2⟩
theorem zjn {A:PartA} {a:AtM}:∀ (bs:List BatM) (n:Int),a ∈ (z2j A true n bs).1->∃ b ∈ bs,z3n A.V b=1/\a ∈ z2d b
 | [],n,h=>by cases h
 | b::bs,n,h=>by
  by_cases hs:true=true/\b.base>=z3a A
  ·rw [z96 hs] at h;cases h
  rw [zbi hs] at h
  rcases List.mem_append.1 h with h|h
  ·split at h
   ·rename_i hf
    rcases hf with hf|hf
    ·cases hf
    ·exact ⟨b,List.mem_cons_self ..,hf,h⟩
   ·cases h
  ·obtain ⟨d,h1,h2⟩:=zjn bs _ h
   exact ⟨d,List.mem_cons_of_mem _ h1,h2⟩
theorem zjp {A:PartA} {m:Int}:∀ (bs:List BatM) (n:Int),(0<=n/\n<=m)->(∀ b ∈ bs,0<=z1d b/\z1d b<=m)->0<=(z2j A true n bs).2/\(z2j A true n bs).2<=m
 | [],n,h,_=>h
 | b::bs,n,h,hb=>by
  by_cases hs:true=true/\b.base>=z3a A
  ·rw [z96 hs];exact h
  rw [zbi hs]
  exact zjp bs _ (hb b (List.mem_cons_self ..)) λc hc=>hb c (List.mem_cons_of_mem _ hc)
theorem z04o (b:BatM):0<=z1d b/\z1d b<=2199023255552:=by
 unfold z1d
 split
 ·omega
 ·rename_i h
  have hv:z07 b=0:=by omega
  obtain ⟨s1,s2,hnum,-,s5⟩:=z16 b hv
  have h0:=hnum.2.1
  have hl:=(z1q hv).1
  omega
theorem zjo {A:PartA} {c:Bool}:∀ (bs:List BatM) (n:Int),(∀ b ∈ bs,b.rs.length<=64)->(z2j A c n bs).1.length<=bs.length*64
 | [],n,_=>Nat.zero_le _
 | b::bs,n,h=>by
  by_cases hs:c=true/\b.base>=z3a A
  ·rw [z96 hs];exact Nat.zero_le _
  rw [zbi hs]
  have h1:=zjo (A:=A) (c:=c) bs (z1d b) λd hd=>h d (List.mem_cons_of_mem _ hd)
  have h2:=zd8 b
  have h3:=h b (List.mem_cons_self ..)
  show (_++_:List AtM).length<=_
  rw [List.length_append,List.length_cons]
  have h4:(if c=false\/z3n A.V b=1 then z2d b else []).length<=64:=by
   split
   ·omega
   ·exact Nat.zero_le _
  omega
theorem zsy {l:List SegA} {off most:Int} {b:BatM} (h:b ∈ (z3h l off most).2):∃ c ∈ z0d l,z0k off c=some b:=by
 unfold z3h at h
 split at h
 ·cases h
 split at h
 ·cases h
 ·obtain ⟨c,hc,hf⟩:=List.mem_filterMap.1 (List.mem_of_mem_take h)
  exact ⟨c,hc,hf⟩
structure TabK (bs:List BatM) (C:TbC):Prop where
 sort:z60 C.l
 held:∀ a ∈ C.l,(∃ c,z3r a.r c)/\zay bs a.r
theorem zxk {bs cs:List BatM} {C:TbC} (h:TabK bs C):TabK (bs++cs) C:=⟨h.sort,λa ha=>⟨(h.held a ha).1,(h.held a ha).2.more cs⟩⟩
theorem zn6 (C:TbC) (a:AtM):z28 C a=C\/((∃ c,z3r a.r c)/\z28 C a=z2i C a):=by
 unfold z28
 split
 ·rename_i h
  obtain ⟨c,hc⟩:=Option.isSome_iff_exists.1 h
  unfold z72
  split
  ·exact .inl rfl
  ·exact .inr ⟨⟨c,zca.1 hc⟩,rfl⟩
 ·exact .inl rfl
theorem zvo {bs:List BatM} {C:TbC} {a:AtM} (ha:zay bs a.r) (h:TabK bs C):TabK bs (z28 C a)/\∀ k,(z0u C.l k).isSome=true->(z0u (z28 C a).l k).isSome=true:=by
 rcases zn6 C a with e|⟨⟨c,hc⟩,e⟩
 ·rw [e];exact ⟨h,λ_ h=>h⟩
 ·rw [e]
  refine ⟨⟨zg0 a h.sort,λx hx=>?_⟩,λk hk=>?_⟩
  ·rcases (zqn h.sort).1 hx with ⟨rfl,-⟩|⟨h1,-⟩
   ·exact ⟨⟨c,hc⟩,ha⟩
   ·exact h.held x h1
  ·rw [z049 h.sort]
   split
   ·rw [if_neg (by rw [hc.2.2.2];simp)];rfl
   ·exact hk
theorem zga {bs:List BatM}:∀ (xs:List AtM) {C:TbC},(∀ a ∈ xs,zay bs a.r)->TabK bs C->TabK bs (xs.foldl z28 C)/\∀ k,(z0u C.l k).isSome=true->(z0u (xs.foldl z28 C).l k).isSome=true
 | [],C,_,h=>⟨h,λ_ h=>h⟩
 | x::xs,C,hx,h=>by
  obtain ⟨h1,h2⟩:=zvo (hx x (List.mem_cons_self ..)) h
  obtain ⟨h3,h4⟩:=zga xs (λa ha=>hx a (List.mem_cons_of_mem _ ha)) h1
  rw [List.foldl_cons]
  exact ⟨h3,λk hk=>h4 k (h2 k hk)⟩
structure InvH (M:OffA) (D:DiskA) (d n k:Nat):Prop where
 q:InvQ oP M.A D d
 kind:∀ b ∈ z0d M.A.L.l,b.kind≠0
 many:(z0d M.A.L.l).length<=n
 at_:0<=M.at_/\M.at_<=2199023255552
 tab:TabK (z0d M.A.L.l) M.C
 len:M.C.l.length<=k
theorem zlw {M:OffA} {D:DiskA} {d n k:Nat} {b:BatM} (hb:b.kind≠0) (h:InvH M D d n k):InvH (z95 M (z09 M.A D b)) (z09 M.A D b).2.2 d (n+1) k:=by
 have hq:z5n oP=true:=by kernel_rfl
 obtain ⟨i1,i2⟩:=zyw hq b h.q
 have hm:=h.many
 rcases i2 with ⟨j1,-⟩|⟨c,-,j2,-,-,j5,-⟩
 ·exact ⟨i1,by show ∀ b' ∈ z0d (z09 M.A D b).2.1.L.l,_;rw [j1];exact h.kind,by show (z0d (z09 M.A D b).2.1.L.l).length<=_;rw [j1];omega,h.at_,by show TabK (z0d (z09 M.A D b).2.1.L.l) M.C;rw [j1];exact h.tab,h.len⟩
 ·refine ⟨i1,?_,?_,h.at_,?_,h.len⟩
  ·show ∀ b' ∈ z0d (z09 M.A D b).2.1.L.l,_
   rw [j2]
   intro b' hb'
   rcases List.mem_append.1 hb' with hb'|hb'
   ·exact h.kind b' hb'
   ·rw [List.mem_singleton.1 hb',j5];exact hb
  ·show (z0d (z09 M.A D b).2.1.L.l).length<=_
   rw [j2,List.length_append];simp only [List.length_singleton];omega
  ·show TabK (z0d (z09 M.A D b).2.1.L.l) M.C
   rw [j2];exact zxk h.tab
theorem zyk {V:ViewA} {b c:BatM} (h1:c.base<=b.base) (h2:b.pid=c.pid) (h3:b.epoch=c.epoch) (h4:b.kind=c.kind) (hf:z3n V b=1):z3n V c=1:=by
 have hm:z04 b=z04 c:=by unfold z04;rw [h4]
 unfold z3n at hf ⊢
 rw [hm,h2,h3,h4] at hf
 by_cases g1:z04 c=true
 ·rw [if_pos g1] at hf;cases hf
 rw [if_neg g1] at hf ⊢
 by_cases g2:b.base>=z2m V
 ·rw [if_pos g2] at hf;cases hf
 rw [if_neg g2] at hf
 rw [if_neg (by omega)]
 by_cases g3:c.kind=1/\(faF V c.pid c.epoch).isSome=true/\b.base>=((faF V c.pid c.epoch).getD ⟨0,0,0,0⟩).first
 ·rw [if_pos g3] at hf;cases hf
 ·rw [if_neg λg=>g3 ⟨g.1,g.2.1,by have:=g.2.2;omega⟩]
theorem z048 {off:Int} {b c:BatM} (h:z0k off c=some b):c.base<=b.base/\b.pid=c.pid/\b.epoch=c.epoch/\b.kind=c.kind/\(∀ r ∈ b.rs,r ∈ c.rs):=by
 unfold z0k at h
 split at h
 ·cases h
 split at h
 ·cases h;exact ⟨Int.le_refl _,rfl,rfl,rfl,λr h=>h⟩
 ·rename_i hno
  have hlt:c.base<off:=by
   rcases Int.lt_or_le c.base off with h|h
   ·exact h
   ·exact absurd (.inr h) hno
  cases h
  refine ⟨?_,rfl,rfl,rfl,λr h=>List.mem_of_mem_drop h⟩
  show c.base<=c.base+((off-c.base).toNat:Int)
  omega
theorem z04a {bs:List BatM} {V:ViewA} {c:BatM} {r:RecM} (h:Hist bs V) (hc:c ∈ bs) (hk:c.kind≠0) (hf:z3n V c=1) (hr:r ∈ c.rs):zay bs r:=by
 obtain ⟨p,s,hb⟩:=List.append_of_mem hc
 obtain ⟨-,-,h3⟩:=(zyl h hb).1 hf
 rcases h3 with h3|h3
 ·exact absurd h3 hk
 ·exact ⟨p,c,s,hb,hr,zw4 h3⟩
theorem zst {A:PartA} {D:DiskA} {d:Nat} {off:Int} (h:InvQ oP A D d) (hk:∀ b ∈ z0d A.L.l,b.kind≠0):∀ a ∈ (z17 A off 1099511627776 true).1.1,zay (z0d A.L.l) a.r:=λa ha=>by
 unfold z17 at ha
 split at ha
 ·cases ha
 ·obtain ⟨b,h1,h2,h3⟩:=zjn _ _ ha
  obtain ⟨c,h4,h5⟩:=zsy h1
  obtain ⟨g1,g2,g3,g4,g5⟩:=z048 h5
  exact z04a h.hist h4 (hk c h4) (zyk g1 g2 g3 g4 h2) (g5 _ (zlp h3))
theorem zcb {A:PartA} {D:DiskA} {d n:Nat} {off:Int} (h:InvQ oP A D d) (hn:(z0d A.L.l).length<=n):(z17 A off 1099511627776 true).1.1.length<=n*64:=by
 unfold z17
 split
 ·exact Nat.zero_le _
 ·have h1:=zjo (A:=A) (c:=true) (z3h A.L.l off 1099511627776).2 off λb hb=>zmk h.cpl.segs hb
  have h2:=zjs A.L.l off 1099511627776
  have h3:(z3h A.L.l off 1099511627776).2.length*64<=n*64:=Nat.mul_le_mul_right _ (by omega)
  exact Nat.le_trans h1 h3
theorem zjd {M:OffA} {D:DiskA} {d n k:Nat} (h:InvH M D d n k):InvH (z56 M) D d n (k+n*64)/\∀ key,(z0u M.C.l key).isSome=true->(z0u (z56 M).C.l key).isSome=true:=by
 have hl:=h.len
 unfold z56
 split
 ·exact ⟨⟨h.q,h.kind,h.many,h.at_,h.tab,by omega⟩,λ_ h=>h⟩
 ·have h1:=zga (bs:=z0d M.A.L.l) (z17 M.A M.at_ 1099511627776 true).1.1 (zst h.q h.kind) h.tab
  have h2:=zbr (z17 M.A M.at_ 1099511627776 true).1.1 M.C
  have h3:=zcb (off:=M.at_) h.q h.many
  refine ⟨⟨h.q,h.kind,h.many,?_,h1.1,by show ((z17 M.A M.at_ 1099511627776 true).1.1.foldl z28 M.C).l.length<=_;omega⟩,h1.2⟩
  show 0<=(z17 M.A M.at_ 1099511627776 true).1.2/\(z17 M.A M.at_ 1099511627776 true).1.2<=_
  unfold z17
  split
  ·show (0:Int)<=0/\(0:Int)<=_;omega
  ·exact zjp _ _ h.at_ λb _=>z04o b
theorem zfg:∀ (xs:List AtM) (C:TbC),endsK C xs=true
 | [],_=>rfl
 | x::xs,C=>by
  show (okK C x && endsK (z28 C x) xs)=true
  rw [zfg xs]
  show ((z6y x.r).isNone || true) && true=true
  simp
def z87 (C:TbC):List ComM:=C.l.map λa=>(z6y a.r).getD com0
theorem zkz {bs:List BatM} {C:TbC} (h:TabK bs C) {c:ComM} (hc:c ∈ z87 C):∃ r,z3r r c/\zay bs r/\(z0u C.l (z11 c.part)).isSome=true:=by
 obtain ⟨a,ha,rfl⟩:=List.mem_map.1 hc
 obtain ⟨⟨c,hk⟩,hh⟩:=h.held a ha
 rw [zca.2 hk]
 refine ⟨a.r,hk,hh,?_⟩
 have:=(zhx (k:=z11 c.part) h.sort).2 ⟨ha,hk.2.1⟩
 show (z0u C.l (z11 c.part)).isSome=true
 rw [this];rfl
theorem zwd {outs bs:List BatM} {r:RecM} (he:outs.map BatM.p=bs) (h:zay bs r):∃ (i:Nat) (hi:i<outs.length),r ∈ outs[i].rs/\∃ m ∈ outs.drop (i+1),m.kind=2/\m.pid=outs[i].pid/\m.epoch=outs[i].epoch:=by
 obtain ⟨p,b,s,rfl,h1,m,h2,h3⟩:=h
 have hl:=congrArg List.length he
 rw [List.length_map,List.length_append,List.length_cons] at hl
 have hi:p.length<outs.length:=by omega
 have hb:outs[p.length].p=b:=by
  have:(outs.map BatM.p)[p.length]'(by rw [List.length_map];exact hi)=b:=by
   simp only [he]
   simp
  rwa [List.getElem_map] at this
 have hd:(outs.drop (p.length+1)).map BatM.p=s:=by
  rw [List.map_drop,he]
  simp
 refine ⟨p.length,hi,?_,?_⟩
 ·have:outs[p.length].p.rs=b.rs:=by rw [hb]
  rw [show outs[p.length].rs=b.rs from this];exact h1
 ·rw [<- hd] at h2
  obtain ⟨m',hm',rfl⟩:=List.mem_map.1 h2
  have e1:outs[p.length].p.pid=b.pid:=by rw [hb]
  have e2:outs[p.length].p.epoch=b.epoch:=by rw [hb]
  exact ⟨m',hm',h3.1,h3.2.1.trans e1.symm,h3.2.2.trans e2.symm⟩
section
variable {w:World} {l r r1 r2 r3 l':List HP} {b d t p:Nat} {M:OffA} {C:TbC} {D:DiskA}
theorem zrw (x:Sl) (xs:List AtM) (hn:xs.length<=1000000000) [hb:FocR l x 5 (xs.flatMap zr)] (hs:Sat w l):Ret P F.a142 #[x.v] w λvs w'=>∃ z:Sl,vs=[z.v]/\Sat w' (slc T.a37 5 z (xs.flatMap zr)::l) :=
 zoq x <| by
  delta z02i Ac Ad Ap
  have hxl:=hs.slen x (xs:=xs) (enc:=zr)
  cases ha:x.a with
  | none =>
   refine z3b rfl ?_
   have h0:xs=[]:=by
    obtain ⟨h1,h2⟩:=hb.rd w hs
    rcases h2 with h2|⟨b,off,arr,T,fr,h3,-⟩
    ·exact List.length_eq_zero_iff.1 (by omega)
    ·rw [ha] at h3;cases h3
   subst h0
   exact ⟨rfl,⟨none,0,0⟩,rfl,hs.slc_nil⟩
  | some a =>
   refine z1r rfl ?_
   refine z7s hs (enc:=zr) ([]:List AtM) λz0 w' hs=>?_
   refine wp_app' (x:=z0) (y:=x) (xs:=([]:List AtM)) (ys:=xs) (enc:=zr) hs (λz w' hs=>?_) (by simp only [List.length_nil];omega)
   rw [List.nil_append] at hs
   exact ⟨rfl,z,rfl,hs⟩
theorem z064 [hf:Fo l tbC t C r] (hs:Sat w l):Ret P F.a4 #[.pointer (some ⟨t,0,none⟩)] w λvs w'=>∃ z:Sl,vs=[z.v]/\Sat w' (slc T.a37 5 z (C.l.flatMap zr)::tbC t C::r) :=
 zxz _ <| by
  delta zf3 Aa Ac Ad Af Aq
  have hs:=hs.perm hf.perm
  clear hf
  obtain ⟨y,hok,hs⟩:=z8o hs
  refine zu ?_ (by simp)
  refine zj ?_
  refine z8 hs ?_
  refine zb (zrw y C.l hok.2 hs) λ_ w' hs=>?_
  obtain ⟨z,rfl,hs⟩:=hs
  refine zd ?_
  have hs:=z5f C (z:=y) hok (hs.pick [1,1])
  exact ⟨rfl,z,rfl,hs.pick [1]⟩
set_option maxHeartbeats 1000000 in
theorem z06y (hv:∀ a ∈ M.C.l,a.r.value.size<=1000000) (hn:M.C.l.length<=1000000) [hf:Fo l ofP b M r] (hs:Sat w l):Ret P F.a68 #[.pointer (some ⟨b,0,none⟩)] w λvs w'=>∃ z:Sl,vs=[z.v]/\Sat w' (slc T.a23 4 z ((z87 M.C).flatMap z0b)::ofP b M::r) :=
 zus _ <| by
  delta z09a AH AI AJ AN AO AY AZ Aa Ac Ad Ag Ai Ak Al Ao Ap Aq BB BF BG BO BV;unfold z87
  obtain ⟨F,hF⟩:∃ F:AtM->ComM,F=λa=>(z6y a.r).getD com0:=⟨_,rfl⟩
  rw [<- hF]
  have hs:=hs.perm hf.perm
  clear hf
  obtain ⟨t,p,hs⟩:=z8j hs
  refine zu ?_ (by simp)
  refine zj ?_
  refine z8 hs ?_
  refine zb (z064 (t:=t) (C:=M.C) hs) λ_ w' hs=>?_
  obtain ⟨y,rfl,hs⟩:=hs
  refine zd ?_
  have hyl:=hs.slen y (xs:=M.C.l) (enc:=zr)
  have hs:Sat w' (ofP b M::slc T.a37 5 y (M.C.l.flatMap zr)::r):=z8i (t:=t) (p:=p) M hs
  refine zl (λq w'=>∃ z:Sl,q=(z,())/\Sat w' (slc T.a23 4 z ((M.C.l.map F).flatMap z0b)::ofP b M::r)) ?_ ?_
  rotate_left
  ·rintro _ w2 ⟨z,rfl,hs⟩
   refine zk ?_
   exact ⟨rfl,z,rfl,hs⟩
  have hs:Sat w' (slc T.a23 4 ⟨none,0,0⟩ (([]:List ComM).flatMap z0b)::slc T.a37 5 y (M.C.l.flatMap zr)::ofP b M::r):=(hs.pick [1]).slc_nil
  obtain ⟨xs,hxs⟩:∃ xs,xs=M.C.l:=⟨_,rfl⟩
  rw [<- hxs] at hs hv hn hyl ⊢
  refine z03 (λm q w=>∃ (i:Nat) (z:Sl),q=(z,(i:Int),())/\i<=xs.length/\xs.length-i=m/\Sat w (slc T.a23 4 z (((xs.take i).map F).flatMap z0b)::slc T.a37 5 y (xs.flatMap zr)::ofP b M::r)) xs.length
   ⟨0,⟨none,0,0⟩,rfl,by omega,rfl,hs⟩ ?_
  clear hs
  rintro m _ w ⟨i,z,rfl,hi,hm,hs⟩
  refine z1v _ _ ?_
  refine zh (λhc=>?_) λhc=>?_
  rotate_left
  ·rw [List.take_of_length_le (by omega)] at hs
   exact zo (zf ⟨z,rfl,hs.sub⟩)
  have hil:i<xs.length:=by omega
  have htk:(xs.take (i+1)).map F=(xs.take i).map F++[F xs[i]]:=by rw [List.take_add_one,List.getElem?_eq_getElem hil,Option.toList_some,List.map_append];rfl
  have hva:=hv _ (List.getElem_mem hil)
  refine z1s hs (xs:=xs) (enc:=zr) i hil ?_
  generalize xs[i]=a at *
  refine zn hs λa13 w' hs=>?_
  refine zm hs λw' hs=>?_
  refine zae hs (a.r.key,a.r.value,a.r.gone,a.r.time,()) ?_
  refine zb (ze2 a.r hva hs) λ_ w' hs=>?_
  obtain ⟨c,e,rfl,hp,hs⟩:=hs
  refine ⟨(c.part,c.off,c.mem,c.gen,e,()),rfl,trivial,z2q _ _ _ _ _ ?_⟩
  have hce:F a=c:=by
   rw [hF]
   show (z6y a.r).getD com0=c
   rcases zas hp with ⟨-,h⟩|⟨-,h1,h⟩
   ·rw [h];rfl
   ·rw [h,h1];rfl
  rw [hce] at htk
  refine zn hs λa23 w' hs=>?_
  refine zm hs λw' hs=>?_
  refine wp_lt ?_
  refine zg hs ?_
  refine z3w hs (xs:=(xs.take i).map F) (enc:=z0b) c (λz2 w' hs=>?_) rfl (by rw [List.length_map,List.length_take];omega)
  rw [<- htk] at hs
  refine z1k (us':=[z2.v,.int .i64 ((i+1:Nat):Int)]) (by (try simp (disch:=omega) only [w64]);first|rfl|(congr;omega)) ?_
  exact z0l (xs.length-(i+1)) ⟨i+1,z2,rfl,by omega,rfl,hs.sub⟩
theorem z04q {r1:List HP} [hf:Fo l ofP b M r1] [hf2:Fo r1 dk M.A.L.d D r] (h:Cpl M.A.L.pre M.A.L.l D) (hs:Sat w l) :
  Ret P F.a69 #[.pointer (some ⟨b,0,none⟩)] w λvs w'=>∃ (z:Sl) (outs:List BatM),vs=[z.v]/\outs.map BatM.p=z0d M.A.L.l/\Sat w' (slc T.a0 7 z (outs.flatMap zp)::z0i outs::ofP b M::dk M.A.L.d D::r) :=
 zut _ <| by
  delta z09b AH Aa Ac Ad Al Aq
  have hs:=hs.perm (hf.perm.trans (.cons _ hf2.perm))
  clear hf hf2
  obtain ⟨t,p,hs⟩:=z8j hs
  refine zu ?_ (by simp)
  refine zj ?_
  refine z8 hs ?_
  have hs:Sat w (paP p M.A::dk M.A.L.d D::pt b (.cells #[.pointer (some ⟨p,0,none⟩),.int .i64 M.at_,.pointer (some ⟨t,0,none⟩)] T.a24)::tbC t M.C::r):=hs.sub
  refine zb (zh3 (p:=p) (A:=M.A) (D:=D) h hs) λ_ w' hs=>?_
  obtain ⟨z,outs,rfl,hm,hs⟩:=hs
  refine zd ?_
  have hs:Sat w' (ofP b M::slc T.a0 7 z (outs.flatMap zp)::z0i outs::dk M.A.L.d D::r):=z8i (t:=t) (p:=p) M hs
  exact ⟨rfl,z,outs,rfl,hm,hs.sub⟩
theorem z041 (x:Sl) (cs:List ComM) (hcap:x.len<=x.cap) [hb:FocR l x 4 (cs.flatMap z0b)] (hs:Sat w l):Ret P F.a164 #[x.v] w λvs w'=>∃ y:Sl,vs=[y.v]/\FocR l y 4 ((cs.take 4).flatMap z0b)/\Sat w' l :=
 zp1 x <| by
  delta z02t Ac Ad Ag
  have hxl:=hs.slen x (xs:=cs) (enc:=z0b)
  refine zh (λh=>?_) λh=>?_
  ·refine wp_must (by omega) ?_
   exact ⟨rfl,⟨x.a,4,x.cap⟩,rfl,FocR.pre (by omega),hs⟩
  ·refine ⟨rfl,x,rfl,?_,hs⟩
   rw [List.take_of_length_le (by omega)];exact hb
set_option maxHeartbeats 1000000 in
theorem z04t (pid epoch seq time:Int) (x:Sl) (cs:List ComM) (hcl:cs.length<=1000) {r1:List HP} [hf:Fo l ofP b M r1] [hf2:Fo r1 dk M.A.L.d D r] (hb:FocR r x 4 (cs.flatMap z0b)) (h:Cpl M.A.L.pre M.A.L.l D) (hs:Sat w l) :
  Ret P F.a72 #[.pointer (some ⟨b,0,none⟩),.int .i64 pid,.int .i64 epoch,.int .i64 seq,.int .i64 time,x.v] w λvs w'=>∃ (again:Bool) (e:Int) (M':OffA) (D':DiskA),
   vs=[.bool again,.int .i64 e]/\((M'=M/\D'=D)\/∃ z,M'=z95 M (z09 M.A D (z6g pid epoch seq time z cs))/\D'=(z09 M.A D (z6g pid epoch seq time z cs)).2.2)/\Sat w' (ofP b M'::dk M.A.L.d D'::r):=by
 by_cases hall:cs≠[]/\∀ c ∈ cs,z4a c/\(0<=time/\time<=1099511627776)
 ·refine (zx0 (b:=b) (M:=M) (D:=D) pid epoch seq time x cs hall.2 hall.1 hcl hb h hs).mono λvs w' ⟨z,h1,h2⟩=>⟨_,_,_,_,h1,.inr ⟨z,rfl,rfl⟩,h2⟩
 refine zhn _ pid epoch seq time x ?_
 delta z00w AH AI AJ AK AL AM AR AZ Aa Ac Ad Ae Af Ag Ai Aj Ak Al An Ao Ap Ay BB BC BD BO Ba
 have hs:=hs.perm (hf.perm.trans (.cons _ hf2.perm))
 clear hf hf2
 have hxl:=hs.slen x (xs:=cs) (enc:=z0b)
 refine zu ?_ (by simp)
 by_cases hne:cs=[]
 ·subst hne
  refine z0p ?_ (by rw [hxl];rfl)
  exact ⟨rfl,false,3,M,D,rfl,.inl ⟨rfl,rfl⟩,hs⟩
 have hpos:0<cs.length:=List.length_pos_iff.2 hne
 refine zu ?_ (by rw [hxl];omega)
 refine zn hs λa0 w' hs=>?_
 refine zm hs λw' hs=>?_
 have hs:Sat w' (slc T.a2 4 ⟨none,0,0⟩ (([]:List RecM).flatMap z01)::_):=hs.slc_nil
 have hs:Sat w' (pt a0 (.cells #[.int .i64 0,.int .i64 pid,.int .i64 epoch,.int .i64 seq,.int .i64 1,.int .i64 time,.slice none 0 0] T.a0)::slc T.a2 4 ⟨none,0,0⟩ (([]:List RecM).flatMap z01)::ofP b M::dk M.A.L.d D::r):=hs.sub
 refine zl (λq w'=>False) ?_ (λ_ _ h=>h.elim)
 refine z03 (λm q w=>∃ (i:Nat) (z:Sl),q=((i:Int),())/\i<=cs.length/\cs.length-i=m/\(∀ c ∈ cs.take i,z4a c/\(0<=time/\time<=1099511627776))/\Sat w (pt a0 (.cells #[.int .i64 0,.int .i64 pid,.int .i64 epoch,.int .i64 seq,.int .i64 1,.int .i64 time,.slice z.a z.len z.cap] T.a0)::slc T.a2 4 z (((cs.take i).map λc=>z2v c time).flatMap z01)::ofP b M::dk M.A.L.d D::r)) cs.length
  ⟨0,⟨none,0,0⟩,rfl,by omega,rfl,(λc hc=>by cases hc),hs⟩ ?_
 clear hs
 rintro m _ w ⟨i,z,rfl,hi,hm,hok,hs⟩
 refine zk ?_
 refine zh (λhc=>?_) λhc=>?_
 rotate_left
 ·rw [List.take_of_length_le (by omega)] at hok
  exact absurd ⟨hne,hok⟩ hall
 have hil:i<cs.length:=by omega
 have htk0:cs.take (i+1)=cs.take i++[cs[i]]:=by rw [List.take_add_one,List.getElem?_eq_getElem hil,Option.toList_some]
 have htk:(cs.take (i+1)).map (λc=>z2v c time)=(cs.take i).map (λc=>z2v c time)++[z2v cs[i] time]:=by rw [htk0,List.map_append];rfl
 have hrl:((cs.take i).map λc=>z2v c time).length<=1000:=by rw [List.length_map,List.length_take];omega
 refine z1s hs i hil ?_
 generalize cs[i]=c at *
 refine zn hs λa8 w' hs=>?_
 refine zm hs λw' hs=>?_
 refine zg hs ?_
 refine zb (zme c time hs) λ_ w' hs=>?_
 obtain ⟨rfl,hs⟩:=hs
 by_cases hmy:z4a c/\(0<=time/\time<=1099511627776)
 ·have e:z38 c time=(z2v c time,0):=by unfold z38;rw [if_pos hmy]
  rw [e]
  refine ⟨((z2v c time).key,(z2v c time).value,false,time,0,()),rfl,trivial,z2q _ _ _ _ _ ?_⟩
  refine zn hs λa18 w' hs=>?_
  refine zm hs λw' hs=>?_
  refine wp_lt ?_
  refine zu ?_ (by simp)
  refine z8 hs ?_
  refine zg hs ?_
  refine z3w hs (xs:=(cs.take i).map λc=>z2v c time) (enc:=z01) (z2v c time) (λz' w' hs=>?_) rfl (by omega)
  rw [<- htk] at hs
  refine z02 hs λw' hs=>?_
  refine z1k (us':=[.int .i64 ((i+1:Nat):Int)]) (by (try simp (disch:=omega) only [w64]);first|rfl|(congr;omega)) ?_
  refine z0l (cs.length-(i+1)) ⟨i+1,z',rfl,by omega,rfl,λc' hc'=>?_,hs.sub⟩
  rw [htk0] at hc'
  rcases List.mem_append.1 hc' with hc'|hc'
  ·exact hok c' hc'
  ·rw [List.mem_singleton.1 hc'];exact hmy
 ·have e:z38 c time=(zt0,2):=by unfold z38;rw [if_neg hmy]
  rw [e]
  refine ⟨(zt0.key,zt0.value,false,0,2,()),rfl,trivial,z2q _ _ _ _ _ ?_⟩
  refine zn hs λa18 w' hs=>?_
  refine zm hs λw' hs=>?_
  refine wp_lt ?_
  refine z0p ?_ (by simp)
  refine wp_lt ?_
  exact zo (zo ⟨rfl,false,2,M,D,rfl,.inl ⟨rfl,rfl⟩,hs.sub⟩)
end
def hP:ByteArray:=ByteArray.mk #[111]
def hC:ComM:=⟨7,300,2,5⟩
def hM (d:Nat):OffA:=z56 ⟨z41 ⟨d,hP,64,30,[]⟩ 20,0,⟨0,[]⟩⟩
def hD:DiskA:=⟨65536,-1,false,[]⟩
def hB:BatM:=⟨0,3,0,0,1,9,z8h,[z2v hC 9]⟩
theorem h0 (d:Nat):(hM d).at_=0/\(hM d).C=⟨0,[]⟩/\(hM d).A.L=⟨d,hP,64,30,[]⟩:=⟨by kernel_rfl,by kernel_rfl,by kernel_rfl⟩
theorem h1 (d:Nat) (z:Sl):(z09 (hM d).A hD (z6g 3 0 0 9 z [hC])).1.2=(false,0):=by kernel_rfl
section
variable {d:Nat} {z:Sl} {q q2:(Int × Bool × Int) × PartA × DiskA}
theorem h2 (h:q=z09 (hM d).A hD (z6g 3 0 0 9 z [hC])):z0d q.2.1.L.l=[hB]/\(z09 q.2.1 q.2.2 (z1h 3 0 true 9 ⟨none,0,0⟩)).1.2=(false,0):=by subst h;exact ⟨by kernel_rfl,by kernel_rfl⟩
theorem h3 (h:q=z09 (hM d).A hD (z6g 3 0 0 9 z [hC])) (hh:q2=z09 q.2.1 q.2.2 (z1h 3 0 true 9 ⟨none,0,0⟩)):endsK ⟨0,[]⟩ (z17 q2.2.1 0 1099511627776 true).1.1=true/\(z17 q2.2.1 0 1099511627776 true).1.1.length=1 /\
  ofO (z56 ⟨q2.2.1,0,⟨0,[]⟩⟩) 7=(hC,true)/\(z56 ⟨q2.2.1,0,⟨0,[]⟩⟩).C.l.all (λa=>decide (a.r.value.size<=1000000))=true/\q2.2.1.V.op.length=0:=by subst h hh;exact ⟨by kernel_rfl,by kernel_rfl,by kernel_rfl,by kernel_rfl,by kernel_rfl⟩
theorem h4:z36 hB hB.rs=[⟨3,0,hC⟩]:=by kernel_rfl
theorem h5:z38 hC 9=(⟨ByteArray.mk #[111,48,48,55],ByteArray.mk #[172,2,2,5],false,9⟩,0):=by kernel_rfl
end
section
variable {w:World} {l r:List HP}
theorem zgd (seg:Int) (hs:Sat w l):Ret P F.a163 #[.int .i64 seg] w λvs w'=>vs=[.agg #[.int .i64 (s13 seg),.int .i64 30,.int .i64 20]]/\Sat w' l :=
 zp0 seg <| by
  delta z02s AA AI AJ Ac Ad Ai Ak Ao Bq Bw
  have h1:=Int.lt_tmod_of_pos seg (b:=200) (by omega)
  have h2:=Int.tmod_lt_of_pos seg (b:=200) (by omega)
  have hb:=z07c seg
  unfold s13 at hb ⊢
  generalize Int.tmod seg 200=s at *
  refine zn hs λa0 w' hs=>?_
  refine wp_lt ?_
  refine zl (λq w'=>q=((if s<0 then 0-s else s),())/\Sat w' (pt a0 (.cells [.int .i64 0,.int .i64 0,.int .i64 0].toArray T.a35)::l)) ?_ ?_
  ·refine zh (λh=>?_) λh=>?_
   ·rw [w64 (by omega) (by omega)]
    refine wp_lt ?_
    exact zf ⟨by rw [if_pos h],hs⟩
   ·exact zf ⟨by rw [if_neg h],hs⟩
  clear hs
  rintro _ w ⟨rfl,hs⟩
  refine zk ?_
  rw [w64 (by omega) (by omega)]
  refine zm hs λw' hs=>?_
  refine zg hs ?_
  exact ⟨rfl,rfl,hs.tail⟩
set_option maxHeartbeats 2000000 in
theorem zvr (hs:Sat w l):Ret P F.a162 #[] w λvs w'=>vs=[.bool true]/\Sat w' l :=
 zac <| by
  unfold z99
  refine zn hs λa0 w' hs=>?_
  refine zm hs λw' hs=>?_
  refine zg hs ?_
  refine zb (zme hC 9 hs) λ_ w' hs=>?_
  obtain ⟨rfl,hs⟩:=hs
  rw [h5]
  refine ⟨(ByteArray.mk #[111,48,48,55],ByteArray.mk #[172,2,2,5],false,9,0,()),rfl,trivial,z2q _ _ _ _ _ ?_⟩
  refine zn hs λa10 w' hs=>?_
  refine zm hs λw' hs=>?_
  refine wp_lt ?_
  refine zb (zws 65536 (by omega) hs) λ_ w' hs=>?_
  obtain ⟨d,rfl,hs⟩:=hs
  refine ⟨(some ⟨d,0,none⟩,0,()),rfl,trivial,z1v _ _ ?_⟩
  refine wp_lt ?_
  have hs:Sat w' (dk d hD::pt a10 (.cells #[.string (ByteArray.mk #[111,48,48,55]),.string (ByteArray.mk #[172,2,2,5]),.bool false,.int .i64 9] T.a2)::pt a0 (.cells #[.int .i64 7,.int .i64 300,.int .i64 2,.int .i64 5] T.a23)::l):=hs
  refine zb (zgd 0 hs) λ_ w' hs=>?_
  obtain ⟨rfl,hs⟩:=hs
  have e64:s13 0=64:=by decide
  rw [e64]
  refine ⟨(64,30,20,()),rfl,trivial,zea _ _ _ ?_⟩
  have hp0:z5n hP=true:=by kernel_rfl
  have c0:Cpl hP [] hD:=zd2 hP 65536 (by omega)
  have er:(z17 (z41 ⟨d,hP,64,30,[]⟩ 20) (z0t []) 1099511627776 true).1.1=[]:=by kernel_rfl
  refine zb (zqu (d:=d) (D:=hD) hP 64 30 20 hp0 ⟨by decide,by decide⟩ (by omega) rfl c0 (λf hf=>by cases hf) ⟨by decide,by decide⟩ (by rw [er];rfl) (by rw [er];exact Nat.zero_le _) (zmx (Nat.zero_le _)) hs) λ_ w' hs=>?_
  obtain ⟨b,rfl,hs⟩:=hs
  refine ⟨(some ⟨b,0,none⟩,0,()),rfl,trivial,z1v _ _ ?_⟩
  refine wp_lt ?_
  have hs:Sat w' (ofP b (hM d)::dk d hD::pt a10 (.cells #[.string (ByteArray.mk #[111,48,48,55]),.string (ByteArray.mk #[172,2,2,5]),.bool false,.int .i64 9] T.a2)::pt a0 (.cells #[.int .i64 7,.int .i64 300,.int .i64 2,.int .i64 5] T.a23)::l):=hs
  refine z8 hs ?_
  refine z8 hs ?_
  refine z1r (by kernel_rfl) ?_
  refine zg hs ?_
  refine zrl hs (enc:=z0b) [hC] λx w' hs=>?_
  obtain ⟨m1,m2,m3⟩:=h0 d
  have md:(hM d).A.L.d=d:=by rw [m3]
  have mp:(hM d).A.L.pre=hP:=by rw [m3]
  have ml:(hM d).A.L.l=[]:=by rw [m3]
  have hcp:Cpl (hM d).A.L.pre (hM d).A.L.l hD:=by rw [mp,ml];exact c0
  have hs:Sat w' (ofP b (hM d)::dk d hD::slc T.a23 4 x ([hC].flatMap z0b)::pt a10 (.cells #[.string (ByteArray.mk #[111,48,48,55]),.string (ByteArray.mk #[172,2,2,5]),.bool false,.int .i64 9] T.a2)::pt a0 (.cells #[.int .i64 7,.int .i64 300,.int .i64 2,.int .i64 5] T.a23)::l):=hs.sub
  have hs:=gdk md.symm hs
  refine zb (zx0 (b:=b) (M:=hM d) (D:=hD) 3 0 0 9 x [hC] (λc hc=>by rw [List.mem_singleton.1 hc];decide) (by simp) (by simp) inferInstance hcp hs) λ_ w' hs=>?_
  obtain ⟨z,hv,hs⟩:=hs
  have e1:=h1 d z
  obtain ⟨q,hq⟩:∃ q,q=z09 (hM d).A hD (z6g 3 0 0 9 z [hC]):=⟨_,rfl⟩
  have hcq:=zid (A:=(hM d).A) (D:=hD) (z6g 3 0 0 9 z [hC]) (by rw [mp];exact hp0) hcp
  obtain ⟨k1,k2,-⟩:=zsw (hM d).A hD (z6g 3 0 0 9 z [hC])
  rw [<- hq] at hv hs e1 hcq k1 k2
  rw [md] at k1 hs
  rw [mp] at k2 hcq
  have e1a:q.1.2.1=false:=by rw [e1]
  have e1b:q.1.2.2=0:=by rw [e1]
  rw [e1a,e1b] at hv
  subst hv
  refine ⟨(false,0,()),rfl,trivial,z1v _ _ ?_⟩
  refine wp_lt ?_
  refine wp_lt ?_
  obtain ⟨f1,f2⟩:=h2 hq
  have hs:Sat w' (ofP b ⟨q.2.1,0,⟨0,[]⟩⟩::dk d q.2.2::pt a10 (.cells #[.string (ByteArray.mk #[111,48,48,55]),.string (ByteArray.mk #[172,2,2,5]),.bool false,.int .i64 9] T.a2)::pt a0 (.cells #[.int .i64 7,.int .i64 300,.int .i64 2,.int .i64 5] T.a23)::l):=by
   have e:z95 (hM d) q=⟨q.2.1,0,⟨0,[]⟩⟩:=by unfold z95;rw [m1,m2]
   rw [e] at hs
   exact hs.sub
  refine zb (zsn (b:=b) (M:=⟨q.2.1,0,⟨0,[]⟩⟩) 7 (by omega) (λa ha=>by cases ha) hs) λ_ w' hs=>?_
  obtain ⟨rfl,hs⟩:=hs
  refine ⟨(0,0,0,0,false,()),rfl,trivial,z2q _ _ _ _ _ ?_⟩
  refine zn hs λa37 w' hs=>?_
  refine zm hs λw' hs=>?_
  refine wp_lt ?_
  have hs:Sat w' (ofP b ⟨q.2.1,0,⟨0,[]⟩⟩::dk q.2.1.L.d q.2.2::pt a0 (.cells #[.int .i64 7,.int .i64 300,.int .i64 2,.int .i64 5] T.a23)::l):=by rw [k1];exact hs.sub
  refine zb (zzl (b:=b) (M:=⟨q.2.1,0,⟨0,[]⟩⟩) (D:=q.2.2) hB f1 rfl (by show Cpl q.2.1.L.pre q.2.1.L.l q.2.2;rw [k2];exact hcq) hs) λ_ w' hs=>?_
  obtain ⟨y,rfl,hs⟩:=hs
  refine zd ?_
  rw [h4] at hs
  have hyl:=hs.slen y (xs:=[(⟨3,0,hC⟩:PenM)]) (enc:=z3m)
  have hcq2:=zid (A:=q.2.1) (D:=q.2.2) (z1h 3 0 true 9 ⟨none,0,0⟩) (by rw [k2];exact hp0) (by rw [k2];exact hcq)
  obtain ⟨j1,j2,-⟩:=zsw q.2.1 q.2.2 (z1h 3 0 true 9 ⟨none,0,0⟩)
  obtain ⟨q2,hq2⟩:∃ q2,q2=z09 q.2.1 q.2.2 (z1h 3 0 true 9 ⟨none,0,0⟩):=⟨_,rfl⟩
  obtain ⟨t1,t2,t3,t4,t5⟩:=h3 hq hq2
  have hs:Sat w' (ofP b ⟨q.2.1,0,⟨0,[]⟩⟩::dk q.2.1.L.d q.2.2::slc T.a25 6 y ([(⟨3,0,hC⟩:PenM)].flatMap z3m)::pt a0 (.cells #[.int .i64 7,.int .i64 300,.int .i64 2,.int .i64 5] T.a23)::l):=hs.pick [1,1]
  refine zb (zqt (b:=b) (M:=⟨q.2.1,0,⟨0,[]⟩⟩) (D:=q.2.2) 3 0 true 9 (by show Cpl q.2.1.L.pre q.2.1.L.l q.2.2;rw [k2];exact hcq) hcq2 (by show -9223372036854775808<=(0:Int)/\(0:Int)<9223372036854775808;omega) (by rw [<- hq2];exact t1) (by rw [<- hq2];show 0+_<=_;rw [t2];omega) (zmx (by rw [<- hq2,t5];omega)) hs) λ_ w' hs=>?_
  obtain ⟨hv,hs⟩:=hs
  rw [<- hq2] at hv hs f2
  have f2a:q2.1.2.1=false:=by rw [f2]
  have f2b:q2.1.2.2=0:=by rw [f2]
  rw [f2a,f2b] at hv
  rw [if_pos f2b] at hs
  subst hv
  refine ⟨(false,0,()),rfl,trivial,z1v _ _ ?_⟩
  refine wp_lt ?_
  refine wp_lt ?_
  have hs:Sat w' (ofP b (z56 ⟨q2.2.1,0,⟨0,[]⟩⟩)::dk q.2.1.L.d q2.2.2::slc T.a25 6 y ([(⟨3,0,hC⟩:PenM)].flatMap z3m)::pt a0 (.cells #[.int .i64 7,.int .i64 300,.int .i64 2,.int .i64 5] T.a23)::l):=hs
  refine zb (zsn (b:=b) (M:=z56 ⟨q2.2.1,0,⟨0,[]⟩⟩) 7 (by omega) (λa ha=>by
   have:=List.all_eq_true.1 t4 a ha
   exact of_decide_eq_true this) hs) λ_ w' hs=>?_
  obtain ⟨rfl,hs⟩:=hs
  rw [t3]
  refine ⟨(7,300,2,5,true,()),rfl,trivial,z2q _ _ _ _ _ ?_⟩
  refine zn hs λa49 w' hs=>?_
  refine zm hs λw' hs=>?_
  refine wp_lt ?_
  simp only [z05y]
  refine z05r hs (xs:=[(⟨3,0,hC⟩:PenM)]) (enc:=z3m) 0 (by simp) ?_
  refine zg hs ?_
  refine zg hs ?_
  rw [hyl]
  refine wp_lt ?_
  exact ⟨rfl,by kernel_rfl,hs.sub⟩
end
section
variable {w:World} {l r:List HP} {p:Nat} {R:RdM}
theorem z03t (e:Int) [hf:Fo l (rdP T.a56) p R r] (hs:Sat w l):Ret P F.a168 #[.pointer (some ⟨p,0,none⟩),.int .i64 e] w λvs w'=>vs=[]/\Sat w' (rdP T.a56 p (R.fail e)::r) :=
 zp5 _ e <| by
  delta z02x AK Aa Ab Ac Ad Ak An
  obtain ⟨x,hb,hs⟩:=z21 (hs.perm hf.perm)
  refine zj ?_
  refine z8 hs ?_
  refine zl (λ_ w'=>Sat w' (rdP T.a56 p (R.fail e)::r)) ?_ (by rintro _ w' hs;refine zk ?_;exact ⟨rfl,rfl,hs⟩)
  refine zh (λh=>?_) λh=>?_
  ·refine zj ?_
   refine z02 hs λw' hs=>?_
   refine zf ?_
   have e1:R.fail e=⟨R.bs,R.at_,e⟩:=by unfold RdM.fail;rw [if_pos h]
   rw [e1]
   exact z0z ⟨R.bs,R.at_,e⟩ hb hs
  ·have e1:R.fail e=R:=by unfold RdM.fail;rw [if_neg h]
   rw [e1]
   exact zf (z0z R hb hs)
theorem zka:∀ (l:List UInt8) (j:Nat),z71 (l.drop j)<=z71 l
 | [],j=>by simp
 | c::l,0=>Nat.le_refl _
 | c::l,j+1=>by
  have:=zka l j
  rw [List.drop_succ_cons]
  show _<=c.toNat % 128+128*z71 l
  omega
theorem zw2 (x:Sl) (bs:List UInt8) [hx:FocR l x 1 (bs.flatMap zi)] (hn:bs.length<=1000000000) (hs:Sat w l) :
  Ret P F.a170 #[x.v] w λvs w'=>vs=[.int .u64 ((((z2u 0 bs).getD (0,0)).1:Nat):Int),.int .i64 ((((z2u 0 bs).getD (0,0)).2:Nat):Int)]/\Sat w' l :=
 zp6 x <| by
  delta z02y AA AR AS AT Ac Ad Ag Ah Ai Ak Ao
  have hl:=hs.slen x (xs:=bs) (enc:=zi)
  have hle:=zc5 bs
  refine zl (λu w'=>u=(((min (z0w bs) 10:Nat):Int),())/\Sat w' l) ?_ ?_
  ·refine z03 (λk u w=>∃ i:Nat,u=((i:Int),())/\i<=z0w bs/\i<=10/\10-i=k/\Sat w l) 10 ⟨0,rfl,by omega,by omega,rfl,hs⟩ ?_
   clear hs
   rintro k _ w ⟨i,rfl,hi,hi10,hk,hs⟩
   refine zk ?_
   refine zbo hs (xs:=bs) (enc:=zi) (((bs.getD i 0).toNat:Nat):Int) (λhg=>?_) ?_
   ·simp only [Bool.and_eq_true,decide_eq_true_eq] at hg
    refine ⟨i,by omega,rfl,?_⟩
    rw [List.getD_eq_getElem?_getD,List.getElem?_eq_getElem (by omega)]
    rfl
   refine zh (λh=>?_) λh=>?_
   ·have hib:i<bs.length:=by omega
    have hgd:bs.getD i 0=bs[i]:=by rw [List.getD_eq_getElem?_getD,List.getElem?_eq_getElem hib];rfl
    rw [hgd] at h
    refine z1t (y:=((i+1:Nat):Int)) ?_ (by rw [w64 (by omega) (by omega)];omega)
    refine z0l (10-(i+1)) ?_
    refine ⟨i+1,rfl,?_,by omega,rfl,hs⟩
    apply Nat.lt_of_le_of_ne hi
    intro e
    have:=zdg bs (by omega)
    simp only [<- e] at this
    omega
   ·refine zo (zf ⟨?_,hs⟩)
    have:i=min (z0w bs) 10:=by
     by_cases h10:i=10
     ·omega
     ·have:i=z0w bs:=by
       apply Nat.le_antisymm hi
       apply Nat.le_of_not_lt
       intro h2
       have h3:=zjf bs i h2
       have hib:i<bs.length:=by omega
       have hgd:bs.getD i 0=bs[i]:=by rw [List.getD_eq_getElem?_getD,List.getElem?_eq_getElem hib];rfl
       rw [hgd] at h
       exact h (by omega)
      omega
    rw [<- this]
  clear hs
  rintro _ w ⟨rfl,hs⟩
  refine zk ?_
  have hnum:=zm6 bs 0
  refine zh (λh=>?_) λh=>?_
  ·rw [dif_neg (by omega)] at hnum
   rw [hnum]
   exact ⟨rfl,rfl,hs⟩
  have hL:z0w bs<bs.length:=by omega
  have hmin:min (z0w bs) 10=z0w bs:=by omega
  have hL10:z0w bs<10:=by omega
  rw [dif_pos ⟨hL,by omega⟩] at hnum
  rw [hmin]
  have hend:=zdg bs hL
  refine zbo hs (xs:=bs) (enc:=zi) (((bs[z0w bs]).toNat:Nat):Int) (λ_=>⟨z0w bs,hL,rfl,rfl⟩) ?_
  refine zbo hs (xs:=bs) (enc:=zi) (((bs[z0w bs]).toNat:Nat):Int) (λ_=>⟨z0w bs,hL,rfl,rfl⟩) ?_
  refine zh (λh2=>?_) λh2=>?_
  ·rw [if_pos (by omega)] at hnum
   rw [hnum]
   exact ⟨rfl,rfl,hs⟩
  rw [if_neg (by omega)] at hnum
  have h64:=(zfu hnum).2
  rw [hnum]
  refine wp_lt ?_
  refine zl (λu w'=>u=(((z71 (bs.take (z0w bs+1)):Nat):Int),())/\Sat w' l) ?_ ?_
  rotate_left
  ·rintro _ w' ⟨rfl,hs⟩
   refine zk ?_
   refine wp_lt ?_
   refine z1t (y:=((z0w bs+1:Nat):Int)) ?_ (by rw [w64 (by omega) (by omega)];omega)
   exact ⟨rfl,rfl,hs⟩
  have hpl:(bs.take (z0w bs+1)).length=z0w bs+1:=by rw [List.length_take];omega
  refine z03 (λk u w=>u=(((z71 ((bs.take (z0w bs+1)).drop k):Nat):Int),(k:Int)-1,())/\k<=z0w bs+1/\Sat w l) (z0w bs+1) ⟨?_,by omega,hs⟩ ?_
  ·rw [List.drop_eq_nil_of_le (by omega)]
   simp [z71]
  clear hs
  rintro k _ w ⟨rfl,hk,hs⟩
  refine zk ?_
  refine zh (λhc=>?_) λhc=>?_
  rotate_left
  ·refine zo (zf ⟨?_,hs⟩)
   obtain rfl:k=0:=by omega
   rfl
  obtain ⟨j,rfl⟩:∃ j,k=j+1:=⟨k-1,by omega⟩
  have hjb:j<bs.length:=by omega
  have hd:z71 ((bs.take (z0w bs+1)).drop j)=bs[j].toNat % 128+128*z71 ((bs.take (z0w bs+1)).drop (j+1)):=by
   rw [List.drop_eq_getElem_cons (by omega),List.getElem_take];rfl
  have hv:=zka (bs.take (z0w bs+1)) j
  refine z1z hs (xs:=bs) (enc:=zi) j hjb ?_
  have e1:IntKind.wrap .u64 (IntKind.wrap .u64 (((z71 ((bs.take (z0w bs+1)).drop (j+1)):Nat):Int)*128)+IntKind.wrap .u64 (Int.tmod ((bs[j].toNat:Nat):Int) 128))=((z71 ((bs.take (z0w bs+1)).drop j):Nat):Int):=by
   rw [z8p _ (by decide),z8y]
   have:((bs[j].toNat % Int.toNat 128:Nat):Int)=((bs[j].toNat % 128:Nat):Int):=rfl
   have e2:((z71 ((bs.take (z0w bs+1)).drop (j+1)):Nat):Int)*128=((z71 ((bs.take (z0w bs+1)).drop (j+1))*128:Nat):Int):=rfl
   rw [e2,z8y,<- Int.natCast_add,z8y,hd]
   congr 1
   show (_ % _+bs[j].toNat % 128 % _) % _=_
   omega
  refine z86 e1 ?_
  refine z1t (y:=(j:Int)-1) ?_ (by rw [w64 (by omega) (by omega)];omega)
  refine z0l j ?_
  exact ⟨rfl,by omega,hs⟩
theorem zfd [hf:Fo l (rdP T.a56) p R r] (hs:Sat w l):Ret P F.a167 #[.pointer (some ⟨p,0,none⟩)] w λvs w'=>vs=[.int .u64 ((R.uint.1:Nat):Int)]/\Sat w' (rdP T.a56 p R.uint.2::r) :=
 zp4 _ <| by
  delta z02w Aa Ab Ac Ad Ae Af Ag Ah Ai Aj Ak Al Am An Ao
  obtain ⟨x,hb,hs⟩:=z21 (hs.perm hf.perm)
  have hl:=hs.slen x (xs:=R.bs) (enc:=zi)
  refine zj ?_
  refine z8 hs ?_
  refine zh (λh=>?_) λh=>?_
  ·have e1:R.uint=(0,R):=by unfold RdM.uint;rw [if_pos h]
   rw [e1]
   exact ⟨rfl,rfl,z0z R hb hs⟩
  refine zv hs λw' hs=>?_
  refine zj ?_
  refine z8 hs ?_
  refine zj ?_
  refine z8 hs ?_
  refine wp_must ⟨by omega,show ((R.at_:Nat):Int)<=((x.len:Nat):Int) by omega⟩ ?_
  have hcap:x.len<=x.cap:=(hs.pick [1]).slc_cap
  rw [Int.toNat_natCast]
  have hF:FocR (pt p (.cells #[.slice x.a x.len x.cap,.int .i64 R.at_,.int .i64 R.e] T.a56)::slc T.a58 1 x (R.bs.flatMap zi)::r) ⟨z0q x.a 1 R.at_ x.cap,x.len-R.at_,x.cap-R.at_⟩ 1 ((R.bs.drop R.at_).flatMap zi):=FocR.post hcap
  refine zb (zw2 ⟨z0q x.a 1 R.at_ x.cap,x.len-R.at_,x.cap-R.at_⟩ (R.bs.drop R.at_) (by rw [List.length_drop];omega) hs) λ_ _ hs=>?_
  obtain ⟨rfl,hs⟩:=hs
  refine zd ?_
  refine wp_lt ?_
  refine wp_lt ?_
  refine ze ?_
  cases hnum:z2u 0 (R.bs.drop R.at_) with
  | none =>
   have e1:R.uint=(0,R.fail 6):=by
    have h0:R.e=0:=Decidable.not_not.1 h
    unfold RdM.uint RdM.fail;rw [if_neg (by rw [h0];simp),hnum,if_pos h0]
   refine z0p ?_ rfl
   have hs:=z0z R hb hs
   refine zb (z03t (p:=p) 6 hs) λ_ _ hs=>?_
   obtain ⟨rfl,hs⟩:=hs
   refine zd ?_
   rw [e1]
   exact ⟨rfl,rfl,hs⟩
  | some q =>
   have hq:=zft _ _ _ _ hnum
   rw [List.length_drop] at hq
   have e1:R.uint=(q.1,⟨R.bs,R.at_+q.2,R.e⟩):=by
    unfold RdM.uint;rw [if_neg h,hnum]
   refine zu ?_ (show ¬ ((q.2:Nat):Int)=0 by omega)
   refine zj ?_
   refine z8 hs ?_
   refine zj ?_
   have e2:IntKind.wrap .i64 ((R.at_:Int)+(((some q).getD (0,0)).2:Nat))=((R.at_+q.2:Nat):Int):=by
    show IntKind.wrap .i64 ((R.at_:Int)+((q.2:Nat):Int))=_
    rw [w64 (by omega) (by omega)];omega
   rw [e2]
   refine z02 hs λw' hs=>?_
   refine wp_lt ?_
   rw [e1]
   exact ⟨rfl,rfl,z0z ⟨R.bs,R.at_+q.2,R.e⟩ ⟨by show R.at_+q.2<=R.bs.length;omega,hb.2⟩ hs⟩
end
theorem zlf (k:Nat) (h:k<=9):ByteArray.extract (ByteArray.mk #[48,49,50,51,52,53,54,55,56,57]) k (k+1)=ByteArray.mk #[z5t k]:=by
 have:k=0\/k=1\/k=2\/k=3\/k=4\/k=5\/k=6\/k=7\/k=8\/k=9:=by omega
 rcases this with rfl|rfl|rfl|rfl|rfl|rfl|rfl|rfl|rfl|rfl <;> rfl
theorem z005 (c:ComM) (time:Int):(z38 c time).1.value.size<=1000000:=by
 unfold z38
 split
 ·show (z43 c).toArray.size<=_
  unfold z43
  have h1:=(z18 c.off).2
  have h2:=(z18 c.mem).2
  have h3:=(z18 c.gen).2
  rw [List.size_toArray,List.length_append,List.length_append]
  omega
 ·exact Nat.zero_le _
section
variable {w:World} {l r:List HP}
theorem z068 (m:Nat) (hm:m<=255) (hs:Sat w l):Ret P F.a173 #[.int .i64 (m:Int)] w λvs w'=>vs=[.string ⟨(z7y m).toArray⟩]/\Sat w' l :=
 zp9 _ <| by
  delta z031 Ad Ae Aj Ao Bf
  have e1:IntKind.wrap .i64 (Int.tdiv (m:Int) 100)=((m / 100:Nat):Int):=by
   rw [zab m (by omega),show (100:Int).toNat=100 from rfl,w64 (by omega) (by omega)]
  have e2:Int.tmod (IntKind.wrap .i64 (Int.tdiv (m:Int) 10)) 10=((m / 10 % 10:Nat):Int):=by
   rw [zab m (by omega),show (10:Int).toNat=10 from rfl,w64 (by omega) (by omega),z8p _ (by omega),show (10:Int).toNat=10 from rfl]
  have e3:Int.tmod (m:Int) 10=((m % 10:Nat):Int):=by
   rw [z8p m (by omega),show (10:Int).toNat=10 from rfl]
  have e4:∀ k:Nat,k<=9->IntKind.wrap .i64 ((k:Int)+1)=((k+1:Nat):Int):=λk hk=>by rw [w64 (by omega) (by omega)];omega
  have b1:m / 100<=9:=by omega
  have b2:m / 10 % 10<=9:=by omega
  have b3:m % 10<=9:=by omega
  simp only [e1,e2,e3,e4 _ b1,e4 _ b2,e4 _ b3,Int.toNat_natCast,zlf _ b1,zlf _ b2,zlf _ b3]
  refine zv hs λw' hs=>?_
  refine wp_must (by omega) ?_
  refine wp_must (by omega) ?_
  refine wp_must (by show ((1+1:Nat):Int)<=_;omega) ?_
  refine wp_must (by omega) ?_
  refine wp_must (by show ((2+1:Nat):Int)<=_;omega) ?_
  refine wp_lt ?_
  refine ze ?_
  exact ⟨rfl,rfl,hs⟩
theorem z069 (c:ComM) (time:Int) (hs:Sat w l):Ret P F.a172 #[.agg (z0b c).toArray,.int .i64 time] w λvs w'=>vs=[.agg (z01 (z38 c time).1).toArray,.int .i64 (z38 c time).2]/\Sat w' l :=
 zp8 c.part c.off c.mem c.gen time <| by
  delta z030 AA AD AI AJ AZ Ab Ac Ad Ae Aj Ak Ap Aq As BB Ba Bc;unfold z38
  refine zq hs λa0 w' hs=>?_
  refine zn hs λa1 w' hs=>?_
  refine z8 hs ?_
  refine z8 hs ?_
  refine z8 hs ?_
  refine z8 hs ?_
  refine z8 hs ?_
  refine z8 hs ?_
  refine z8 hs ?_
  refine z8 hs ?_
  have hcond:(decide (c.part<0) || decide (c.part>255) || decide (c.off<0) || decide (c.off>1099511627776) || decide (c.mem<0) || decide (c.mem>64) || decide (c.gen<0) || decide (c.gen>2147483647) || decide (time<0) || decide (time>1099511627776))=true↔¬ (z4a c/\(0<=time/\time<=1099511627776)):=by
   unfold z4a
   simp only [Bool.or_eq_true,decide_eq_true_eq]
   omega
  by_cases h:z4a c/\(0<=time/\time<=1099511627776)
  rotate_left
  ·rw [if_neg h]
   refine z3b (hcond.2 h) ?_
   refine zm hs λw' hs=>?_
   refine zg hs ?_
   exact ⟨rfl,rfl,hs.sub⟩
  rw [if_pos h]
  refine z1r (by
   cases hb:(decide (c.part<0) || decide (c.part>255) || decide (c.off<0) || decide (c.off>1099511627776) || decide (c.mem<0) || decide (c.mem>64) || decide (c.gen<0) || decide (c.gen>2147483647) || decide (time<0) || decide (time>1099511627776)) with
   | false=>rfl
   | true=>exact absurd h (hcond.1 hb)) ?_
  obtain ⟨hm,ht⟩:=h
  obtain ⟨m1,m2,m3,m4⟩:=hm
  have l1:=(z18 c.off).2
  have l2:=(z18 c.mem).2
  have l3:=(z18 c.gen).2
  refine z8 hs ?_
  refine zb (zlg c.off (by omega) hs) λ_ w' hs=>?_
  obtain ⟨z1,rfl,hs⟩:=hs
  refine zd ?_
  refine z8 hs ?_
  refine zb (zlg c.mem (by omega) hs) λ_ w' hs=>?_
  obtain ⟨z2,rfl,hs⟩:=hs
  refine zd ?_
  refine wp_app' (xs:=uI c.off) (ys:=uI c.mem) (enc:=zi) hs (λz3 w' hs=>?_) (by omega)
  refine z8 hs ?_
  refine zb (zlg c.gen (by omega) hs) λ_ w' hs=>?_
  obtain ⟨z4,rfl,hs⟩:=hs
  refine zd ?_
  refine wp_app' (xs:=uI c.off++uI c.mem) (ys:=uI c.gen) (enc:=zi) hs (λz5 w' hs=>?_) (by rw [List.length_append];omega)
  have e:uI c.off++uI c.mem++uI c.gen=z43 c:=by unfold z43;rw [List.append_assoc]
  rw [e] at hs
  refine zl (λq w'=>q=(0,())/\Sat w' (pt a1 (.cells #[.string (z11 c.part),.string ⟨(z43 c).toArray⟩,.bool false,.int .i64 time] T.a2)::l)) ?_ ?_
  ·refine zv hs λw' hs=>?_
   refine z8 hs ?_
   refine zrk (p:=.str) (x:=(⟨(z43 c).toArray⟩:ByteArray)) (zbk hs) ?_
   have hk:=z068 c.part.toNat (by omega) hs
   rw [show ((c.part.toNat:Nat):Int)=c.part by omega] at hk
   refine zb hk λ_ w' hs=>?_
   obtain ⟨rfl,hs⟩:=hs
   refine zd ?_ ⟨trivial,λ_=>zbk hs⟩
   refine wp_must (by show ((1+3:Nat):Int)<=_;omega) ?_
   refine ze ?_
   have ek:ByteArray.mk #[111]++⟨(z7y c.part).toArray⟩=z11 c.part:=rfl
   rw [ek]
   refine zm hs λw' hs=>?_
   refine ze ?_
   exact zf ⟨rfl,hs.sub⟩
  clear hs
  rintro _ w ⟨rfl,hs⟩
  refine zk ?_
  refine zg hs ?_
  exact ⟨rfl,rfl,hs.sub⟩
set_option maxHeartbeats 1000000 in
theorem zyh (r:RecM) (hv:r.value.size<=1000000) (hs:Sat w l):Ret P F.a171 #[.agg (z01 r).toArray] w λvs w'=>∃ (c:ComM) (e:Int),vs=[.agg (z0b c).toArray,.int .i64 e]/\zrq r c e/\Sat w' l :=
 zp7 r.key r.value r.gone r.time <| by
  delta z02z A8 AI AJ AK AQ AR AZ Ac Ad Ah Ai Ak Ao Ap As BB BO Be Bx By
  refine zq hs λa0 w' hs=>?_
  refine zn hs λa1 w' hs=>?_
  refine z8 hs ?_
  refine zbq hs λy w' hs=>?_
  obtain ⟨vs,hvs⟩:∃ vs,vs=r.value.data.toList:=⟨_,rfl⟩
  rw [<- hvs] at hs
  have hvl:vs.length<=1000000:=by rw [hvs];exact hv
  have hval:∀ {c':ComM},z3r r c'->vs=z43 c':=λh=>by rw [hvs];exact (z91 h).2.2
  refine zq hs λa4 w' hs=>?_
  obtain ⟨R0,hR0⟩:∃ R0:RdM,R0=⟨vs,0,0⟩:=⟨_,rfl⟩
  have hst:stR R0=some vs:=by rw [hR0];rfl
  have hs:Sat w' (rdP T.a56 a4 R0::pt a1 (.cells #[.int .i64 0,.int .i64 0,.int .i64 0,.int .i64 0] T.a57)::pt a0 (.cells #[.string r.key,.string r.value,.bool r.gone,.int .i64 r.time] T.a2)::l):=by
   rw [hR0]
   exact z0z (x:=y) ⟨vs,0,0⟩ ⟨Nat.zero_le _,by show vs.length<=_;omega⟩ hs
  refine zb (zfd (p:=a4) (R:=R0) hs) λ_ w' hs=>?_
  obtain ⟨rfl,hs⟩:=hs
  refine zd ?_
  refine wp_lt ?_
  refine zb (zfd (p:=a4) (R:=R0.uint.2) hs) λ_ w' hs=>?_
  obtain ⟨rfl,hs⟩:=hs
  refine zd ?_
  refine wp_lt ?_
  refine zb (zfd (p:=a4) (R:=R0.uint.2.uint.2) hs) λ_ w' hs=>?_
  obtain ⟨rfl,hs⟩:=hs
  refine zd ?_
  refine wp_lt ?_
  have s1:=z8n (R:=R0)
  have s2:=z8n (R:=R0.uint.2)
  have s3:=z8n (R:=R0.uint.2.uint.2)
  rw [hst] at s1
  rw [s1.2] at s2
  rw [s2.2] at s3
  have hread:∀ {c':ComM},z3r r c'->R0.uint.1=c'.off.toNat/\R0.uint.2.uint.1=c'.mem.toNat/\R0.uint.2.uint.2.uint.1=c'.gen.toNat:=λh=>by
   rw [s1.1,s2.1,s3.1,hval h]
   obtain ⟨h1,h2,h3,-⟩:=zdt h.1
   exact ⟨h1,h2,h3⟩
  have hs:Sat w' (pt a1 (.cells #[.int .i64 0,.int .i64 0,.int .i64 0,.int .i64 0] T.a57)::pt a0 (.cells #[.string r.key,.string r.value,.bool r.gone,.int .i64 r.time] T.a2)::l):=hs.tail
  clear s1 s2 s3
  generalize R0.uint.2.uint.2.uint.1=g at hread ⊢
  generalize R0.uint.2.uint.1=m at hread ⊢
  generalize R0.uint.1=o at hread ⊢
  have hcond:(decide ((o:Int)>2199023255552) || decide ((m:Int)>1000) || decide ((g:Int)>1099511627776))=true↔((o:Int)>2199023255552\/(m:Int)>1000\/(g:Int)>1099511627776):=by
   simp only [Bool.or_eq_true,decide_eq_true_eq,or_assoc]
  by_cases hcd:(o:Int)>2199023255552\/(m:Int)>1000\/(g:Int)>1099511627776
  ·refine z3b (hcond.2 hcd) ?_
   refine zm hs λw' hs=>?_
   refine zg hs ?_
   refine ⟨rfl,com0,6,rfl,.inr ⟨rfl,rfl,λc' h=>?_⟩,hs.sub⟩
   obtain ⟨q1,q2,q3⟩:=hread h
   obtain ⟨-,q5,q6,q7⟩:=h.1
   omega
  refine z1r (by
   cases hb:(decide ((o:Int)>2199023255552) || decide ((m:Int)>1000) || decide ((g:Int)>1099511627776)) with
   | false=>rfl
   | true=>exact absurd (hcond.1 hb) hcd) ?_
  rw [w64 (x:=(o:Int)) (by omega) (by omega),w64 (x:=(m:Int)) (by omega) (by omega),w64 (x:=(g:Int)) (by omega) (by omega)]
  refine zl (λq w'=>(∀ j:Nat,j<256->¬ z3r r ⟨j,o,m,g⟩)/\Sat w' (pt a1 (.cells #[.int .i64 0,.int .i64 0,.int .i64 0,.int .i64 0] T.a57)::pt a0 (.cells #[.string r.key,.string r.value,.bool r.gone,.int .i64 r.time] T.a2)::l)) ?_ ?_
  rotate_left
  ·rintro _ w2 ⟨hno,hs⟩
   refine zk ?_
   refine zm hs λw' hs=>?_
   refine zg hs ?_
   refine ⟨rfl,com0,6,rfl,.inr ⟨rfl,rfl,λc' h=>?_⟩,hs.sub⟩
   obtain ⟨q1,q2,q3⟩:=hread h
   obtain ⟨q4,q5,q6,q7⟩:=h.1
   refine hno c'.part.toNat (by omega) ?_
   have e:(⟨(c'.part.toNat:Nat),o,m,g⟩:ComM)=c':=by
    obtain ⟨a,b,d,e⟩:=c'
    simp only at q1 q2 q3 q4 q5 q6 q7
    show (⟨((a.toNat:Nat):Int),(o:Int),(m:Int),(g:Int)⟩:ComM)=⟨a,b,d,e⟩
    rw [q1,q2,q3]
    congr 1 <;> omega
   rw [e];exact h
  refine z03 (λmm q w=>∃ i:Nat,q=((i:Int),())/\i<=256/\256-i=mm/\(∀ j:Nat,j<i->¬ z3r r ⟨j,o,m,g⟩)/\Sat w (pt a1 (.cells #[.int .i64 0,.int .i64 0,.int .i64 0,.int .i64 0] T.a57)::pt a0 (.cells #[.string r.key,.string r.value,.bool r.gone,.int .i64 r.time] T.a2)::l)) 256
   ⟨0,rfl,by omega,rfl,(λj h=>absurd h (Nat.not_lt_zero _)),hs⟩ ?_
  clear hs
  rintro mm _ w ⟨i,rfl,hi,hm2,hno,hs⟩
  refine zk ?_
  refine zh (λhc=>?_) λhc=>?_
  rotate_left
  ·have:i=256:=by omega
   subst this
   exact zo (zf ⟨hno,hs⟩)
  have hil:i<=255:=by omega
  refine zn hs λa16 w' hs=>?_
  refine zm hs λw' hs=>?_
  refine zg hs ?_
  refine zb (z069 ⟨i,o,m,g⟩ 0 hs) λ_ w' hs=>?_
  obtain ⟨rfl,hs⟩:=hs
  refine ⟨((z38 ⟨i,o,m,g⟩ 0).1.key,(z38 ⟨i,o,m,g⟩ 0).1.value,(z38 ⟨i,o,m,g⟩ 0).1.gone,(z38 ⟨i,o,m,g⟩ 0).1.time,(z38 ⟨i,o,m,g⟩ 0).2,()),rfl,trivial,z2q _ _ _ _ _ ?_⟩
  have hiff:(((z38 ⟨i,o,m,g⟩ 0).2 == 0) && ByteArray.toList (z38 ⟨i,o,m,g⟩ 0).1.key == ByteArray.toList r.key && ByteArray.toList (z38 ⟨i,o,m,g⟩ 0).1.value == ByteArray.toList r.value && !r.gone)=true↔z3r r ⟨i,o,m,g⟩:=by
   rw [zih,zih]
   unfold z38 z3r
   by_cases hmy:z4a ⟨i,o,m,g⟩
   ·rw [if_pos ⟨hmy,by omega⟩]
    simp only [Bool.and_eq_true,decide_eq_true_eq,Bool.not_eq_true',hmy,true_and,beq_self_eq_true]
    constructor
    ·rintro ⟨⟨h1,h2⟩,h3⟩;exact ⟨h1.symm,h2.symm,h3⟩
    ·rintro ⟨h1,h2,h3⟩;exact ⟨⟨h1.symm,h2.symm⟩,h3⟩
   ·rw [if_neg λh=>hmy h.1]
    simp [hmy]
  generalize z38 ⟨i,o,m,g⟩ 0=y at *
  obtain ⟨y,e⟩:=y
  simp only at hs hiff ⊢
  refine zn hs λa26 w' hs=>?_
  refine zm hs λw' hs=>?_
  refine wp_lt ?_
  refine z8 hs ?_
  refine z8 hs ?_
  refine z8 hs ?_
  refine z8 hs ?_
  refine z8 hs ?_
  by_cases hcom:z3r r ⟨i,o,m,g⟩
  ·refine z3b (hiff.2 hcom) ?_
   refine zg hs ?_
   refine zm hs λw' hs=>?_
   refine zg hs ?_
   refine zo (zo ?_)
   exact ⟨rfl,⟨i,o,m,g⟩,0,rfl,.inl ⟨rfl,hcom⟩,hs.sub⟩
  ·refine z1r (by
    cases hb:((e == 0) && ByteArray.toList y.key == ByteArray.toList r.key && ByteArray.toList y.value == ByteArray.toList r.value && !r.gone) with
    | false=>rfl
    | true=>exact absurd (hiff.1 hb) hcom) ?_
   rw [w64 (by omega) (by omega)]
   refine wp_lt ?_
   refine z1k (us':=[.int .i64 ((i+1:Nat):Int)]) (by (try simp (disch:=omega) only [w64]);first|rfl|(congr;omega)) ?_
   refine z0l (256-(i+1)) ⟨i+1,rfl,by omega,rfl,λj hj=>?_,hs.sub⟩
   by_cases h:j=i
   ·subst h;exact hcom
   ·exact hno j (by omega)
theorem z072 (c:ComM) (hs:Sat w l):Ret P F.a165 #[.agg (z0b c).toArray] w λvs w'=>vs=[.agg (z0b c).toArray]/\Sat w' l :=
 zp2 c.part c.off c.mem c.gen <| by
  delta z02u AI AJ Ab Ad As BB BO
  refine zq hs λa0 w' hs=>?_
  refine zn hs λa1 w' hs=>?_
  refine z8 hs ?_
  refine z8 hs ?_
  refine z8 hs ?_
  refine z8 hs ?_
  refine zm hs λw' hs=>?_
  refine zg hs ?_
  exact ⟨rfl,rfl,hs.sub⟩
theorem z04x (c:ComM) (hs:Sat w l):Ret P F.a166 #[.agg (z0b c).toArray] w λvs w'=>vs=[.agg (z0b c).toArray]/\Sat w' l :=
 zp3 c.part c.off c.mem c.gen <| by
  delta z02v AI AJ Ab Ad As BB BO
  refine zq hs λa0 w' hs=>?_
  refine zn hs λa1 w' hs=>?_
  refine z8 hs ?_
  refine z8 hs ?_
  refine z8 hs ?_
  refine z8 hs ?_
  refine zm hs λw' hs=>?_
  refine zg hs ?_
  exact ⟨rfl,rfl,hs.sub⟩
set_option maxHeartbeats 1000000 in
end
structure OpK where
 kind:Int
 pid:Int
 epoch:Int
 seq:Int
 time:Int
 yes:Bool
 x:Sl
 cs:List ComM
def zbu (o:OpK):List Value:=[.int .i64 o.kind,.int .i64 o.pid,.int .i64 o.epoch,.int .i64 o.seq,.int .i64 o.time,.bool o.yes,.slice o.x.a o.x.len o.x.cap]
instance:EncA zbu [.int .i64,.int .i64,.int .i64,.int .i64,.int .i64,.bool,.slc] (λo=>(o.kind,o.pid,o.epoch,o.seq,o.time,o.yes,o.x,())):=⟨λ_=>rfl⟩
instance:EncN zbu 7:=⟨λ_=>rfl,by decide,by simp [zbu,Value.oneCell']⟩
theorem zla {r:RecM} {c:ComM} (h:z3r r c):r.value.size<=1000000:=by
 have:=z005 c 0
 have e:z38 c 0=(z2v c 0,0):=by unfold z38;rw [if_pos ⟨h.1,by omega⟩]
 rw [e] at this
 rw [h.2.2.1];exact this
theorem InvH.wk {M:OffA} {D:DiskA} {d n k n' k':Nat} (h:InvH M D d n k) (h1:n<=n') (h2:k<=k'):InvH M D d n' k' :=
 ⟨h.q,h.kind,Nat.le_trans h.many h1,h.at_,h.tab,Nat.le_trans h.len h2⟩
theorem zxe (pid epoch:Int) (commit:Bool) (time:Int) (x:Sl):(z1h pid epoch commit time x).kind≠0:=by
 unfold z1h
 cases commit <;> simp
theorem z06z {M:OffA} {part:Int} (h:(z0u M.C.l (z11 part)).isSome=true):(ofO M part).2=true:=by
 unfold ofO
 cases hq:z0u M.C.l (z11 part) with
 | none=>rw [hq] at h;cases h
 | some a=>rfl
section
variable {w:World} {l r:List HP}
set_option maxHeartbeats 4000000 in
theorem z0a8 (x:Sl) (ops:List OpK) (hx:FocR l x 7 (ops.flatMap zbu)) (hops:∀ o ∈ ops,FocR l o.x 4 (o.cs.flatMap z0b)/\o.x.len<=o.x.cap) (hs:Sat w l) :
  Ret P F.a161 #[x.v] w λvs w'=>vs=[.bool true]/\Sat w' l :=
 zoz x <| by
  delta z02r AE AI AJ AK AM AN AO AR AX AY AZ Ab Ac Ad Ae Af Ag Ai Aj Ak Al Ao Ap Aq Av Aw Ay BB BC BO BR BU BV Ba Bc Bq Bv Bw Bz
  have hxl:=hs.slen x (xs:=ops) (enc:=zbu)
  refine zb (zgd 50 hs) λ_ w' hs=>?_
  obtain ⟨rfl,hs⟩:=hs
  have e50:s13 50=114:=by decide
  rw [e50]
  refine ⟨(114,30,20,()),rfl,trivial,zea _ _ _ ?_⟩
  refine zn hs λa3 w' hs=>?_
  refine zm hs λw' hs=>?_
  refine zb (zws 1048576 (by omega) hs) λ_ w' hs=>?_
  obtain ⟨d,rfl,hs⟩:=hs
  refine ⟨(some ⟨d,0,none⟩,0,()),rfl,trivial,z1v _ _ ?_⟩
  refine wp_lt ?_
  refine zg hs ?_
  have hp0:z5n oP=true:=by kernel_rfl
  have hq0:=zyv oP d 1048576 (by omega) 114 30 20
  have hI0:InvH ⟨z41 ⟨d,oP,114,30,[]⟩ 20,0,⟨0,[]⟩⟩ ⟨1048576,-1,false,[]⟩ d 0 0:=⟨hq0,(λb hb=>by cases hb),Nat.le_refl _,by show (0:Int)<=0/\(0:Int)<=_;omega,⟨.nil,λa ha=>by cases ha⟩,Nat.le_refl _⟩
  refine zb (zqu (d:=d) (D:=⟨1048576,-1,false,[]⟩) oP 114 30 20 hp0 ⟨by decide,by decide⟩ (by omega) rfl (zd2 oP 1048576 (by omega)) (λf hf=>by cases hf) ⟨by decide,by decide⟩ (zfg _ _) (by have:=zcb (n:=0) (off:=z0t []) hq0 (Nat.le_refl _);omega) (zmw _) hs) λ_ w' hs=>?_
  obtain ⟨b,rfl,hs⟩:=hs
  refine ⟨(some ⟨b,0,none⟩,0,()),rfl,trivial,z1v _ _ ?_⟩
  refine wp_lt ?_
  refine zu ?_ (by simp)
  have hI1:=(zjd hI0).1
  have hs:Sat w' (ofP b (z56 ⟨z41 ⟨d,oP,114,30,[]⟩ 20,0,⟨0,[]⟩⟩)::dk d ⟨1048576,-1,false,[]⟩::l):=(show Sat w' (ofP b (z56 ⟨z41 ⟨d,oP,114,30,[]⟩ 20,0,⟨0,[]⟩⟩)::dk d ⟨1048576,-1,false,[]⟩::pt a3 (.cells #[.int .i64 114,.int .i64 30,.int .i64 20] T.a35)::l) from hs).sub
  generalize z56 ⟨z41 ⟨d,oP,114,30,[]⟩ 20,0,⟨0,[]⟩⟩=M0 at hs hI1
  generalize (⟨1048576,-1,false,[]⟩:DiskA)=D0 at hs hI1
  clear hI0 hq0
  refine zl (λ_ w'=>Sat w' l) ?_ ?_
  rotate_left
  ·rintro _ w2 hs
   refine zk ?_
   refine zb (zvr hs) λ_ w' hs=>?_
   obtain ⟨rfl,hs⟩:=hs
   refine zd ?_
   refine wp_lt ?_
   exact ⟨rfl,rfl,hs⟩
  have hs:Sat w' (slc T.a23 4 ⟨none,0,0⟩ (([]:List ComM).flatMap z0b)::ofP b M0::dk d D0::l):=hs.slc_nil
  refine z03 (λm q w=>∃ (i:Nat) (z:Sl) (W:List ComM) (M:OffA) (D:DiskA),q=(z,(i:Int),())/\i<=ops.length/\i<=30/\ops.length-i=m/\InvH M D d i (i*2000)/\W.length<=1000000/\(∀ c ∈ W,(0<=c.part/\c.part<=255)/\(z0u M.C.l (z11 c.part)).isSome=true)/\Sat w (slc T.a23 4 z (W.flatMap z0b)::ofP b M::dk d D::l)) ops.length
   ⟨0,⟨none,0,0⟩,[],M0,D0,rfl,by omega,by omega,rfl,hI1.wk (by omega) (by omega),Nat.zero_le _,(λc hc=>by cases hc),hs⟩ ?_
  clear hs hI1
  rintro m _ w ⟨i,z,W,M,D,rfl,hi,hi30,hm,hI,hWl,hW,hs⟩
  refine z1v _ _ ?_
  refine zh (λhc=>?_) λhc=>?_
  rotate_left
  ·exact zo (zf hs.sub)
  have hil:i<ops.length:=by omega
  have hbr:=hops _ (List.getElem_mem hil)
  refine zl (λq' w'=>∃ (z':Sl) (W':List ComM) (M':OffA) (D':DiskA),q'=(z',())/\i<30/\InvH M' D' d (i+1) ((i+1)*2000)/\W'.length<=1000000/\(∀ c ∈ W',(0<=c.part/\c.part<=255)/\(z0u M'.C.l (z11 c.part)).isSome=true)/\Sat w' (slc T.a23 4 z' (W'.flatMap z0b)::ofP b M'::dk d D'::l)) ?_ ?_
  rotate_left
  ·rintro _ w2 ⟨z',W',M',D',rfl,h30,hI',hWl',hW',hs⟩
   refine zk ?_
   refine z1k (us':=[z'.v,.int .i64 ((i+1:Nat):Int)]) (by (try simp (disch:=omega) only [w64]);first|rfl|(congr;omega)) ?_
   exact z0l (ops.length-(i+1)) ⟨i+1,z',W',M',D',rfl,by omega,by omega,rfl,hI',hWl',hW',hs⟩
  refine z1s hs (xs:=ops) (enc:=zbu) i hil ?_
  generalize ops[i]=o at hbr hs ⊢
  obtain ⟨hbr1,hcap⟩:=hbr
  refine zn hs λa24 w' hs=>?_
  refine wp_lt ?_
  refine zm hs λw' hs=>?_
  refine zh (λh30=>?_) λh30=>?_
  ·exact zo (zo (zf hs.sub))
  have h30:i<30:=by omega
  refine z8 hs ?_
  have hcp:Cpl M.A.L.pre M.A.L.l D:=by rw [hI.q.pre];exact hI.q.cpl
  have hpr:z5n M.A.L.pre=true:=by rw [hI.q.pre];exact hp0
  have hat:=hI.at_
  have hml:=hI.len
  refine zl (λ_ w'=>∃ (M':OffA) (D':DiskA),InvH M' D' d (i+1) ((i+1)*2000)/\(∀ key,(z0u M.C.l key).isSome=true->(z0u M'.C.l key).isSome=true)/\Sat w' (ofP b M'::dk d D'::slc T.a23 4 z (W.flatMap z0b)::l)) ?_ ?_
  ·refine zh (λhk=>?_) λhk=>?_
   ·refine z8 hs ?_
    refine z8 hs ?_
    refine z8 hs ?_
    refine z8 hs ?_
    have hs:Sat w' (ofP b M::dk d D::slc T.a23 4 z (W.flatMap z0b)::l):=hs.sub
    have hs:=gdk hI.q.dd.symm hs
    have hIp:=zlw (b:=z1h o.pid o.epoch o.yes o.time ⟨none,0,0⟩) (zxe _ _ _ _ _) hI
    refine zb (zqt (b:=b) (M:=M) (D:=D) o.pid o.epoch o.yes o.time hcp (zid _ hpr hcp) (by omega) (zfg _ _) (by have:=zcb (off:=M.at_) hIp.q hIp.many;have:M.C.l.length+(z17 (z09 M.A D (z1h o.pid o.epoch o.yes o.time ⟨none,0,0⟩)).2.1 M.at_ 1099511627776 true).1.1.length<=i*2000+(i+1)*64:=Nat.add_le_add hml this;omega) (zmw _) hs) λ_ w' hs=>?_
    obtain ⟨rfl,hs⟩:=hs
    refine ⟨(_,_,()),rfl,trivial,z1v _ _ ?_⟩
    have hs:=gdk hI.q.dd hs
    by_cases he:(z09 M.A D (z1h o.pid o.epoch o.yes o.time ⟨none,0,0⟩)).1.2.2=0
    ·rw [if_pos he] at hs
     obtain ⟨r1,r2⟩:=zjd hIp
     exact zf ⟨_,_,r1.wk (Nat.le_refl _) (by omega),r2,hs⟩
    ·rw [if_neg he] at hs
     exact zf ⟨_,_,hIp.wk (Nat.le_refl _) (by omega),λ_ h=>h,hs⟩
   ·refine z8 hs ?_
    refine zb (z041 o.x o.cs hcap hs) λ_ w' hs=>?_
    obtain ⟨y,rfl,hy,hs⟩:=hs
    refine zd ?_
    have hyl:=hs.slen y (xs:=o.cs.take 4) (enc:=z0b)
    have h4:(o.cs.take 4).length<=4:=by rw [List.length_take];omega
    generalize o.cs.take 4=cs at hy hyl h4
    refine zl (λq w'=>∃ z2:Sl,q=(z2,())/\Sat w' (slc T.a23 4 z2 (cs.flatMap z0b)::pt a24 (.cells #[.int .i64 o.kind,.int .i64 o.pid,.int .i64 o.epoch,.int .i64 o.seq,.int .i64 o.time,.bool o.yes,.slice o.x.a o.x.len o.x.cap] T.a55)::slc T.a23 4 z (W.flatMap z0b)::ofP b M::dk d D::l)) ?_ ?_
    ·have hs:Sat w' (slc T.a23 4 ⟨none,0,0⟩ (([]:List ComM).flatMap z0b)::pt a24 (.cells #[.int .i64 o.kind,.int .i64 o.pid,.int .i64 o.epoch,.int .i64 o.seq,.int .i64 o.time,.bool o.yes,.slice o.x.a o.x.len o.x.cap] T.a55)::slc T.a23 4 z (W.flatMap z0b)::ofP b M::dk d D::l):=hs.slc_nil
     refine z03 (λm q w=>∃ (j:Nat) (z2:Sl),q=(z2,(j:Int),())/\j<=cs.length/\cs.length-j=m/\Sat w (slc T.a23 4 z2 ((cs.take j).flatMap z0b)::pt a24 (.cells #[.int .i64 o.kind,.int .i64 o.pid,.int .i64 o.epoch,.int .i64 o.seq,.int .i64 o.time,.bool o.yes,.slice o.x.a o.x.len o.x.cap] T.a55)::slc T.a23 4 z (W.flatMap z0b)::ofP b M::dk d D::l)) cs.length
      ⟨0,⟨none,0,0⟩,rfl,by omega,rfl,hs⟩ ?_
     clear hs
     rintro m2 _ w ⟨j,z2,rfl,hj,hm2,hs⟩
     refine z1v _ _ ?_
     refine zh (λhc2=>?_) λhc2=>?_
     rotate_left
     ·rw [List.take_of_length_le (by omega)] at hs
      exact zo (zf ⟨z2,rfl,hs⟩)
     have hjl:j<cs.length:=by omega
     have htk:cs.take (j+1)=cs.take j++[cs[j]]:=by rw [List.take_add_one,List.getElem?_eq_getElem hjl,Option.toList_some]
     refine z1s hs (x:=y) (xs:=cs) (enc:=z0b) j hjl ?_
     generalize cs[j]=c at *
     refine zn hs λa43 w' hs=>?_
     refine zm hs λw' hs=>?_
     refine zg hs ?_
     refine zb (z072 c hs) λ_ w' hs=>?_
     obtain ⟨rfl,hs⟩:=hs
     refine ⟨(c.part,c.off,c.mem,c.gen,()),rfl,trivial,zkr _ _ _ _ ?_⟩
     refine z3w hs (xs:=cs.take j) (enc:=z0b) c (λz3 w' hs=>?_) rfl (by rw [List.length_take];omega)
     rw [<- htk] at hs
     refine z1k (us':=[z3.v,.int .i64 ((j+1:Nat):Int)]) (by (try simp (disch:=omega) only [w64]);first|rfl|(congr;omega)) ?_
     exact z0l (cs.length-(j+1)) ⟨j+1,z3,rfl,by omega,rfl,hs.sub⟩
    clear hs
    rintro _ w ⟨z2,rfl,hs⟩
    refine zk ?_
    refine z8 hs ?_
    refine z8 hs ?_
    refine z8 hs ?_
    refine z8 hs ?_
    have hs:Sat w (ofP b M::dk d D::slc T.a23 4 z2 (cs.flatMap z0b)::slc T.a23 4 z (W.flatMap z0b)::l):=hs.sub
    have hs:=gdk hI.q.dd.symm hs
    refine zb (z04t (b:=b) (M:=M) (D:=D) o.pid o.epoch o.seq o.time z2 cs (by omega) inferInstance hcp hs) λ_ w' hs=>?_
    obtain ⟨again,e,M',D',rfl,hM,hs⟩:=hs
    refine ⟨(again,e,()),rfl,trivial,z1v _ _ ?_⟩
    have hs:=gdk hI.q.dd hs
    rcases hM with ⟨e1,e2⟩|⟨z4,e1,e2⟩
    ·rw [e1,e2] at hs
     exact zf ⟨M,D,hI.wk (by omega) (by omega),λ_ h=>h,hs.sub⟩
    ·rw [e1,e2] at hs
     exact zf ⟨_,_,(zlw (b:=z6g o.pid o.epoch o.seq o.time z4 cs) (by show (1:Int)≠0;omega) hI).wk (Nat.le_refl _) (by omega),λ_ h=>h,hs.sub⟩
  clear hs hI hcp hat hml
  rintro _ w ⟨M',D',hI,hmono,hs⟩
  refine zk ?_
  have hcp:Cpl M'.A.L.pre M'.A.L.l D':=by rw [hI.q.pre];exact hI.q.cpl
  have hml:=hI.len
  refine zb (z06y (b:=b) (M:=M') (λa ha=>by obtain ⟨c,hc⟩:=(hI.tab.held a ha).1;exact zla hc) (by omega) hs) λ_ w' hs=>?_
  obtain ⟨z',rfl,hs⟩:=hs
  refine zd ?_
  have hs:Sat w' (ofP b M'::dk d D'::slc T.a23 4 z' ((z87 M'.C).flatMap z0b)::slc T.a23 4 z (W.flatMap z0b)::l):=hs.sub
  have hs:=gdk hI.q.dd.symm hs
  refine zb (z04q (b:=b) (M:=M') (D:=D') hcp hs) λ_ w' hs=>?_
  obtain ⟨y,outs,rfl,hmap,hs⟩:=hs
  refine zd ?_
  rw [hI.q.dd] at hs
  have hW2:∀ c ∈ W,(0<=c.part/\c.part<=255)/\(z0u M'.C.l (z11 c.part)).isSome=true:=λc hc=>⟨(hW c hc).1,hmono _ (hW c hc).2⟩
  have hval:∀ b' ∈ outs,∀ u ∈ b'.rs,u.value.size<=1000000:=λb' hb' u hu=>by
   have h1:b'.p ∈ z0d M'.A.L.l:=by rw [<- hmap];exact List.mem_map.2 ⟨b',hb',rfl⟩
   have h2:=(z1q ((z7i (Int.le_refl 0) hI.q.cpl.segs).valid _ h1).1).2 u hu
   have:=(z3j h2).2.1
   omega
  have hol:outs.length<=31:=by
   have h1:=congrArg List.length hmap
   have h2:=hI.many
   rw [List.length_map] at h1
   omega
  have hr64:∀ b' ∈ outs,b'.rs.length<=64:=λb' hb'=>by
   have h1:b'.p ∈ z0d M'.A.L.l:=by rw [<- hmap];exact List.mem_map.2 ⟨b',hb',rfl⟩
   exact (z1q ((z7i (Int.le_refl 0) hI.q.cpl.segs).valid _ h1).1).1
  have hzl:=hs.slen z (xs:=W) (enc:=z0b)
  have hzl':=hs.slen z' (xs:=z87 M'.C) (enc:=z0b)
  have hyl:=hs.slen y (xs:=outs) (enc:=zp)
  have hKl:(z87 M'.C).length<=1000000:=by unfold z87;rw [List.length_map];omega
  refine zl (λ_ w'=>Sat w' (slc T.a0 7 y (outs.flatMap zp)::z0i outs::ofP b M'::dk d D'::slc T.a23 4 z' ((z87 M'.C).flatMap z0b)::slc T.a23 4 z (W.flatMap z0b)::l)) ?_ ?_
  ·refine z03 (λm q w=>∃ j:Nat,q=((j:Int),())/\j<=W.length/\W.length-j=m/\Sat w (slc T.a0 7 y (outs.flatMap zp)::z0i outs::ofP b M'::dk d D'::slc T.a23 4 z' ((z87 M'.C).flatMap z0b)::slc T.a23 4 z (W.flatMap z0b)::l)) W.length ⟨0,rfl,by omega,rfl,hs⟩ ?_
   clear hs
   rintro m2 _ w ⟨j,rfl,hj,hm2,hs⟩
   refine zk ?_
   refine zh (λhc2=>?_) λhc2=>?_
   rotate_left
   ·exact zo (zf hs)
   have hjl:j<W.length:=by omega
   have hcj:=hW2 _ (List.getElem_mem hjl)
   refine z1s hs (x:=z) (xs:=W) (enc:=z0b) j hjl ?_
   generalize W[j]=c at hcj hs ⊢
   refine zn hs λa70 w' hs=>?_
   refine zm hs λw' hs=>?_
   refine z8 hs ?_
   refine zb (zsn (b:=b) (M:=M') c.part hcj.1 (λa ha=>by obtain ⟨c,hc⟩:=(hI.tab.held a ha).1;exact zla hc) hs) λ_ w' hs=>?_
   obtain ⟨rfl,hs⟩:=hs
   refine ⟨((ofO M' c.part).1.part,(ofO M' c.part).1.off,(ofO M' c.part).1.mem,(ofO M' c.part).1.gen,(ofO M' c.part).2,()),rfl,trivial,z2q _ _ _ _ _ ?_⟩
   refine zn hs λa77 w' hs=>?_
   refine zm hs λw' hs=>?_
   refine wp_lt ?_
   refine z1r (by rw [z06z hcj.2];rfl) ?_
   refine z1k (us':=[.int .i64 ((j+1:Nat):Int)]) (by (try simp (disch:=omega) only [w64]);first|rfl|(congr;omega)) ?_
   exact z0l (W.length-(j+1)) ⟨j+1,rfl,by omega,rfl,hs.sub⟩
  clear hs
  rintro _ w hs
  refine zk ?_
  refine zl (λ_ w'=>Sat w' (slc T.a0 7 y (outs.flatMap zp)::z0i outs::ofP b M'::dk d D'::slc T.a23 4 z' ((z87 M'.C).flatMap z0b)::slc T.a23 4 z (W.flatMap z0b)::l)) ?_ ?_
  rotate_left
  ·rintro _ w2 hs
   refine zk ?_
   refine zf ⟨z',z87 M'.C,M',D',rfl,h30,hI,hKl,λc hc=>?_,hs.sub⟩
   obtain ⟨r0,h1,-,h2⟩:=zkz hI.tab hc
   exact ⟨h1.1.1,h2⟩
  have hwit:∀ c ∈ z87 M'.C,∃ r0,z3r r0 c/\∃ (i0:Nat) (hi:i0<outs.length),r0 ∈ outs[i0].rs/\∃ m ∈ outs.drop (i0+1),m.kind=2/\m.pid=outs[i0].pid/\m.epoch=outs[i0].epoch:=λc hc=>by
   obtain ⟨r0,h1,h2,-⟩:=zkz hI.tab hc
   exact ⟨r0,h1,zwd hmap h2⟩
  clear hW hW2 hmono hI hcp hml hmap
  generalize z87 M'.C=K at *
  refine z03 (λm q w=>∃ j:Nat,q=((j:Int),())/\j<=K.length/\K.length-j=m/\Sat w (slc T.a0 7 y (outs.flatMap zp)::z0i outs::ofP b M'::dk d D'::slc T.a23 4 z' (K.flatMap z0b)::slc T.a23 4 z (W.flatMap z0b)::l)) K.length ⟨0,rfl,by omega,rfl,hs⟩ ?_
  clear hs
  rintro m2 _ w ⟨j,rfl,hj,hm2,hs⟩
  refine zk ?_
  refine zh (λhc2=>?_) λhc2=>?_
  rotate_left
  ·exact zo (zf hs)
  have hjl:j<K.length:=by omega
  obtain ⟨r0,hck,i0,hi0,hr0,m0,hm0,hm1⟩:=hwit _ (List.getElem_mem hjl)
  refine zl (λ_ w'=>Sat w' (slc T.a0 7 y (outs.flatMap zp)::z0i outs::ofP b M'::dk d D'::slc T.a23 4 z' (K.flatMap z0b)::slc T.a23 4 z (W.flatMap z0b)::l)) ?_ ?_
  rotate_left
  ·rintro _ w2 hs
   refine zk ?_
   refine z1k (us':=[.int .i64 ((j+1:Nat):Int)]) (by (try simp (disch:=omega) only [w64]);first|rfl|(congr;omega)) ?_
   exact z0l (K.length-(j+1)) ⟨j+1,rfl,by omega,rfl,hs⟩
  refine z1s hs (x:=z') (xs:=K) (enc:=z0b) j hjl ?_
  generalize K[j]=c at hck hs ⊢
  refine zn hs λa86 w' hs=>?_
  refine zm hs λw' hs=>?_
  refine zl (λq w'=>q=(true,())/\Sat w' (pt a86 (.cells #[.int .i64 c.part,.int .i64 c.off,.int .i64 c.mem,.int .i64 c.gen] T.a23)::slc T.a0 7 y (outs.flatMap zp)::z0i outs::ofP b M'::dk d D'::slc T.a23 4 z' (K.flatMap z0b)::slc T.a23 4 z (W.flatMap z0b)::l)) ?_ ?_
  rotate_left
  ·rintro _ w2 ⟨rfl,hs⟩
   refine zk ?_
   refine z1r rfl ?_
   exact zf hs.sub
  have hs:Sat w' (pt a86 (.cells #[.int .i64 c.part,.int .i64 c.off,.int .i64 c.mem,.int .i64 c.gen] T.a23)::slc T.a0 7 y (outs.flatMap zp)::z0i outs::ofP b M'::dk d D'::slc T.a23 4 z' (K.flatMap z0b)::slc T.a23 4 z (W.flatMap z0b)::l):=hs
  refine z03 (λm q w=>∃ (n:Nat) (v:Bool),q=(v,(n:Int),())/\n<=outs.length/\outs.length-n=m/\(i0<n->v=true)/\Sat w (pt a86 (.cells #[.int .i64 c.part,.int .i64 c.off,.int .i64 c.mem,.int .i64 c.gen] T.a23)::slc T.a0 7 y (outs.flatMap zp)::z0i outs::ofP b M'::dk d D'::slc T.a23 4 z' (K.flatMap z0b)::slc T.a23 4 z (W.flatMap z0b)::l)) outs.length ⟨0,false,rfl,by omega,rfl,λh=>by omega,hs⟩ ?_
  clear hs
  rintro m3 _ w ⟨n,v,rfl,hn,hm3,hv,hs⟩
  refine z1v _ _ ?_
  refine zh (λhc3=>?_) λhc3=>?_
  rotate_left
  ·refine zo (zf ⟨?_,hs⟩)
   rw [hv (by omega)]
  have hnl:n<outs.length:=by omega
  refine zl (λq w'=>∃ v':Bool,q=(v',())/\(v=true->v'=true)/\(n=i0->v'=true)/\Sat w' (pt a86 (.cells #[.int .i64 c.part,.int .i64 c.off,.int .i64 c.mem,.int .i64 c.gen] T.a23)::slc T.a0 7 y (outs.flatMap zp)::z0i outs::ofP b M'::dk d D'::slc T.a23 4 z' (K.flatMap z0b)::slc T.a23 4 z (W.flatMap z0b)::l)) ?_ ?_
  rotate_left
  ·rintro _ w2 ⟨v',rfl,g1,g2,hs⟩
   refine zk ?_
   refine z1k (us':=[.bool v',.int .i64 ((n+1:Nat):Int)]) (by (try simp (disch:=omega) only [w64]);first|rfl|(congr;omega)) ?_
   refine z0l (outs.length-(n+1)) ⟨n+1,v',rfl,by omega,rfl,λh=>?_,hs⟩
   rcases Nat.lt_or_ge i0 n with h1|h1
   ·exact g1 (hv h1)
   ·exact g2 (by omega)
  have hmo:=List.getElem_mem hnl
  have hbat:FocR (z0i outs::ofP b M'::dk d D'::slc T.a23 4 z' (K.flatMap z0b)::slc T.a23 4 z (W.flatMap z0b)::l) outs[n].x 4 (outs[n].rs.flatMap z01):=zdx hmo
  have hvn:=hval _ hmo
  have hrn:=hr64 _ hmo
  have hr1:n=i0->r0 ∈ outs[n].rs/\∃ m ∈ outs.drop (n+1),m.kind=2/\m.pid=outs[n].pid/\m.epoch=outs[n].epoch:=λh=>by subst h;exact ⟨hr0,m0,hm0,hm1⟩
  clear hr0 hm0 hm1 hmo
  refine z1s hs (x:=y) (xs:=outs) (enc:=zp) n hnl ?_
  generalize outs[n]=o2 at hbat hvn hrn hr1 hs ⊢
  refine zn hs λa98 w' hs=>?_
  refine wp_lt ?_
  refine zm hs λw' hs=>?_
  refine z8 hs ?_
  have hs:Sat w' (pt a98 (.cells #[.int .i64 o2.base,.int .i64 o2.pid,.int .i64 o2.epoch,.int .i64 o2.seq,.int .i64 o2.kind,.int .i64 o2.time,.slice o2.x.a o2.x.len o2.x.cap] T.a0)::pt a86 (.cells #[.int .i64 c.part,.int .i64 c.off,.int .i64 c.mem,.int .i64 c.gen] T.a23)::slc T.a0 7 y (outs.flatMap zp)::z0i outs::ofP b M'::dk d D'::slc T.a23 4 z' (K.flatMap z0b)::slc T.a23 4 z (W.flatMap z0b)::l):=hs
  have hxl2:=hs.slen o2.x (xs:=o2.rs) (enc:=z01)
  refine zl (λq w'=>∃ v':Bool,q=(v',())/\(v=true->v'=true)/\(n=i0->v'=true)/\Sat w' (pt a98 (.cells #[.int .i64 o2.base,.int .i64 o2.pid,.int .i64 o2.epoch,.int .i64 o2.seq,.int .i64 o2.kind,.int .i64 o2.time,.slice o2.x.a o2.x.len o2.x.cap] T.a0)::pt a86 (.cells #[.int .i64 c.part,.int .i64 c.off,.int .i64 c.mem,.int .i64 c.gen] T.a23)::slc T.a0 7 y (outs.flatMap zp)::z0i outs::ofP b M'::dk d D'::slc T.a23 4 z' (K.flatMap z0b)::slc T.a23 4 z (W.flatMap z0b)::l)) ?_ ?_
  rotate_left
  ·rintro _ w2 ⟨v',rfl,g1,g2,hs⟩
   refine zk ?_
   exact zf ⟨v',rfl,g1,g2,hs.sub⟩
  refine z03 (λm q w=>∃ (k:Nat) (v2:Bool),q=(v2,(k:Int),())/\k<=o2.rs.length/\o2.rs.length-k=m/\(v=true->v2=true)/\(n=i0->r0 ∈ o2.rs.take k->v2=true)/\Sat w (pt a98 (.cells #[.int .i64 o2.base,.int .i64 o2.pid,.int .i64 o2.epoch,.int .i64 o2.seq,.int .i64 o2.kind,.int .i64 o2.time,.slice o2.x.a o2.x.len o2.x.cap] T.a0)::pt a86 (.cells #[.int .i64 c.part,.int .i64 c.off,.int .i64 c.mem,.int .i64 c.gen] T.a23)::slc T.a0 7 y (outs.flatMap zp)::z0i outs::ofP b M'::dk d D'::slc T.a23 4 z' (K.flatMap z0b)::slc T.a23 4 z (W.flatMap z0b)::l)) o2.rs.length ⟨0,v,rfl,by omega,rfl,id,(λ_ h=>by cases h),hs⟩ ?_
  clear hs
  rintro m4 _ w ⟨k,v2,rfl,hk,hm4,hv1,hv2,hs⟩
  refine z1v _ _ ?_
  refine zh (λhc4=>?_) λhc4=>?_
  rotate_left
  ·rw [List.take_of_length_le (by omega)] at hv2
   exact zo (zf ⟨v2,rfl,hv1,λh=>hv2 h (hr1 h).1,hs⟩)
  have hkl:k<o2.rs.length:=by omega
  have htk:o2.rs.take (k+1)=o2.rs.take k++[o2.rs[k]]:=by rw [List.take_add_one,List.getElem?_eq_getElem hkl,Option.toList_some]
  have hvk:=hvn _ (List.getElem_mem hkl)
  refine zl (λq w'=>∃ v3:Bool,q=(v3,())/\(v2=true->v3=true)/\(n=i0->o2.rs[k]=r0->v3=true)/\Sat w' (pt a98 (.cells #[.int .i64 o2.base,.int .i64 o2.pid,.int .i64 o2.epoch,.int .i64 o2.seq,.int .i64 o2.kind,.int .i64 o2.time,.slice o2.x.a o2.x.len o2.x.cap] T.a0)::pt a86 (.cells #[.int .i64 c.part,.int .i64 c.off,.int .i64 c.mem,.int .i64 c.gen] T.a23)::slc T.a0 7 y (outs.flatMap zp)::z0i outs::ofP b M'::dk d D'::slc T.a23 4 z' (K.flatMap z0b)::slc T.a23 4 z (W.flatMap z0b)::l)) ?_ ?_
  rotate_left
  ·rintro _ w2 ⟨v3,rfl,g1,g2,hs⟩
   refine zk ?_
   refine z1k (us':=[.bool v3,.int .i64 ((k+1:Nat):Int)]) (by (try simp (disch:=omega) only [w64]);first|rfl|(congr;omega)) ?_
   refine z0l (o2.rs.length-(k+1)) ⟨k+1,v3,rfl,by omega,rfl,λh=>g1 (hv1 h),λh1 h2=>?_,hs⟩
   rw [htk] at h2
   rcases List.mem_append.1 h2 with h2|h2
   ·exact g1 (hv2 h1 h2)
   ·exact g2 h1 (List.mem_singleton.1 h2).symm
  clear htk
  refine z1s hs (x:=o2.x) (xs:=o2.rs) (enc:=z01) k hkl ?_
  generalize o2.rs[k]=u at hvk hs ⊢
  refine zn hs λa109 w' hs=>?_
  refine zm hs λw' hs=>?_
  refine zg hs ?_
  refine zb (zyh u hvk hs) λ_ w' hs=>?_
  obtain ⟨c',e',rfl,hpk,hs⟩:=hs
  refine ⟨(c'.part,c'.off,c'.mem,c'.gen,e',()),rfl,trivial,z2q _ _ _ _ _ ?_⟩
  refine zn hs λa119 w' hs=>?_
  refine zm hs λw' hs=>?_
  refine wp_lt ?_
  refine zl (λq w'=>∃ bb:Bool,q=(bb,())/\(e'=0->c'=c->bb=false)/\Sat w' (pt a98 (.cells #[.int .i64 o2.base,.int .i64 o2.pid,.int .i64 o2.epoch,.int .i64 o2.seq,.int .i64 o2.kind,.int .i64 o2.time,.slice o2.x.a o2.x.len o2.x.cap] T.a0)::pt a86 (.cells #[.int .i64 c.part,.int .i64 c.off,.int .i64 c.mem,.int .i64 c.gen] T.a23)::slc T.a0 7 y (outs.flatMap zp)::z0i outs::ofP b M'::dk d D'::slc T.a23 4 z' (K.flatMap z0b)::slc T.a23 4 z (W.flatMap z0b)::l)) ?_ ?_
  ·refine zv hs λw' hs=>?_
   refine z07u hs (c'.part,c'.off,c'.mem,c'.gen,()) ?_
   refine zae hs (c.part,c.off,c.mem,c.gen,()) ?_
   refine zh (λhe=>?_) λhe=>?_
   ·have he:e'≠0:=by simpa using he
    refine ze ?_
    exact zf ⟨true,rfl,λh=>absurd h he,hs.sub⟩
   ·refine zb (z04x c hs) λ_ w' hs=>?_
    obtain ⟨rfl,hs⟩:=hs
    refine ⟨(c.part,c.off,c.mem,c.gen,()),rfl,(by first|trivial|(repeat (first|exact trivial|exact λ_=>z08 hs|exact λ_=>z0f hs|refine And.intro ?_ ?_))),zkr _ _ _ _ ?_⟩
    refine ze ?_
    exact zf ⟨_,rfl,λ_ h=>by rw [h];simp,hs.sub⟩
  clear hs
  rintro _ w ⟨bb,rfl,hbb,hs⟩
  refine zk ?_
  have hbf:n=i0->u=r0->bb=false:=λh1 h2=>by
   subst h2
   rcases hpk with ⟨h3,h4⟩|⟨-,-,h4⟩
   ·exact hbb h3 (zyy h4 hck)
   ·exact absurd hck (h4 c)
  cases bb with
  | true =>
   refine z3b rfl ?_
   exact zf ⟨v2,rfl,id,(λh1 h2=>by cases hbf h1 h2),hs⟩
  | false =>
   refine z1r rfl ?_
   have e1:IntKind.wrap .i64 ((n:Int)+1)=((n+1:Nat):Int):=by rw [w64 (by omega) (by omega)];omega
   rw [e1,Int.toNat_natCast]
   refine wp_must (by omega) ?_
   refine zl (λq w'=>∃ v3:Bool,q=(v3,())/\(v2=true->v3=true)/\(n=i0->v3=true)/\Sat w' (pt a98 (.cells #[.int .i64 o2.base,.int .i64 o2.pid,.int .i64 o2.epoch,.int .i64 o2.seq,.int .i64 o2.kind,.int .i64 o2.time,.slice o2.x.a o2.x.len o2.x.cap] T.a0)::pt a86 (.cells #[.int .i64 c.part,.int .i64 c.off,.int .i64 c.mem,.int .i64 c.gen] T.a23)::slc T.a0 7 y (outs.flatMap zp)::z0i outs::ofP b M'::dk d D'::slc T.a23 4 z' (K.flatMap z0b)::slc T.a23 4 z (W.flatMap z0b)::l)) ?_ ?_
   rotate_left
   ·rintro _ w2 ⟨v3,rfl,g1,g2,hs⟩
    refine zk ?_
    exact zf ⟨v3,rfl,g1,λh _=>g2 h,hs⟩
   have hdl:(outs.drop (n+1)).length=outs.length-(n+1):=List.length_drop ..
   have hfp:FocR (pt a98 (.cells #[.int .i64 o2.base,.int .i64 o2.pid,.int .i64 o2.epoch,.int .i64 o2.seq,.int .i64 o2.kind,.int .i64 o2.time,.slice o2.x.a o2.x.len o2.x.cap] T.a0)::pt a86 (.cells #[.int .i64 c.part,.int .i64 c.off,.int .i64 c.mem,.int .i64 c.gen] T.a23)::slc T.a0 7 y (outs.flatMap zp)::z0i outs::ofP b M'::dk d D'::slc T.a23 4 z' (K.flatMap z0b)::slc T.a23 4 z (W.flatMap z0b)::l) ⟨z0q y.a 7 (n+1) y.cap,y.len-(n+1),y.cap-(n+1)⟩ 7 ((outs.drop (n+1)).flatMap zp):=FocR.post (by have:=(hs.pick [2]).slc_cap;omega)
   refine z03 (λm q w=>∃ (k3:Nat) (v3:Bool),q=(v3,(k3:Int),())/\k3<=(outs.drop (n+1)).length/\(outs.drop (n+1)).length-k3=m/\(v2=true->v3=true)/\((∃ m ∈ (outs.drop (n+1)).take k3,m.kind=2/\m.pid=o2.pid/\m.epoch=o2.epoch)->v3=true)/\Sat w (pt a98 (.cells #[.int .i64 o2.base,.int .i64 o2.pid,.int .i64 o2.epoch,.int .i64 o2.seq,.int .i64 o2.kind,.int .i64 o2.time,.slice o2.x.a o2.x.len o2.x.cap] T.a0)::pt a86 (.cells #[.int .i64 c.part,.int .i64 c.off,.int .i64 c.mem,.int .i64 c.gen] T.a23)::slc T.a0 7 y (outs.flatMap zp)::z0i outs::ofP b M'::dk d D'::slc T.a23 4 z' (K.flatMap z0b)::slc T.a23 4 z (W.flatMap z0b)::l)) (outs.drop (n+1)).length
    ⟨0,v2,rfl,by omega,rfl,id,(λ⟨m,h,_⟩=>by cases h),hs⟩ ?_
   clear hs
   rintro m5 _ w ⟨k3,v3,rfl,hk3,hm5,g1,g2,hs⟩
   refine z1v _ _ ?_
   refine zh (λhc5=>?_) λhc5=>?_
   rotate_left
   ·rw [List.take_of_length_le (by omega)] at g2
    exact zo (zf ⟨v3,rfl,g1,λh=>g2 (hr1 h).2,hs⟩)
   have hk3l:k3<(outs.drop (n+1)).length:=by omega
   have htk:(outs.drop (n+1)).take (k3+1)=(outs.drop (n+1)).take k3++[(outs.drop (n+1))[k3]]:=by rw [List.take_add_one,List.getElem?_eq_getElem hk3l,Option.toList_some]
   refine z1s (x:=⟨z0q y.a 7 (n+1) y.cap,y.len-(n+1),y.cap-(n+1)⟩) hs (xs:=outs.drop (n+1)) (enc:=zp) k3 hk3l ?_
   generalize (outs.drop (n+1))[k3]=mm at *
   refine zn hs λa145 w' hs=>?_
   refine zm hs λw' hs=>?_
   refine z8 hs ?_
   refine z8 hs ?_
   refine z8 hs ?_
   refine z8 hs ?_
   refine z8 hs ?_
   refine wp_lt ?_
   refine z1k (us':=[.bool (v3 || mm.kind == 2 && mm.pid == o2.pid && mm.epoch == o2.epoch),.int .i64 ((k3+1:Nat):Int)]) (by (try simp (disch:=omega) only [w64]);first|rfl|(congr;omega)) ?_
   refine z0l ((outs.drop (n+1)).length-(k3+1)) ⟨k3+1,_,rfl,by omega,rfl,λh=>by rw [g1 h];rfl,λ⟨m,h,h1⟩=>?_,hs.sub⟩
   rw [htk] at h
   rcases List.mem_append.1 h with h|h
   ·rw [g2 ⟨m,h,h1⟩];rfl
   ·rw [List.mem_singleton.1 h] at h1
    rw [h1.1,h1.2.1,h1.2.2];simp
end
open Go.ChangeShapes Go.WideShapes Go.RowKit Go.Deep
section
variable {H:Type} {enc:TypeId × Value->H} {P:Program} {w:World} {base:Nat} {spare:Nat->Bool} {held:Bool}
theorem zey {t:TypeId} {fs:Array Field} {n C:Nat} {cs:List Value} {y:DataW H × List MemPlace} (ht:P.underlying t=some (.struct fs)) (hd:DataW.trod enc P w base spare held n t cs=some y) (hC:P.cellsOf t=C) :
  cs.length=C/\∃ n',∀ (j:Nat) (f:Field),fs[j]? = some f->∃ y,DataW.trod enc P w base spare held n' f.type ((cs.drop f.offset).take (P.cellsOf f.type))=some y:=by
 obtain ⟨ys,n',hn',hy,hlen,hyl,hf⟩:=DataW.trod_struct ht hd
 refine ⟨by rw [hlen,hC],n',λj f hj=>?_⟩
 have hjl:j<fs.size:=(Array.getElem?_eq_some_iff.1 hj).1
 have h1:=hf j f hj
 rw [List.getElem?_eq_getElem (by omega)] at h1
 exact ⟨_,h1⟩
theorem z0ax {t e:TypeId} {r:Reach} {b0:Nat} {v:Value} {d:DataW H} {ps:List MemPlace} (ht:P.underlying t=some (.slice e)) (hval:Value.okWide P w r b0 t v) (hd:DataW.Trod enc P w base spare held t v d ps):∃ (fuel:Nat) (y:DataW H × List MemPlace),DataW.trod enc P w base spare held fuel t [v]=some y:=by
 obtain ⟨a0,len0,cap0,rfl⟩:=okWide_slice ht hval
 obtain ⟨fuel,hf⟩:=hd
 exact ⟨fuel,_,hf⟩
theorem z0ah {W:World} {sz:Nat} {x:Sl} {cs:List Value} (h:Rd W sz x cs):FocR [whole W] x sz cs:=⟨λw hs=>z054 hs.of_whole.1 h⟩
end
open Go.ChangeShapes Go.WideShapes Go.RowKit Go.Deep
section
variable {H:Type} {enc:TypeId × Value->H} {P:Program} {w:World} {base:Nat} {spare:Nat->Bool} {held:Bool}
theorem z0ar {t:TypeId} {f0 f1 f2 f3:Field} {n:Nat} {cs:List Value} {y:DataW H × List MemPlace} (ht:P.underlying t=some (.struct #[f0,f1,f2,f3])) (hC:P.cellsOf t=4) (k0:P.underlying f0.type=some (.int .i64)) (k1:P.underlying f1.type=some (.int .i64)) (k2:P.underlying f2.type=some (.int .i64)) (k3:P.underlying f3.type=some (.int .i64))
  (o0:f0.offset=0) (o1:f1.offset=1) (o2:f2.offset=2) (o3:f3.offset=3) (c0:P.cellsOf f0.type=1) (c1:P.cellsOf f1.type=1) (c2:P.cellsOf f2.type=1) (c3:P.cellsOf f3.type=1)
  (hd:DataW.trod enc P w base spare held n t cs=some y):∃ r:ComM,cs=z0b r:=by
 obtain ⟨hl,n',hf⟩:=zey ht hd hC
 match cs,hl with
 | [v0,v1,v2,v3],_ =>
  obtain ⟨y0,h0⟩:=hf 0 f0 rfl
  obtain ⟨y1,h1⟩:=hf 1 f1 rfl
  obtain ⟨y2,h2⟩:=hf 2 f2 rfl
  obtain ⟨y3,h3⟩:=hf 3 f3 rfl
  rw [o0,c0] at h0
  rw [o1,c1] at h1
  rw [o2,c2] at h2
  rw [o3,c3] at h3
  obtain ⟨n0,q0,-,-⟩:=DataW.trod_int k0 h0
  obtain ⟨n1,q1,-,-⟩:=DataW.trod_int k1 h1
  obtain ⟨n2,q2,-,-⟩:=DataW.trod_int k2 h2
  obtain ⟨n3,q3,-,-⟩:=DataW.trod_int k3 h3
  simp at q0 q1 q2 q3
  subst q0 q1 q2 q3
  exact ⟨⟨n0,n1,n2,n3⟩,rfl⟩
end
open Go.ChangeShapes Go.WideShapes Go.RowKit Go.Deep
section
variable {H:Type} {enc:TypeId × Value->H} {P:Program} {w:World} {base:Nat} {spare:Nat->Bool} {held:Bool}
theorem z0as {t tr:TypeId} {b0 b1 b2 b3 b4 b5 b6:Field} {n:Nat} {cs:List Value} {y:DataW H × List MemPlace} (ht:P.underlying t=some (.struct #[b0,b1,b2,b3,b4,b5,b6])) (hC:P.cellsOf t=7)
  (hone:oneCellFields P #[b0,b1,b2,b3,b4,b5,b6]=true) (l0:P.underlying b0.type=some (.int .i64)) (l1:P.underlying b1.type=some (.int .i64)) (l2:P.underlying b2.type=some (.int .i64)) (l3:P.underlying b3.type=some (.int .i64)) (l4:P.underlying b4.type=some (.int .i64)) (l5:P.underlying b5.type=some .bool)
  (l6:P.underlying b6.type=some (.slice tr)) (hR:P.cellsOf tr=4) (hrec:∀ (n:Nat) (cs:List Value) (y:DataW H × List MemPlace),cs.length=4->DataW.trod enc P w base spare held n tr cs=some y->∃ c:ComM,cs=z0b c/\True)
  (hd:DataW.trod enc P w base spare held n t cs=some y):∃ o:OpK,cs=zbu o/\Rd w 4 o.x (o.cs.flatMap z0b)/\o.x.len<=o.x.cap:=by
 obtain ⟨hl,m,hg⟩:=zey ht hd hC
 match cs,hl with
 | [v1,v2,v3,v4,v5,v6,v7],_ =>
  have one:∀ (j:Nat) (f:Field) (u:Value),#[b0,b1,b2,b3,b4,b5,b6][j]? = some f->[v1,v2,v3,v4,v5,v6,v7][j]? = some u->∃ y,DataW.trod enc P w base spare held m f.type [u]=some y:=λj f u hj hu=>by
   obtain ⟨ho,hk⟩:=hone_of hone j f hj
   obtain ⟨y,h1⟩:=hg j f hj
   rw [ho,hk] at h1
   obtain ⟨hjl,rfl⟩:=List.getElem?_eq_some_iff.1 hu
   have hone':([v1,v2,v3,v4,v5,v6,v7].drop j).take 1=[[v1,v2,v3,v4,v5,v6,v7][j]]:=by
    rw [List.drop_eq_getElem_cons hjl];rfl
   rw [hone'] at h1
   exact ⟨y,h1⟩
  obtain ⟨z0,e0⟩:=one 0 b0 v1 rfl rfl
  obtain ⟨z1,e1⟩:=one 1 b1 v2 rfl rfl
  obtain ⟨z2,e2⟩:=one 2 b2 v3 rfl rfl
  obtain ⟨z3,e3⟩:=one 3 b3 v4 rfl rfl
  obtain ⟨z4,e4⟩:=one 4 b4 v5 rfl rfl
  obtain ⟨z5,e5⟩:=one 5 b5 v6 rfl rfl
  obtain ⟨z6,e6⟩:=one 6 b6 v7 rfl rfl
  obtain ⟨m0,p0,-,-⟩:=DataW.trod_int l0 e0
  obtain ⟨m1,p1,-,-⟩:=DataW.trod_int l1 e1
  obtain ⟨m2,p2,-,-⟩:=DataW.trod_int l2 e2
  obtain ⟨m3,p3,-,-⟩:=DataW.trod_int l3 e3
  obtain ⟨m4,p4,-,-⟩:=DataW.trod_int l4 e4
  obtain ⟨m5,p5,-⟩:=DataW.trod_bool l5 e5
  obtain ⟨x,rs,p6,hcap,-,-,-,hrd⟩:=zxn l6 hR (by decide) hrec e6
  simp at p0 p1 p2 p3 p4 p5
  subst p0 p1 p2 p3 p4 p5 p6
  exact ⟨⟨m0,m1,m2,m3,m4,m5,x,rs⟩,rfl,hrd,hcap⟩
end
end Go.Dec
