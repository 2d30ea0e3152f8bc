/- What the claim of this folder leans on: our own texts, joined, without what it does not use. -/
import Derived.Test.YtgpcickgjngglaaGreatQLApart5
set_option linter.unusedVariables false
set_option linter.unusedSimpArgs false
namespace Go.Dec
theorem bvi (s:BitVec 32):BitVec.ofInt 32 ((s.toNat:Nat):Int)=s:=by rw [BitVec.ofInt_natCast,BitVec.ofNat_toNat,BitVec.setWidth_eq]
theorem wbv (s:BitVec 32):IntKind.wrap .u32 ((s.toNat:Nat):Int)=((s.toNat:Nat):Int):=by rw [zl0,Nat.mod_eq_of_lt s.isLt]
theorem zx5 (s:BitVec 32):BitVec.ofInt 32 4294967295 ^^^ BitVec.ofInt 32 ((s.toNat:Nat):Int) = ~~~ s:=by
 rw [bvi]
 have:BitVec.ofInt 32 4294967295=BitVec.allOnes 32:=by decide +kernel
 rw [this,BitVec.allOnes_xor]
theorem z0a1 (s:BitVec 32):BitVec.ofInt 32 (Int.fdiv ((s.toNat:Nat):Int) 2)=s >>> 1:=by
 rw [z85 _ (by decide),BitVec.ofInt_natCast]
 apply BitVec.eq_of_toNat_eq
 have:=s.isLt
 rw [BitVec.toNat_ofNat,BitVec.toNat_ushiftRight,Nat.shiftRight_eq_div_pow]
 show s.toNat / 2 % 2 ^ 32=s.toNat / 2 ^ 1
 omega
theorem z06o (s:BitVec 32):BitVec.ofInt 32 (IntKind.wrap .u32 (0-((s.toNat:Nat):Int)))=0#32-s:=by
 apply BitVec.eq_of_toNat_eq
 have:=s.isLt
 have e:IntKind.wrap .u32 (0-((s.toNat:Nat):Int))=(((4294967296-s.toNat) % 4294967296:Nat):Int):=by
  simp [IntKind.wrap,IntKind.bits,IntKind.signed];omega
 rw [e,BitVec.ofInt_natCast,BitVec.toNat_ofNat,BitVec.toNat_sub]
 simp
theorem z05b (s:BitVec 32):IntKind.wrap .u32 (((BitVec.toNat (BitVec.ofInt 32 (Int.fdiv ((s.toNat:Nat):Int) 2) ^^^ BitVec.ofInt 32 (IntKind.wrap .u32 (((BitVec.toNat (BitVec.ofInt 32 3988292384 &&& BitVec.ofInt 32 (IntKind.wrap .u32 (0-IntKind.wrap .u32 (((BitVec.toNat (BitVec.ofInt 32 ((s.toNat:Nat):Int) &&& BitVec.ofInt 32 1):Nat):Int))))):Nat):Int)))):Nat):Int))=(((zyn s).toNat:Nat):Int):=by
 rw [wbv,wbv,wbv,bvi,bvi,z06o,z0a1]
 rfl
theorem z00x (s:BitVec 32) (c:UInt8):IntKind.wrap .u32 (((BitVec.toNat (BitVec.ofInt 32 ((s.toNat:Nat):Int) ^^^ BitVec.ofInt 32 (IntKind.wrap .u32 ((c.toNat:Nat):Int))):Nat):Int))=(((s ^^^ BitVec.ofNat 32 c.toNat).toNat:Nat):Int):=by
 have:=c.toNat_lt
 rw [wbv,bvi,zl0,Nat.mod_eq_of_lt (by omega),BitVec.ofInt_natCast]
section
variable {w:World} {l r:List HP} {Q:Post} {S:World->Prop}
theorem zw6 (s:BitVec 32) (bs:List UInt8) (i:Nat) (hi:i<bs.length):z62 s (bs.take (i+1))=zs5 (z62 s (bs.take i)) bs[i]:=by
 unfold z62
 rw [List.take_add_one,List.getElem?_eq_getElem hi,Option.toList_some,List.foldl_append];rfl
theorem z043 (m:BitVec 32) (x:Sl) (ps:List (Sl × List UInt8)) [hx:FocR l x 1 ((ps.map Prod.fst).flatMap z0k)] (hps:∀ p ∈ ps,FocR l p.1 1 (p.2.flatMap zk)/\p.2.length<=1000000000) (hpl:ps.length<=1000000) (hs:Sat w l) :
  Ret P F.a40 #[.int .u32 ((m.toNat:Nat):Int),x.v] w λvs w'=>vs=[.int .u32 (((zsx m (ps.flatMap Prod.snd)).toNat:Nat):Int)]/\Sat w' l :=
 zuf _ x <| by
  delta z08g AI Aa Aj Ak An Aw BK BL BS BT BU
  have hl:=hs.slen x (xs:=ps.map Prod.fst) (enc:=z0k)
  rw [List.length_map] at hl
  rw [zx5,wbv]
  refine wp_lt ?_
  refine zm (λu w'=>u=((((z62 (~~~ m) (ps.flatMap Prod.snd)).toNat:Nat):Int),())/\Sat w' l) ?_ ?_
  rotate_left
  ·rintro _ w' ⟨rfl,hs⟩
   refine zl ?_
   rw [zx5,wbv]
   refine wp_lt ?_
   exact ⟨rfl,rfl,hs⟩
  refine z0c (λk u w=>∃ i:Nat,u=((((z62 (~~~ m) ((ps.take i).flatMap Prod.snd)).toNat:Nat):Int),(i:Int),())/\i<=ps.length/\ps.length-i=k/\Sat w l) ps.length ⟨0,rfl,by omega,rfl,hs⟩ ?_
  clear hs
  rintro k _ w ⟨i,rfl,hi,hk,hs⟩
  refine zl ?_
  refine zf (λhc=>?_) λhc=>?_
  rotate_left
  ·refine zn (zg ⟨?_,hs⟩)
   rw [List.take_of_length_le (by omega)]
  have hil:i<ps.length:=by omega
  obtain ⟨hF,hpl2⟩:=hps _ (List.getElem_mem hil)
  have hpi:=hs.slen ps[i].1 (xs:=ps[i].2) (enc:=zk)
  refine zm (λu w'=>u=((((z62 (~~~ m) ((ps.take (i+1)).flatMap Prod.snd)).toNat:Nat):Int),())/\Sat w' l) ?_ ?_
  rotate_left
  ·rintro _ w' ⟨rfl,hs⟩
   refine zl ?_
   refine z29 (us':=[.int .u32 (((z62 (~~~ m) ((ps.take (i+1)).flatMap Prod.snd)).toNat:Nat):Int),.int .i64 ((i+1:Nat):Int)]) (by (try simp (disch:=omega) only [w64]);first|rfl|(congr;omega)) ?_
   refine z0z (ps.length-(i+1)) ?_
   exact ⟨i+1,rfl,by omega,rfl,hs⟩
  refine z27 hs (xs:=ps.map Prod.fst) (enc:=z0k) i (by rw [List.length_map];exact hil) ?_
  rw [List.getElem_map]
  have hto:z62 (~~~ m) ((ps.take (i+1)).flatMap Prod.snd)=z62 (z62 (~~~ m) ((ps.take i).flatMap Prod.snd)) ps[i].2:=by
   rw [List.take_add_one,List.getElem?_eq_getElem hil,Option.toList_some,List.flatMap_append,List.flatMap_singleton]
   unfold z62
   rw [List.foldl_append]
  rw [hto]
  generalize z62 (~~~ m) ((ps.take i).flatMap Prod.snd)=s0
  generalize ps[i]=q at *
  refine zm (λu w'=>u=((((z62 s0 q.2).toNat:Nat):Int),())/\Sat w' l) ?_ (by rintro _ w' ⟨rfl,hs⟩;refine zl ?_;exact zg ⟨rfl,hs⟩)
  refine z0c (λk u w=>∃ j:Nat,u=((((z62 s0 (q.2.take j)).toNat:Nat):Int),(j:Int),())/\j<=q.2.length/\q.2.length-j=k/\Sat w l) q.2.length ⟨0,rfl,by omega,rfl,hs⟩ ?_
  clear hs
  rintro k _ w ⟨j,rfl,hj,hk,hs⟩
  refine zl ?_
  refine zf (λhc=>?_) λhc=>?_
  rotate_left
  ·refine zn (zg ⟨?_,hs⟩)
   rw [List.take_of_length_le (by omega)]
  have hjl:j<q.2.length:=by omega
  refine zm (λu w'=>u=((((z62 s0 (q.2.take (j+1))).toNat:Nat):Int),())/\Sat w' l) ?_ ?_
  rotate_left
  ·rintro _ w' ⟨rfl,hs⟩
   refine zl ?_
   refine z29 (us':=[.int .u32 (((z62 s0 (q.2.take (j+1))).toNat:Nat):Int),.int .i64 ((j+1:Nat):Int)]) (by (try simp (disch:=omega) only [w64]);first|rfl|(congr;omega)) ?_
   refine z0z (q.2.length-(j+1)) ?_
   exact ⟨j+1,rfl,by omega,rfl,hs⟩
  refine z27 hs (xs:=q.2) (enc:=zk) j hjl ?_
  refine wp_lt ?_
  rw [z00x]
  refine wp_lt ?_
  rw [zw6 s0 q.2 j hjl]
  generalize z62 s0 (q.2.take j)=s1
  show Prog.wp P _ _ _ _
  refine zm (λu w'=>u=((((zs5 s1 q.2[j]).toNat:Nat):Int),())/\Sat w' l) ?_ (by rintro _ w' ⟨rfl,hs⟩;refine zl ?_;exact zg ⟨rfl,hs⟩)
  unfold zs5
  generalize s1 ^^^ BitVec.ofNat 32 q.2[j].toNat=s2
  refine z0c (λk u w=>∃ i:Nat,u=((((zs6 i s2).toNat:Nat):Int),(i:Int),())/\i<=8/\8-i=k/\Sat w l) 8 ⟨0,rfl,by omega,rfl,hs⟩ ?_
  clear hs
  rintro k _ w ⟨i,rfl,hi,hk,hs⟩
  refine zl ?_
  refine zf (λhc=>?_) λhc=>?_
  rotate_left
  ·obtain rfl:i=8:=by omega
   exact zn (zg ⟨rfl,hs⟩)
  rw [z05b]
  refine wp_lt ?_
  refine z29 (us':=[.int .u32 (((zyn (zs6 i s2)).toNat:Nat):Int),.int .i64 ((i+1:Nat):Int)]) (by (try simp (disch:=omega) only [w64]);first|rfl|(congr;omega)) ?_
  refine z0z (8-(i+1)) ?_
  exact ⟨i+1,rfl,by omega,rfl,hs⟩
theorem z06a (x:Sl) (ps:List (Sl × List UInt8)) [hx:FocR l x 1 ((ps.map Prod.fst).flatMap z0k)] (hps:∀ p ∈ ps,FocR l p.1 1 (p.2.flatMap zk)/\p.2.length<=1000000000) (hpl:ps.length<=1000000) (hs:Sat w l) :
  Ret P F.a43 #[x.v] w λvs w'=>vs=[.int .u32 ((z9z (ps.flatMap Prod.snd):Nat):Int)]/\Sat w' l :=
 zui x <| by
  delta z08j Ak BR BS
  refine z8 (z043 0#32 x ps hps hpl hs) λ_ _ hs=>?_
  obtain ⟨rfl,hs⟩:=hs
  refine zd ?_
  refine wp_lt ?_
  exact ⟨rfl,rfl,hs⟩
theorem zi6 (x y:Sl) (bs:List UInt8) [hx:FocR l x 1 ([y].flatMap z0k)] [hy:FocR l y 1 (bs.flatMap zk)] (hn:bs.length<=1000000000) (hs:Sat w l) :
  Ret P F.a43 #[x.v] w λvs w'=>vs=[.int .u32 ((z9z bs:Nat):Int)]/\Sat w' l:=by
 have:=@z06a w l x [(y,bs)] hx (by intro p hp;rw [List.mem_singleton.1 hp];exact ⟨hy,hn⟩) (by simp) hs
 simpa using this
theorem zqe (n:Nat) (hn:n<4294967296) (hs:Sat w l):Ret P F.a44 #[.int .u32 (n:Int)] w λvs w'=>∃ z:Sl,vs=[z.v]/\Sat w' (slc T.a52 1 z ((z3u n).flatMap zk)::l) :=
 zuj n <| by
  delta z08k AO Ak
  have e0:IntKind.wrap .u8 (n:Int)=(((UInt8.ofNat n).toNat:Nat):Int):=by rw [zdy];simp
  have e1:IntKind.wrap .u8 (Int.fdiv (n:Int) 256)=(((UInt8.ofNat (n / 256)).toNat:Nat):Int):=by rw [z85 n (by decide),zdy];simp
  have e2:IntKind.wrap .u8 (Int.fdiv (n:Int) 65536)=(((UInt8.ofNat (n / 65536)).toNat:Nat):Int):=by rw [z85 n (by decide),zdy];simp
  have e3:IntKind.wrap .u8 (Int.fdiv (n:Int) 16777216)=(((UInt8.ofNat (n / 16777216)).toNat:Nat):Int):=by rw [z85 n (by decide),zdy];simp
  rw [e0,e1,e2,e3]
  refine z9i hs (enc:=zk) (z3u n) (cs:=((z3u n).flatMap zk).toArray) (by kernel_rfl) (λb w' hs=>?_) (by simp)
  exact ⟨rfl,_,rfl,hs⟩
theorem zzv {a b c d:Nat} (ha:a<256) (hb:b<256) (hc:c<256) (hd:d<256) :
  IntKind.wrap .u32 (((BitVec.toNat (BitVec.ofInt 32 (IntKind.wrap .u32 (((BitVec.toNat (BitVec.ofInt 32 (IntKind.wrap .u32 (((BitVec.toNat (BitVec.ofInt 32 (IntKind.wrap .u32 (a:Int)) ||| BitVec.ofInt 32 (IntKind.wrap .u32 (IntKind.wrap .u32 (b:Int)*256))):Nat):Int))) ||| BitVec.ofInt 32 (IntKind.wrap .u32 (IntKind.wrap .u32 (c:Int)*65536))):Nat):Int))) ||| BitVec.ofInt 32 (IntKind.wrap .u32 (IntKind.wrap .u32 (d:Int)*16777216))):Nat):Int))=((a+256*b+65536*c+16777216*d:Nat):Int):=by
 have wm:∀ {m:Nat},m<4294967296->IntKind.wrap .u32 (m:Int)=(m:Int):=λ{m} h=>by rw [zl0,Nat.mod_eq_of_lt h]
 have or2:∀ {x y i:Nat},x<2 ^ i->y*2 ^ i+x<4294967296->BitVec.toNat (BitVec.ofInt 32 (x:Int) ||| BitVec.ofInt 32 ((y*2 ^ i:Nat):Int))=x+y*2 ^ i:=λ{x y i} h1 h2=>by
  rw [BitVec.ofInt_natCast,BitVec.ofInt_natCast,BitVec.toNat_or,BitVec.toNat_ofNat,BitVec.toNat_ofNat,Nat.mod_eq_of_lt (show x<2 ^ 32 by omega),Nat.mod_eq_of_lt (show y*2 ^ i<2 ^ 32 by omega),Nat.or_comm,Nat.mul_comm,<- Nat.two_pow_add_eq_or_of_lt h1,Nat.add_comm]
 have m1:((b:Nat):Int)*256=((b*2 ^ 8:Nat):Int):=rfl
 have m2:((c:Nat):Int)*65536=((c*2 ^ 16:Nat):Int):=rfl
 have m3:((d:Nat):Int)*16777216=((d*2 ^ 24:Nat):Int):=rfl
 rw [wm (show a<_ by omega),wm (show b<_ by omega),wm (show c<_ by omega),wm (show d<_ by omega),m1,m2,m3,wm (show b*2 ^ 8<_ by omega),wm (show c*2 ^ 16<_ by omega),wm (show d*2 ^ 24<_ by omega),
  or2 (by omega) (by omega),wm (show a+b*2 ^ 8<_ by omega),or2 (by omega) (by omega),wm (show a+b*2 ^ 8+c*2 ^ 16<_ by omega),or2 (by omega) (by omega),wm (by omega)]
 congr 1
 omega
theorem zzp {bs:List UInt8} (h:4<=bs.length):z0m bs=bs[0].toNat+256*bs[1].toNat+65536*bs[2].toNat+16777216*bs[3].toNat:=by
 match bs,h with
 | a::b::c::d::r,_=>rfl
theorem z8g {α:Type} {enc:α->List Value} {xs:List α} {sz m:Nat} {ii:Int} {x:Sl} {T:TypeId} {g':Prop} {p:Pr} {dec:α->p.D} {f:p.D->Prog} (hs:Sat w l) [hf:FocR l x sz (xs.flatMap enc)] [hE:EncN enc sz] [hD:Enc1 enc p dec] [hT:One P T]
  (n:Nat) (hn:n<xs.length) (h:(f (dec xs[n])).wp P S w Q) (hm:m=n*sz:=by rfl) (hi:ii=n:=by rfl) :
  (Prog.ex [.adr] (c1 λa=>(0:Int)<=ii/\ii<((x.len:Nat):Int)/\x.a=some a) (u1 λa=>.read g' (ld T (Addr.add a m)) (.one (.one p)) (u1 f))).wp P S w Q:=by
 subst hm hi
 have hr:=hf.rd w hs
 have hl:x.len=xs.length:=hr.len hE.len hE.pos
 obtain ⟨a,ha,he⟩:=hr.el hE.len (by omega)
 refine ⟨(a,()),⟨by omega,by omega,ha⟩,(dec xs[n],()),λ_=>?_,h⟩
 have:=he n hn
 rw [hD.ok] at this
 have h2:=At.ld1 (P:=P) (T:=T) this rfl
 cases p <;> exact h2
theorem zd5 (x:Sl) (bs:List UInt8) [hx:FocR l x 1 (bs.flatMap zk)] (hn:4<=bs.length) (hs:Sat w l):Ret P F.a45 #[x.v] w λvs w'=>vs=[.int .u32 ((z0m bs:Nat):Int)]/\Sat w' l :=
 zuk x <| by
  delta z08l AC AG Ak An BK BS
  refine z02 hs λw' hs=>?_
  refine z8g hs (xs:=bs) (enc:=zk) 0 (by omega) ?_
  refine z8g hs (xs:=bs) (enc:=zk) 1 (by omega) ?_
  refine z8g hs (xs:=bs) (enc:=zk) 2 (by omega) ?_
  refine z8g hs (xs:=bs) (enc:=zk) 3 (by omega) ?_
  rw [zzv (by have:=bs[0].toNat_lt;omega) (by have:=bs[1].toNat_lt;omega) (by have:=bs[2].toNat_lt;omega) (by have:=bs[3].toNat_lt;omega),<- zzp hn]
  refine wp_lt ?_
  refine ze ?_
  exact ⟨rfl,rfl,hs⟩
theorem zqh (x:Sl) (ps:List (Sl × List UInt8)) [hx:FocR l x 1 ((ps.map Prod.fst).flatMap z0k)] (hps:∀ p ∈ ps,FocR l p.1 1 (p.2.flatMap zk)/\p.2.length<=1000000000) (hpl:ps.length<=1000000) (hs:Sat w l) :
  Ret P F.a42 #[x.v] w λvs w'=>∃ z:Sl,vs=[z.v]/\Sat w' (slc T.a52 1 z ((z2n (ps.flatMap Prod.snd)).flatMap zk)::l) :=
 zuh x <| by
  delta z08i AI AJ AK AO AT Aa Af Aj Ak An Aw Ay BR Bd
  have hl:=hs.slen x (xs:=ps.map Prod.fst) (enc:=z0k)
  rw [List.length_map] at hl
  have hstep:∀ i (hi:i<ps.length),(ps.take (i+1)).flatMap Prod.snd=(ps.take i).flatMap Prod.snd++ps[i].2:=λi hi=>by
   rw [List.take_add_one,List.getElem?_eq_getElem hi,Option.toList_some,List.flatMap_append,List.flatMap_singleton]
  have hmany:∀ i,((ps.take i).flatMap Prod.snd).length<=(ps.flatMap Prod.snd).length:=λi=>by
   have:ps.flatMap Prod.snd=(ps.take i).flatMap Prod.snd++(ps.drop i).flatMap Prod.snd:=by rw [<- List.flatMap_append,List.take_append_drop]
   rw [this,List.length_append]
   omega
  refine zm (λu w'=>u=((((ps.flatMap Prod.snd).length:Nat):Int),())/\(ps.flatMap Prod.snd).length<=262144/\Sat w' l) ?_ ?_
  ·refine z0c (λk u w=>∃ i:Nat,u=(((((ps.take i).flatMap Prod.snd).length:Nat):Int),(i:Int),())/\i<=ps.length/\ps.length-i=k/\((ps.take i).flatMap Prod.snd).length<=262144/\Sat w l) ps.length ⟨0,rfl,by omega,rfl,by simp,hs⟩ ?_
   clear hs
   rintro k _ w ⟨i,rfl,hi,hk,hsm,hs⟩
   refine zl ?_
   refine zf (λhc=>?_) λhc=>?_
   rotate_left
   ·rw [List.take_of_length_le (by omega)] at hsm ⊢
    exact zn (zg ⟨rfl,hsm,hs⟩)
   have hil:i<ps.length:=by omega
   refine z27 hs (xs:=ps.map Prod.fst) (enc:=z0k) i (by rw [List.length_map];exact hil) ?_
   rw [List.getElem_map]
   obtain ⟨hF,hpb⟩:=hps _ (List.getElem_mem hil)
   have hpi:=hs.slen ps[i].1 (xs:=ps[i].2) (enc:=zk)
   have h1:=hmany (i+1)
   have h2:=congrArg List.length (hstep i hil)
   rw [List.length_append] at h2
   have e:IntKind.wrap .i64 (((((ps.take i).flatMap Prod.snd).length:Nat):Int)+((ps[i].1.len:Nat):Int))=((((ps.take (i+1)).flatMap Prod.snd).length:Nat):Int):=by rw [w64 (by omega) (by omega)];omega
   refine z83 e ?_
   refine zf (λhbig=>?_) λhbig=>?_
   ·refine zn (zn ⟨rfl,⟨none,0,0⟩,rfl,?_⟩)
    have:z2n (ps.flatMap Prod.snd)=[]:=by unfold z2n;rw [if_pos (by omega)]
    rw [this]
    exact hs.slc_nil
   refine z29 (us':=[.int .i64 ((((ps.take (i+1)).flatMap Prod.snd).length:Nat):Int),.int .i64 ((i+1:Nat):Int)]) (by (try simp (disch:=omega) only [w64]);first|rfl|(congr;omega)) ?_
   refine z0z (ps.length-(i+1)) ?_
   exact ⟨i+1,rfl,by omega,rfl,by omega,hs⟩
  clear hs
  rintro _ w ⟨rfl,hsm,hs⟩
  refine zl ?_
  have e8:IntKind.wrap .i64 ((((ps.flatMap Prod.snd).length:Nat):Int)+8)=(((ps.flatMap Prod.snd).length+8:Nat):Int):=by rw [w64 (by omega) (by omega)];omega
  rw [e8,zl0,Nat.mod_eq_of_lt (by omega)]
  refine zru ((ps.flatMap Prod.snd).length+8) hs λz w' hs=>?_
  refine z8 (zqe (ps.flatMap Prod.snd).length (by omega) hs) λ_ _ hs=>?_
  obtain ⟨y,rfl,hs⟩:=hs
  refine zd ?_
  have hs:=hs.pick [1,0]
  refine wp_app' (xs:=[]) (ys:=z3u (ps.flatMap Prod.snd).length) (enc:=zk) hs (λz w' hs=>?_) (by simp [z6d])
  rw [List.nil_append] at hs
  have hs:Sat w' (slc T.a52 1 z ((z3u (ps.flatMap Prod.snd).length).flatMap zk)::l):=hs.sub
  refine zm (λu w'=>∃ z:Sl,u=(z,())/\Sat w' (slc T.a52 1 z ((z3c (ps.flatMap Prod.snd)).flatMap zk)::l)) ?_ ?_
  ·refine z0c (λk u w=>∃ (i:Nat) (z:Sl),u=(z,(i:Int),())/\i<=ps.length/\ps.length-i=k/\Sat w (slc T.a52 1 z ((z3u (ps.flatMap Prod.snd).length++(ps.take i).flatMap Prod.snd).flatMap zk)::l)) ps.length ⟨0,z,rfl,by omega,rfl,?_⟩ ?_
   ·simpa using hs
   clear hs
   rintro k _ w ⟨i,z,rfl,hi,hk,hs⟩
   refine zl ?_
   refine zf (λhc=>?_) λhc=>?_
   rotate_left
   ·refine zn (zg ⟨z,rfl,?_⟩)
    rw [List.take_of_length_le (by omega)] at hs
    exact hs
   have hil:i<ps.length:=by omega
   refine z27 hs (xs:=ps.map Prod.fst) (enc:=z0k) i (by rw [List.length_map];exact hil) ?_
   rw [List.getElem_map]
   have hF:=(hps _ (List.getElem_mem hil)).1
   have h1:=hmany (i+1)
   rw [hstep i hil,List.length_append] at h1
   refine wp_app' (xs:=z3u (ps.flatMap Prod.snd).length++(ps.take i).flatMap Prod.snd) (ys:=ps[i].2) (enc:=zk) hs (λz w' hs=>?_) (by rw [List.length_append,z6d];omega)
   rw [List.append_assoc,<- hstep i hil] at hs
   refine z29 (us':=[z.v,.int .i64 ((i+1:Nat):Int)]) (by (try simp (disch:=omega) only [w64]);first|rfl|(congr;omega)) ?_
   refine z0z (ps.length-(i+1)) ?_
   exact ⟨i+1,z,rfl,by omega,rfl,hs⟩
  clear hs
  rintro _ w ⟨z,rfl,hs⟩
  refine zl ?_
  have hhl:(z3c (ps.flatMap Prod.snd)).length=(ps.flatMap Prod.snd).length+4:=by unfold z3c;rw [List.length_append,z6d];omega
  have hsl:=zrl (z3c (ps.flatMap Prod.snd))
  refine za3 hs (enc:=z0k) z λy w' hs=>?_
  refine z8 (zi6 y z (z3c (ps.flatMap Prod.snd)) (by omega) hs) λ_ _ hs=>?_
  obtain ⟨rfl,hs⟩:=hs
  refine zd ?_
  refine z8 (zqe (z9z (z3c (ps.flatMap Prod.snd))) hsl hs) λ_ _ hs=>?_
  obtain ⟨u,rfl,hs⟩:=hs
  refine zd ?_
  have hs:=hs.pick [2,0,0]
  refine wp_app' (xs:=z3c (ps.flatMap Prod.snd)) (ys:=z3u (z9z (z3c (ps.flatMap Prod.snd)))) (enc:=zk) hs (λz w' hs=>?_) (by rw [z6d];omega)
  have e:z2n (ps.flatMap Prod.snd)=z3c (ps.flatMap Prod.snd)++z3u (z9z (z3c (ps.flatMap Prod.snd))):=by unfold z2n;rw [if_neg (by omega)]
  rw [<- e] at hs
  exact ⟨rfl,z,rfl,hs.sub⟩
theorem zz1 (x y:Sl) (bs:List UInt8) [hx:FocR l x 1 ([y].flatMap z0k)] [hy:FocR l y 1 (bs.flatMap zk)] (hn:bs.length<=1000000000) (hs:Sat w l) :
  Ret P F.a42 #[x.v] w λvs w'=>∃ z:Sl,vs=[z.v]/\Sat w' (slc T.a52 1 z ((z2n bs).flatMap zk)::l):=by
 have:=@zqh w l x [(y,bs)] hx (by intro p hp;rw [List.mem_singleton.1 hp];exact ⟨hy,hn⟩) (by simp) hs
 simpa using this
theorem zbs (x:Sl) (bs:List UInt8) [hx:FocR l x 1 (bs.flatMap zk)] (hcap:x.len<=x.cap) (hn:bs.length<=1000000000) (hs:Sat w l) :
  Ret P F.a39 #[x.v] w λvs w'=>∃ z:Sl,vs=[z.v,.int .i64 ((((z12 bs).getD ([],0)).2:Nat):Int),.bool (z12 bs).isSome]/\Sat w' (slc T.a52 1 z (((z12 bs).getD ([],0)).1.flatMap zk)::l) :=
 zue x <| by
  delta z08f AC AG AO AT Aa Af Aj Ak An Au Aw BR BS
  have hl:=hs.slen x (xs:=bs) (enc:=zk)
  have hno:∀ {w':World},z12 bs=none->Sat w' l->∃ z:Sl,[.slice none 0 0,.int .i64 0,.bool false]=[z.v,.int .i64 ((((z12 bs).getD ([],0)).2:Nat):Int),.bool (z12 bs).isSome]/\Sat w' (slc T.a52 1 z (((z12 bs).getD ([],0)).1.flatMap zk)::l):=λ{w'} h hs=>by
   rw [h];exact ⟨⟨none,0,0⟩,rfl,hs.slc_nil⟩
  refine zf (λh=>?_) λh=>?_
  ·exact ⟨rfl,hno (by unfold z12;rw [if_pos (.inl (by omega))]) hs⟩
  refine z8 (zd5 x bs (by omega) hs) λ_ _ hs=>?_
  obtain ⟨rfl,hs⟩:=hs
  refine zd ?_
  have hf:=(zfw bs (by omega)).2
  refine wp_lt ?_
  have e1:IntKind.wrap .i64 ((z0m bs:Nat):Int)=((z0m bs:Nat):Int):=by rw [w64 (by omega) (by omega)]
  have e2:IntKind.wrap .i64 (((x.len:Nat):Int)-8)=((bs.length-8:Nat):Int):=by rw [w64 (by omega) (by omega)];omega
  have e3:IntKind.wrap .i64 (((z0m bs:Nat):Int)+4)=((z0m bs+4:Nat):Int):=by rw [w64 (by omega) (by omega)];omega
  rw [e1,e2,e3]
  refine zf (λh2=>?_) λh2=>?_
  ·exact ⟨rfl,hno (by unfold z12;rw [if_pos (by omega)]) hs⟩
  refine wp_lt ?_
  rw [Int.toNat_natCast]
  have hle:z0m bs+8<=bs.length:=by omega
  have hF1:FocR l ⟨z0w x.a 1 (z0m bs+4) x.cap,x.len-(z0m bs+4),x.cap-(z0m bs+4)⟩ 1 ((bs.drop (z0m bs+4)).flatMap zk):=FocR.post hcap
  have hF2:FocR l ⟨x.a,z0m bs+4,x.cap⟩ 1 ((bs.take (z0m bs+4)).flatMap zk):=FocR.pre (by omega)
  have htl:(bs.take (z0m bs+4)).length<=1000000000:=by rw [List.length_take];omega
  have hdl:4<=(bs.drop (z0m bs+4)).length:=by rw [List.length_drop];omega
  refine zm (λu w'=>u=(decide (z0m (bs.drop (z0m bs+4))≠z9z (bs.take (z0m bs+4))),())/\Sat w' l) ?_ ?_
  ·have hbeq:∀ a b:Nat,(((a:Int) != (b:Int)):Bool)=decide (a≠b):=λa b=>by
    rw [Bool.eq_iff_iff];simp;omega
   refine z02 hs λw' hs=>?_
   refine wp_must ⟨by omega,show ((z0m bs+4:Nat):Int)<=((x.len:Nat):Int) by omega⟩ ?_
   refine wp_must ⟨by omega,show ((z0m bs+4:Nat):Int)<=((x.cap:Nat):Int) by omega⟩ ?_
   refine zeh ?_ ?_
   ·refine z8 (zd5 ⟨z0w x.a 1 (z0m bs+4) x.cap,x.len-(z0m bs+4),x.cap-(z0m bs+4)⟩ (bs.drop (z0m bs+4)) hdl hs) λ_ _ hs=>?_
    obtain ⟨rfl,hs⟩:=hs
    refine zd ?_
    refine za3 hs (enc:=z0k) ⟨x.a,z0m bs+4,x.cap⟩ λy w' hs=>?_
    refine z8 (zi6 y ⟨x.a,z0m bs+4,x.cap⟩ (bs.take (z0m bs+4)) htl hs) λ_ _ hs=>?_
    obtain ⟨rfl,hs⟩:=hs
    refine zd ?_
    refine ze ?_
    exact zg ⟨by rw [hbeq],hs.tail⟩
   ·refine za3 hs (enc:=z0k) ⟨x.a,z0m bs+4,x.cap⟩ λy w' hs=>?_
    refine z8 (zd5 ⟨z0w x.a 1 (z0m bs+4) x.cap,x.len-(z0m bs+4),x.cap-(z0m bs+4)⟩ (bs.drop (z0m bs+4)) hdl hs) λ_ _ hs=>?_
    obtain ⟨rfl,hs⟩:=hs
    refine zd ?_
    refine z8 (zi6 y ⟨x.a,z0m bs+4,x.cap⟩ (bs.take (z0m bs+4)) htl hs) λ_ _ hs=>?_
    obtain ⟨rfl,hs⟩:=hs
    refine zd ?_
    refine ze ?_
    exact zg ⟨by rw [hbeq],hs.tail⟩
  clear hs
  rintro _ w ⟨rfl,hs⟩
  refine zl ?_
  refine zf (λh3=>?_) λh3=>?_
  ·exact ⟨rfl,hno (by unfold z12;rw [if_neg (by omega),if_neg h3]) hs⟩
  have h3:z0m (bs.drop (z0m bs+4))=z9z (bs.take (z0m bs+4)):=Decidable.not_not.1 h3
  have hsome:z12 bs=some ((bs.drop 4).take (z0m bs),z0m bs+8):=by unfold z12;rw [if_neg (by omega),if_pos h3]
  rw [hsome]
  refine wp_must ⟨by omega,by omega,show ((z0m bs+4:Nat):Int)<=((x.cap:Nat):Int) by omega⟩ ?_
  have hF3:FocR l ⟨z0w x.a 1 4 x.cap,x.len-4,x.cap-4⟩ 1 ((bs.drop 4).flatMap zk):=FocR.post hcap
  have hF4:FocR l ⟨z0w x.a 1 4 x.cap,z0m bs+4-4,x.cap-4⟩ 1 (((bs.drop 4).take (z0m bs+4-4)).flatMap zk):=FocR.pre (x:=⟨z0w x.a 1 4 x.cap,x.len-4,x.cap-4⟩) (by rw [List.length_drop];omega)
  refine z8 (zld ⟨z0w x.a 1 4 x.cap,z0m bs+4-4,x.cap-4⟩ ((bs.drop 4).take (z0m bs+4-4)) (by rw [List.length_take];omega) hs) λ_ _ hs=>?_
  obtain ⟨z,rfl,hs⟩:=hs
  refine zd ?_
  refine z2a (y:=((z0m bs+8:Nat):Int)) ?_ (by rw [w64 (by omega) (by omega)];omega)
  exact ⟨rfl,z,rfl,hs⟩
def zkt (bs:List UInt8):Option (List UInt8):=match z12 bs with
 | some (body,n)=>if n=bs.length then some body else none
 | none=>none
end
section
variable {w:World} {l r:List HP} {p:Nat} {s:Lf}
theorem zrj {R:RdM} (hb:R.at_<=R.bs.length) (he:R.e=0) (h:R.bs.length-R.at_=0):stR R=some []:=by
 rw [z7z he]
 unfold z52
 rw [List.drop_eq_nil_of_le (by omega)]
theorem zn5 {R:RdM} (he:R.e=0) (h:R.at_<R.bs.length):stR R=some (R.bs[R.at_]::R.bs.drop (R.at_+1)):=by
 rw [z7z he]
 unfold z52
 rw [List.drop_eq_getElem_cons h]
theorem zfv {x:Sl} {bs:List UInt8} {n k:Nat} (hcap:x.len<=x.cap) (hk:n+k<=bs.length) [hf:FocR l x 1 (bs.flatMap zk)]:FocR l ⟨z0w x.a 1 n x.cap,k,x.cap-n⟩ 1 (((bs.drop n).take k).flatMap zk):=by
 have h:FocR l ⟨z0w x.a 1 n x.cap,x.len-n,x.cap-n⟩ 1 ((bs.drop n).flatMap zk):=FocR.post hcap
 exact FocR.pre (x:=⟨z0w x.a 1 n x.cap,x.len-n,x.cap-n⟩) (by rw [List.length_drop];omega)
theorem zi1 [hf:Fo l (rdS T.a54) p s r] (hs:Sat w l):Ret P F.a172 #[.pointer (some ⟨p,0,none⟩)] w λvs w'=>vs=[.int .i64 ((z11 s).1:Int)]/\Sat w' (rdS T.a54 p (z11 s).2::r) :=
 zpo _ <| by
  delta z037 AA AT AY Aa Af Ah Aj Ak An Av Aw BG BK Bh
  obtain ⟨R,rfl,hs⟩:=z7d (hs.perm hf.perm)
  have hb:=z6n hs
  refine z8 (zd7 (p:=p) hs) λ_ _ hs=>?_
  obtain ⟨rfl,hs⟩:=hs
  refine zd ?_
  refine zf (λh=>?_) λh=>?_
  ·have h:R.e≠0:=by simpa using h
   rw [z72 h]
   exact ⟨rfl,rfl,z2g (z72 h) hs⟩
  have h:R.e=0:=by simpa using h
  refine zi ?_
  refine z8 (zdd (p:=p) hs) λ_ _ hs=>?_
  obtain ⟨rfl,hs⟩:=hs
  refine zd ?_
  refine zf (λh2=>?_) λh2=>?_
  ·refine zi ?_
   refine z8 (z7m (p:=p) 6 hs) λ_ _ hs=>?_
   obtain ⟨rfl,hs⟩:=hs
   refine zd ?_
   rw [zrj hb.1 h (by omega)]
   exact ⟨rfl,rfl,z2g (if_neg (by show ¬ (if R.e=0 then (6:Int) else R.e)=0;rw [if_pos h];decide)) hs⟩
  have hlt:R.at_<R.bs.length:=by omega
  rw [zn5 h hlt]
  obtain ⟨x,-,hs⟩:=z2c hs
  have hl:=hs.slen x (xs:=R.bs) (enc:=zk)
  have hcap:x.len<=x.cap:=(hs.pick [1]).slc_cap
  refine zi ?_
  refine z8 (zin (p:=p) 1 (x:=x) (bs:=R.bs) (at_:=R.at_) (e:=R.e) (by omega) hb.2 hcap hs) λ_ w' hs=>?_
  obtain ⟨rfl,hs⟩:=hs
  refine zd ?_
  refine z8g (hf:=zfv hcap (by omega)) hs (xs:=(R.bs.drop R.at_).take 1) (enc:=zk) 0 (by rw [List.length_take,List.length_drop];omega) ?_ rfl rfl
  have hg:((R.bs.drop R.at_).take 1)[0]'(by rw [List.length_take,List.length_drop];omega)=R.bs[R.at_]:=by simp
  rw [hg]
  have hc:=(R.bs[R.at_]).toNat_lt
  refine z2a (y:=((R.bs[R.at_]).toNat:Int)) ?_ (by rw [w64 (by omega) (by omega)])
  refine ⟨rfl,rfl,z2g (R:=⟨R.bs,R.at_+1,R.e⟩) ?_ (z1a ⟨R.bs,R.at_+1,R.e⟩ ⟨by show R.at_+1<=R.bs.length;omega,hb.2⟩ hs)⟩
  rw [z7z (R:=⟨R.bs,R.at_+1,R.e⟩) h]
  rfl
end
section
variable {w:World} {l r:List HP} {p:Nat} {s:Lf}
theorem z07h {P:Program} {t tx ty el:TypeId} {bytes:Nat} {xs:List UInt8} {t0:ByteArray} {x:Sl} {k:Sl->Prog} {Q:Post} {S:World->Prop} (hs:Sat w l) [ht:SlT P t el 1 bytes] [hst:StT P tx] [hf:FocS l x el 1 (xs.flatMap zk) r]
  (h:∀ z w',Sat w' (slc el 1 z ((xs++bl t0).flatMap zk)::r)->(k z).wp P S w' Q) (hb:(xs.length+t0.size)*bytes<=140737488355328/\xs.length+t0.size<=9223372036854775807) (hS:∀ w',S w':=by exact λ_=>trivial) :
  (Prog.act (app t tx ty (.slice x.a x.len x.cap) (.string t0)) sL (u1 k)).wp P S w Q:=by
 have h1:x.len=xs.length:=(hs.focS x).rd.len (enc:=zk) (λ_=>rfl) (by decide)
 obtain ⟨i,z,hi,h2,rfl,hz,hzs⟩:=ht.parts
 have hsrc:Src P i.size tx (.string t0) t0.size (byteCells t0) w:=by rw [h2];exact Src.ofString w hst.ok t0
 have hs':=hs.focS x
 rw [<- h2] at hs'
 obtain ⟨z,w',hrun,hlen,hs',_⟩:=zl8 (ty:=ty) ht.ok.1 hi hz hzs hs' hsrc (by rw [h1];exact hb.1) (by rw [h1];exact hb.2)
 refine ⟨(z,()),w',hrun,hS _,h z w' ?_⟩
 rw [h2] at hs'
 rw [List.flatMap_append,zac (bl t0)]
 exact hs'
theorem zrx (t:ByteArray) (ht:t.size<=1000000000) (hs:Sat w l):Ret P F.a181 #[.string t] w λvs w'=>∃ z:Sl,vs=[z.v]/\Sat w' (slc T.a52 1 z ((uI (t.size:Nat)++bl t).flatMap zk)::l) :=
 zpx t <| by
  delta z03g AO AT Ak
  refine z8 (z5i ((t.size:Nat):Int) (by omega) hs) λ_ w' hs=>?_
  obtain ⟨x,rfl,hs⟩:=hs
  refine zd ?_
  have hl:=hs.slen x
  have hul:=z22 ((t.size:Nat):Int)
  refine z07h (t0:=t) (xs:=uI (t.size:Nat)) hs (λz w' hs=>?_) (by omega)
  exact ⟨rfl,z,rfl,hs⟩
theorem z042 [hf:Fo l (rdS T.a54) p s r] (hs:Sat w l):Ret P F.a175 #[.pointer (some ⟨p,0,none⟩)] w λvs w'=>vs=[.bool (z4o s).1]/\Sat w' (rdS T.a54 p (z4o s).2::r) :=
 zpr _ <| by
  delta z03a AA AC AG AT AY Aa Ah Aj Ak An Ao Av Ax B1 BG BK Bh Bk
  obtain ⟨R,rfl,hs⟩:=z7d (hs.perm hf.perm)
  have hb:=z6n hs
  refine z8 (zd7 (p:=p) hs) λ_ _ hs=>?_
  obtain ⟨rfl,hs⟩:=hs
  refine zd ?_
  refine zf (λh=>?_) λh=>?_
  ·have h:R.e≠0:=by simpa using h
   rw [z72 h]
   exact ⟨rfl,rfl,z2g (z72 h) hs⟩
  have h:R.e=0:=by simpa using h
  refine z02 hs λw' hs=>?_
  refine zi ?_
  refine z8 (zdd (p:=p) hs) λ_ _ hs=>?_
  obtain ⟨rfl,hs⟩:=hs
  refine zd ?_
  obtain ⟨x,-,hs⟩:=z2c hs
  have hl:=hs.slen x (xs:=R.bs) (enc:=zk)
  have hcap:x.len<=x.cap:=(hs.pick [1]).slc_cap
  refine z0n ?_
  refine zb hs ?_
  refine z0n ?_
  refine zb hs ?_
  by_cases h2:R.bs.length-R.at_=0
  ·refine zit hs (xs:=R.bs) (enc:=zk) (0:Int) (λhg=>absurd hg (by rw [h2];simp)) ?_
   refine ze ?_
   refine z0u ?_ (by rw [h2];exact .inl rfl)
   refine zi ?_
   have hs:=z1a R hb hs
   refine z8 (z7m (p:=p) 6 hs) λ_ _ hs=>?_
   obtain ⟨rfl,hs⟩:=hs
   refine zd ?_
   rw [zrj hb.1 h h2]
   exact ⟨rfl,rfl,z2g (if_neg (by show ¬ (if R.e=0 then (6:Int) else R.e)=0;rw [if_pos h];decide)) hs⟩
  ·have hlt:R.at_<R.bs.length:=by omega
   refine zit hs (xs:=R.bs) (enc:=zk) (((R.bs[R.at_]).toNat:Nat):Int) (λ_=>⟨R.at_,hlt,rfl,rfl⟩) ?_
   refine ze ?_
   rw [zn5 h hlt]
   have hc:=(R.bs[R.at_]).toNat_lt
   unfold z4o
   simp only
   refine zf (λh3=>?_) λh3=>?_
   ·rw [if_neg (by omega)]
    refine zi ?_
    have hs:=z1a R hb hs
    refine z8 (z7m (p:=p) 6 hs) λ_ _ hs=>?_
    obtain ⟨rfl,hs⟩:=hs
    refine zd ?_
    exact ⟨rfl,rfl,z2g (if_neg (by show ¬ (if R.e=0 then (6:Int) else R.e)=0;rw [if_pos h];decide)) hs⟩
   ·rw [if_pos (by omega)]
    refine zi ?_
    refine z8 (zin (p:=p) 1 (x:=x) (bs:=R.bs) (at_:=R.at_) (e:=R.e) (by omega) hb.2 hcap hs) λ_ w' hs=>?_
    obtain ⟨rfl,hs⟩:=hs
    refine zd ?_
    refine z8g (hf:=zfv hcap (by omega)) hs (xs:=(R.bs.drop R.at_).take 1) (enc:=zk) 0 (by rw [List.length_take,List.length_drop];omega) ?_ rfl rfl
    have hg:((R.bs.drop R.at_).take 1)[0]'(by rw [List.length_take,List.length_drop];omega)=R.bs[R.at_]:=by simp
    rw [hg]
    refine wp_lt ?_
    have e:((((R.bs[R.at_]).toNat:Nat):Int) == 1)=decide ((R.bs[R.at_]).toNat=1):=by
     rw [Bool.eq_iff_iff];simp;omega
    rw [e]
    refine ⟨rfl,rfl,z2g (R:=⟨R.bs,R.at_+1,R.e⟩) ?_ (z1a ⟨R.bs,R.at_+1,R.e⟩ ⟨by show R.at_+1<=R.bs.length;omega,hb.2⟩ hs)⟩
    rw [z7z (R:=⟨R.bs,R.at_+1,R.e⟩) h]
    rfl
theorem zrq (most:Nat) (hm:most<=1000000000) [hf:Fo l (rdS T.a54) p s r] (hs:Sat w l):Ret P F.a177 #[.pointer (some ⟨p,0,none⟩),.int .i64 (most:Nat)] w λvs w'=>vs=[.string (z1o most s).1]/\Sat w' (rdS T.a54 p (z1o most s).2::r) :=
 zpt _ _ <| by
  delta z03c AA AH AP AS AT AU AY Aa Af Ah Aj Ak Al Av Aw Ax BG Bh Bs Bt
  obtain ⟨R,rfl,hs⟩:=z7d (hs.perm hf.perm)
  have hb:=z6n hs
  refine z8 (zd7 (p:=p) hs) λ_ _ hs=>?_
  obtain ⟨rfl,hs⟩:=hs
  refine zd ?_
  refine zf (λh=>?_) λh=>?_
  ·have h:R.e≠0:=by simpa using h
   rw [z72 h]
   exact ⟨rfl,rfl,z2g (z72 h) hs⟩
  have h:R.e=0:=by simpa using h
  refine zi ?_
  obtain ⟨x,-,hs⟩:=z2c hs
  refine zb hs ?_
  refine wp_lt ?_
  refine zi ?_
  have hs:=z1a R hb hs
  refine z8 (zr8 (p:=p) h hs) λ_ _ hs=>?_
  obtain ⟨rfl,hs⟩:=hs
  refine zd ?_
  refine wp_lt ?_
  refine zi ?_
  have hst:=zeg (R:=R)
  have hbs:=zrr R
  generalize hU:R.uint=U at *
  obtain ⟨v,R'⟩:=U
  have hs:Sat _ (rdP T.a54 p R'::r):=hs
  have hbs:R'.bs=R.bs:=hbs
  have hb':=z6n hs
  obtain ⟨y,-,hs⟩:=z2c hs
  have hl:=hs.slen y (xs:=R'.bs) (enc:=zk)
  have hcap:y.len<=y.cap:=(hs.pick [1]).slc_cap
  refine zb hs ?_
  refine wp_lt ?_
  have hend':∀ {w':World} {e:Int} {y:Sl},e≠0->Sat w' (pt p (.cells #[.slice y.a y.len y.cap,.int .i64 R'.at_,.int .i64 e] T.a54)::slc T.a52 1 y (R'.bs.flatMap zk)::r) ->
    (z1o most (stR R)).2=none->(z1o most (stR R)).1=⟨#[]⟩ ->
    (Prog.ex [.adr] (c1 λa27=>some ((⟨p,0,none⟩:Addr))=some a27) (u1 λa28=>.actU (st T.a13 (Addr.add (Addr.add a28 0) 1) (.int .i64 (R.at_:Int))) <| .done 0 [.string (ByteArray.mk #[])])).wp P (λ_=>True) w' λe vs w'=>e=0/\vs=[.string (z1o most (stR R)).1]/\Sat w' (rdS T.a54 p (z1o most (stR R)).2::r):=by
   intro w' e y he hs h1 h2
   refine zi ?_
   refine z08 hs λw' hs=>?_
   rw [h1,h2]
   refine ⟨rfl,rfl,z2g (R:=⟨R'.bs,R.at_,e⟩) (z72 he) (z1a ⟨R'.bs,R.at_,e⟩ ⟨by rw [hbs];exact hb.1,hb'.2⟩ hs)⟩
  refine z44 ?_
  refine zf (λhe=>?_) λhe=>?_
  ·have he:R'.e≠0:=by simpa using he
   refine z5a ?_
   have h1:(z0o (stR R)).2=none:=by rw [<- hst.2];exact z72 he
   refine hend' he hs (by unfold z1o;rw [h1]) (by unfold z1o;rw [h1])
  ·have he:R'.e=0:=by simpa using he
   have h1:(z0o (stR R)).2=some (z52 R'):=by rw [<- hst.2];exact z7z he
   have hv:=z7p h1
   have h0:(z0o (stR R)).1=v:=hst.1.symm
   have hlen:(z52 R').length=R'.bs.length-R'.at_:=zmr
   have ew:IntKind.wrap .u64 (if 0>((most:Nat):Int) then 0 else ((most:Nat):Int))=((most:Nat):Int):=by
    rw [if_neg (by omega),ziv (by omega) (by omega)]
   rw [ew]
   refine wp_lt ?_
   refine z44 ?_
   refine zf (λh3=>?_) λh3=>?_
   ·refine zi ?_
    have hs:=z1a R' hb' hs
    refine z8 (z7m (p:=p) 7 hs) λ_ _ hs=>?_
    obtain ⟨rfl,hs⟩:=hs
    refine zd ?_
    refine z5a ?_
    refine z5a ?_
    obtain ⟨y2,-,hs⟩:=z2c hs
    refine hend' (e:=(R'.fail 7).e) ?_ hs ?_ ?_
    ·show (if R'.e=0 then (7:Int) else R'.e)≠0
     rw [if_pos he];decide
    ·unfold z1o;rw [h1];simp only;rw [h0,if_neg (by omega)]
    ·unfold z1o;rw [h1];simp only;rw [h0,if_neg (by omega)]
   ·refine zi ?_
    have hs:=z1a R' hb' hs
    refine z8 (zdd (p:=p) hs) λ_ _ hs=>?_
    obtain ⟨rfl,hs⟩:=hs
    refine zd ?_
    have eu:IntKind.wrap .u64 ((R'.bs.length-R'.at_:Nat):Int)=((R'.bs.length-R'.at_:Nat):Int):=ziv (by omega) (by omega)
    rw [eu]
    refine wp_lt ?_
    refine zf (λh4=>?_) λh4=>?_
    ·refine zi ?_
     refine z8 (z7m (p:=p) 6 hs) λ_ _ hs=>?_
     obtain ⟨rfl,hs⟩:=hs
     refine zd ?_
     refine z5a ?_
     refine z5a ?_
     obtain ⟨y2,-,hs⟩:=z2c hs
     refine hend' (e:=(R'.fail 6).e) ?_ hs ?_ ?_
     ·show (if R'.e=0 then (6:Int) else R'.e)≠0
      rw [if_pos he];decide
     ·unfold z1o;rw [h1];simp only;rw [h0,if_neg (by omega)]
     ·unfold z1o;rw [h1];simp only;rw [h0,if_neg (by omega)]
    ·refine zi ?_
     rw [w64 (by omega) (by omega)]
     obtain ⟨y2,-,hs⟩:=z2c hs
     have hcap2:y2.len<=y2.cap:=(hs.pick [1]).slc_cap
     refine z8 (zin (p:=p) v (x:=y2) (bs:=R'.bs) (at_:=R'.at_) (e:=R'.e) (by omega) hb'.2 hcap2 hs) λ_ w' hs=>?_
     obtain ⟨rfl,hs⟩:=hs
     refine zd ?_
     refine zy1 (hf:=zfv hcap2 (by omega)) (bs:=(R'.bs.drop R'.at_).take v) hs ?_
     refine wp_lt ?_
     have e1:z1o most (stR R)=(⟨((z52 R').take v).toArray⟩,some ((z52 R').drop v)):=by
      unfold z1o;rw [h1];simp only;rw [h0,if_pos ⟨by omega,by omega⟩]
     rw [e1]
     refine zn (zn ⟨rfl,rfl,z2g (R:=⟨R'.bs,R'.at_+v,R'.e⟩) ?_ (z1a ⟨R'.bs,R'.at_+v,R'.e⟩ ⟨by show R'.at_+v<=R'.bs.length;omega,hb'.2⟩ hs)⟩)
     rw [z7z (R:=⟨R'.bs,R'.at_+v,R'.e⟩) he]
     unfold z52
     rw [List.drop_drop]
end
section
variable {w:World} {l r:List HP} {p:Nat} {s:Lf}
theorem za2 (most:Int) (hm:0<=most/\most<9223372036854775807) [hf:Fo l (rdS T.a54) p s r] (hs:Sat w l):Ret P F.a107 #[.pointer (some ⟨p,0,none⟩),.int .i64 most] w λvs w'=>vs=[.int .i64 (z05 most s).1]/\Sat w' (rdS T.a54 p (z05 most s).2::r) :=
 zo6 _ most <| by
  delta z01p Aa Af Ah Aj Ak Aw Bs Bt;unfold z05
  refine z8 (zir (p:=p) hs) λ_ _ hs=>?_
  obtain ⟨rfl,hs⟩:=hs
  refine zd ?_
  refine wp_lt ?_
  have e:IntKind.wrap .u64 most=most:=by rw [z8h];omega
  rw [e]
  refine zf (λh=>?_) λh=>?_
  ·refine z2a (y:=most+1) ?_ (by rw [w64 (by omega) (by omega)])
   rw [if_pos h]
   exact ⟨rfl,rfl,hs⟩
  ·refine z2a (y:=((z0o s).1:Int)) ?_ (by rw [w64 (by omega) (by omega)])
   rw [if_neg h]
   exact ⟨rfl,rfl,hs⟩
theorem zq3 (a b:ByteArray) (ha:a.size<=1000000000) (hs:Sat w l):Ret P F.a100 #[.string a,.string b] w λvs w'=>vs=[.int .i64 (z0p (bl a) (bl b):Nat)]/\Sat w' l :=
 znz a b <| by
  delta z01i AC AG Aa Af Aj Ak Al Am Aw
  refine z2a (y:=((min a.size b.size:Nat):Int)) ?_ (by split <;> omega)
  refine zm (λ_ w'=>(bl a).take (min a.size b.size)=(bl b).take (min a.size b.size)/\Sat w' l) ?_ ?_
  rotate_left
  ·rintro _ w' ⟨ht,hs⟩
   refine zl ?_
   refine wp_lt ?_
   refine ⟨rfl,?_,hs⟩
   rw [zcs (i:=min a.size b.size) (by rw [z1e];omega) (by rw [z1e];omega) ht (by rw [z1e,z1e];omega)]
  refine z0c (λk v w=>∃ i:Nat,v=((i:Int),())/\i<=min a.size b.size/\min a.size b.size-i=k/\(bl a).take i=(bl b).take i/\Sat w l) (min a.size b.size) ⟨0,rfl,by omega,rfl,rfl,hs⟩ ?_
  clear hs
  rintro k _ w ⟨i,rfl,hi,hk,ht,hs⟩
  refine zl ?_
  refine zf (λhc=>?_) λhc=>?_
  rotate_left
  ·refine zn (zg ⟨?_,hs⟩)
   have:i=min a.size b.size:=by omega
   rwa [this] at ht
  have h1:i<(bl a).length:=by rw [z1e];omega
  have h2:i<(bl b).length:=by rw [z1e];omega
  refine wp_lt ?_
  refine z02 hs λw' hs=>?_
  refine wp_must (by omega) ?_
  refine wp_must (by omega) ?_
  refine ze ?_
  have hb:∀ (c:ByteArray) (h:i<(bl c).length),bt c (i:Int)=(((bl c)[i]).toNat:Int):=λc h=>by
   unfold bt
   rw [Int.toNat_natCast,List.getD_eq_getElem?_getD,List.getElem?_eq_getElem h];rfl
  rw [hb a h1,hb b h2]
  refine zf (λhd=>?_) λhd=>?_
  ·refine wp_lt ?_
   refine zn (zn ⟨rfl,?_,hs⟩)
   have hne:(bl a)[i]≠(bl b)[i]:=λe=>by rw [e] at hd;simp at hd
   rw [zcs (i:=i) (by omega) (by omega) ht (.inr (.inr (by rw [List.getElem?_eq_getElem h1,List.getElem?_eq_getElem h2];simpa using hne)))]
  ·have he:(bl a)[i]=(bl b)[i]:=by
    apply UInt8.toNat_inj.1
    have:(((bl a)[i]).toNat:Int)=(((bl b)[i]).toNat:Int):=by simpa using hd
    omega
   refine z29 (us':=[.int .i64 ((i+1:Nat):Int)]) (by (try simp (disch:=omega) only [w64]);first|rfl|(congr;omega)) ?_
   refine z0z (min a.size b.size-(i+1)) ?_
   exact ⟨i+1,rfl,by omega,rfl,by rw [List.take_succ_eq_append_getElem h1,List.take_succ_eq_append_getElem h2,ht,he],hs⟩
end
theorem ztf {lo hi:Int} (h:lo<=0/\0<=hi) (s:Lf):lo<=(z1q lo hi s).1/\(z1q lo hi s).1<=hi:=by
 unfold z1q
 split
 ·exact h
 ·split
  ·exact h
  ·simp only;omega
theorem zgi {most:Int} (h:0<=most) (s:Lf):0<=(z05 most s).1/\(z05 most s).1<=most+1:=by
 unfold z05
 simp only
 split <;> omega
theorem z00p (most:Nat) (s:Lf):(z1o most s).1.size<=most:=by
 unfold z1o
 split
 ·show 0<=most;omega
 ·split
  ·rename_i h
   show (List.take _ _).length<=most
   rw [List.length_take];omega
  ·show 0<=most;omega
section
variable {w:World} {l r:List HP} {p:Nat} {s:Lf}
theorem z04z (time:Int) (ht:0<=time/\time<=1099511627776) (ahead:ByteArray) (ha:ahead.size<=100000) [hf:Fo l (rdS T.a54) p s r] (hs:Sat w l) :
  Ret P F.a105 #[.pointer (some ⟨p,0,none⟩),.int .i64 time,.string ahead] w λvs w'=>∃ x:RecM,vs=[.agg (zu x).toArray,.bool (z3k time ahead s).1.isSome]/\(∀ y,(z3k time ahead s).1=some y->x=y)/\x.key.size<=2100/\Sat w' (rdS T.a54 p (z3k time ahead s).2::r) :=
 zo4 _ _ _ <| by
  delta z01n AA AC AF AG AH AM AN AU AW Aa Ab Ac Af Ah Aj Ak Al Au Av Aw Ax Bp
  refine zt hs λa0 w' hs=>?_
  have hbd:=ztf (lo := -1099511627776) (hi:=1099511627776) (by decide) s
  refine z8 (zxx (p:=p) (-1099511627776) 1099511627776 hs) λ_ _ hs=>?_
  obtain ⟨rfl,hs⟩:=hs
  refine zd ?_
  refine wp_lt ?_
  refine z8 (z042 (p:=p) hs) λ_ _ hs=>?_
  obtain ⟨rfl,hs⟩:=hs
  refine zd ?_
  refine zt hs λa4 w' hs=>?_
  rw [w64 (by omega) (by omega)]
  refine zv hs λw' hs=>?_
  refine z8 (za2 (p:=p) 1024 (by omega) hs) λ_ _ hs=>?_
  obtain ⟨rfl,hs⟩:=hs
  refine zd ?_
  refine wp_lt ?_
  refine z8 (zrq (p:=p) 1024 (by omega) hs) λ_ _ hs=>?_
  obtain ⟨rfl,hs⟩:=hs
  refine zd ?_
  refine wp_lt ?_
  have hR:z3k time ahead s=if (z05 1024 (z4o (z1q (-1099511627776) 1099511627776 s).2).2).1>ahead.size then (none,(z1o 1024 (z05 1024 (z4o (z1q (-1099511627776) 1099511627776 s).2).2).2).2) else
   let a:=z1q (-1099511627776) 1099511627776 s
   let b:=z4o a.2
   let c:=z05 1024 b.2
   let d:=z1o 1024 c.2
   let e:=if b.1 then (⟨#[]⟩,d.2) else z1o 1024 d.2
   if e.2.isSome=true/\(z0p (bl ahead) (bl (z5c ahead c.1 d.1)):Int)=c.1 then (some ⟨z5c ahead c.1 d.1,e.1,b.1,time+a.1⟩,e.2) else (none,e.2):=rfl
  simp only at hR
  have hcb:=zgi (most:=1024) (by decide) (z4o (z1q (-1099511627776) 1099511627776 s).2).2
  have hdb:=z00p 1024 (z05 1024 (z4o (z1q (-1099511627776) 1099511627776 s).2).2).2
  generalize z3k time ahead s=RR at *
  generalize z1q (-1099511627776) 1099511627776 s=a at *
  generalize z4o a.2=b at *
  generalize z05 1024 b.2=c at *
  generalize z1o 1024 c.2=d at *
  refine zf (λh=>?_) λh=>?_
  ·rw [if_pos h] at hR
   subst hR
   refine zj hs ?_
   refine zv hs λw' hs=>?_
   refine zj hs ?_
   exact ⟨rfl,⟨⟨#[]⟩,⟨#[]⟩,b.1,time+a.1⟩,rfl,(λy hy=>by cases hy),by show 0<=2100;omega,hs.sub⟩
  rw [if_neg h] at hR
  refine wp_must (by omega) ?_
  have hks:(ByteArray.extract ahead 0 (Int.toNat c.1)).size<=1025:=by
   rw [ByteArray.size_extract];omega
  refine wp_must (by omega) ?_
  refine z08 hs λw' hs=>?_
  have ek:ByteArray.extract ahead 0 (Int.toNat c.1)++d.1=z5c ahead c.1 d.1:=rfl
  rw [ek] at hs
  refine zb hs ?_
  have hkey:(z5c ahead c.1 d.1).size<=2100:=by
   unfold z5c
   rw [ByteArray.size_append]
   omega
  refine zm (λ_ w'=>Sat w' (pt a4 (.cells #[.string (z5c ahead c.1 d.1),.string (if b.1=true then ((⟨#[]⟩:ByteArray),d.2) else z1o 1024 d.2).1,.bool b.1,.int .i64 (time+a.1)] T.a2)::rdS T.a54 p (if b.1=true then ((⟨#[]⟩:ByteArray),d.2) else z1o 1024 d.2).2::pt a0 (.cells #[.string ⟨#[]⟩,.string ⟨#[]⟩,.bool false,.int .i64 0] T.a2)::r)) ?_ ?_
  ·refine zf (λh2=>?_) λh2=>?_
   ·have h2:b.1=false:=by simpa using h2
    refine z8 (zrq (p:=p) 1024 (by omega) hs) λ_ _ hs=>?_
    obtain ⟨rfl,hs⟩:=hs
    refine zd ?_
    refine z08 hs λw' hs=>?_
    refine zg ?_
    rw [if_neg (by rw [h2];simp)]
    exact hs.sub
   ·have h2:b.1=true:=by simpa using h2
    refine zg ?_
    rw [if_pos h2]
    dsimp only
    exact hs.sub
  rintro _ w1 hs
  generalize (if b.1=true then ((⟨#[]⟩:ByteArray),d.2) else z1o 1024 d.2)=e at *
  refine zm (λq w'=>q=(RR.1.isSome,())/\Sat w' (pt a0 (.cells #[.string (z5c ahead c.1 d.1),.string e.1,.bool b.1,.int .i64 (time+a.1)] T.a2)::rdS T.a54 p e.2::r)) ?_ ?_
  ·refine z02 hs λw' hs=>?_
   refine zht hs ?_
   refine z8 (zwf (p:=p) hs) λ_ _ hs=>?_
   obtain ⟨er,rfl,her,hs⟩:=hs
   refine zd ?_ (by first|trivial|(repeat (first|exact trivial|exact λ_=>z07 hs|exact λ_=>z0d hs|refine And.intro ?_ ?_)))
   refine zb hs ?_
   refine zf (λh2=>?_) λh2=>?_
   ·have h2:e.2.isSome=true:=her.1 (by simpa using h2)
    refine z8 (zq3 ahead (z5c ahead c.1 d.1) (by omega) hs) λ_ _ hs=>?_
    obtain ⟨rfl,hs⟩:=hs
    refine zd ?_ (by first|trivial|(repeat (first|exact trivial|exact λ_=>z07 hs|exact λ_=>z0d hs|refine And.intro ?_ ?_)))
    refine ze ?_
    refine zv hs λw' hs=>?_
    refine wp_lt ?_
    refine ze ?_
    refine zg ⟨?_,hs.sub⟩
    have e3:(((z0p (bl ahead) (bl (z5c ahead c.1 d.1)):Nat):Int) == c.1)=RR.1.isSome:=by
     rw [hR]
     by_cases h3:((z0p (bl ahead) (bl (z5c ahead c.1 d.1)):Nat):Int)=c.1
     ·rw [if_pos ⟨h2,h3⟩];simpa using h3
     ·rw [if_neg λh=>h3 h.2];simpa using h3
    rw [e3]
   ·have h2:¬ e.2.isSome=true:=λh=>h2 (by simpa using her.2 h)
    refine ze ?_
    refine zv hs λw' hs=>?_
    refine ze ?_
    refine zg ⟨?_,hs.sub⟩
    rw [hR,if_neg λh=>h2 h.1]
    rfl
  rintro _ w1 ⟨rfl,hs⟩
  refine zj hs ?_
  refine ⟨rfl,⟨z5c ahead c.1 d.1,e.1,b.1,time+a.1⟩,rfl,λy hy=>?_,hkey,?_⟩
  ·rw [hR] at hy
   split at hy
   ·simpa using hy
   ·cases hy
  ·have e4:RR.2=e.2:=by rw [hR];split <;> rfl
   rw [e4]
   exact hs.sub
end
def ztn:BatM:=⟨0,0,0,0,0,0,z8b,[]⟩
abbrev zeroC:Array Value:=#[.int .i64 0,.int .i64 0,.int .i64 0,.int .i64 0,.int .i64 0,.int .i64 0,.slice none 0 0]
theorem zxz {P:Program} {p:Prog} {S:World->Prop} {w:World} {Q0 Q:Post} (h:p.wp P S w Q0) (h0:∀ e vs w,Q0 e vs w->e=0) (hQ:∀ vs w,Q0 0 vs w->Q 0 vs w):p.wp P S w Q :=
 Prog.wp_mono p (λe vs w h=>by have:=h0 e vs w h;subst this;exact hQ vs w h) h
theorem zta (time:Int) (n:Nat) (ahead:ByteArray) (s:Lf):z4w time (n+1) ahead s=match (z3k time ahead s).1 with
  | none=>none
  | some x=>(z4w time n x.key (z3k time ahead s).2).map λq=>(x::q.1,q.2):=rfl
def BatM.at (b:BatM) (z:Sl):BatM:={ b with x:=z }
section
variable {w:World} {l r:List HP} {p:Nat} {s:Lf}
theorem zln (x:Sl) (raw:List UInt8) [hx:FocR l x 1 (raw.flatMap zk)] (hn:raw.length<=1000000000) (hs:Sat w l) :
  Ret P F.a93 #[x.v] w λvs w'=>(∃ b z,z6a raw=some b/\vs=[.agg (z00 (b.at z)).toArray,.int .i64 0]/\Sat w' (slc T.a2 4 z (b.rs.flatMap zu)::l)) \/
   (z6a raw=none/\vs=[.agg (z00 ztn).toArray,.int .i64 6]/\Sat w' l) :=
 zvp _ <| by
  delta z09p AA AD AH AI AM AN AO AP AU Aa Ab Ac Af Ah Aj Ak Al Ao Au Av Aw Ax Az Ba Bb Bl
  refine zt hs λa0 w' hs=>?_
  refine zt hs λa1 w' hs=>?_
  refine zv hs λw' hs=>?_
  refine z8 (zx2 x raw hn hs) λ_ w' hs=>?_
  obtain ⟨p,rfl,hs⟩:=hs
  refine zd ?_
  refine z8 (zi1 (p:=p) hs) λ_ _ hs=>?_
  obtain ⟨rfl,hs⟩:=hs
  refine zd ?_
  have hfail:∀ {w':World},Sat w' (pt a1 (.cells zeroC T.a0)::pt a0 (.cells zeroC T.a0)::l)->z6a raw=none ->
    (Prog.read True (ld T.a0 ⟨a1,0,none⟩) (sG [.int .i64,.int .i64,.int .i64,.int .i64,.int .i64,.int .i64,.slc]) (u7 λn4 n5 n6 n7 n8 n9 l10 =>
     .actU (st T.a0 ⟨a0,0,none⟩ (.agg #[.int .i64 n4,.int .i64 n5,.int .i64 n6,.int .i64 n7,.int .i64 n8,.int .i64 n9,l10.v])) <|
     .read True (ld T.a0 ⟨a0,0,none⟩) (sG [.int .i64,.int .i64,.int .i64,.int .i64,.int .i64,.int .i64,.slc]) (u7 λn11 n12 n13 n14 n15 n16 l17 =>
     .done 0 [.agg #[.int .i64 n11,.int .i64 n12,.int .i64 n13,.int .i64 n14,.int .i64 n15,.int .i64 n16,l17.v],.int .i64 6]))).wp P (λ_=>True) w' λe vs w=>e=0/\((∃ b z,z6a raw=some b/\vs=[.agg (z00 (b.at z)).toArray,.int .i64 0]/\Sat w (slc T.a2 4 z (b.rs.flatMap zu)::l)) \/
      (z6a raw=none/\vs=[.agg (z00 ztn).toArray,.int .i64 6]/\Sat w l)):=by
   intro w' hs hd
   have hs:Sat w' (pt a1 (.cells [.int .i64 0,.int .i64 0,.int .i64 0,.int .i64 0,.int .i64 0,.int .i64 0,.slice none 0 0].toArray T.a0)::pt a0 (.cells [.int .i64 0,.int .i64 0,.int .i64 0,.int .i64 0,.int .i64 0,.int .i64 0,.slice none 0 0].toArray T.a0)::l):=hs
   refine zj hs ?_
   refine zv hs λw' hs=>?_
   refine zj hs ?_
   exact ⟨rfl,.inr ⟨hd,rfl,hs.sub⟩⟩
  replace hs:Sat _ (rdS T.a54 p (z11 (some raw)).2::pt a1 (.cells zeroC T.a0)::pt a0 (.cells zeroC T.a0)::l):=hs.sub
  refine zf (λh=>?_) λh=>?_
  ·refine hfail hs.sub ?_
   unfold z6a
   rw [if_pos (by omega)]
  have hdec:z6a raw=zle (hdS (z11 (some raw)).2):=by
   unfold z6a
   rw [if_neg (by omega)]
  generalize z6a raw=DD at *
  generalize (z11 (some raw)).2=s at *
  have hH:hdS s=⟨z11 s,z05 1099511627776 (z11 s).2,z05 1048576 (z05 1099511627776 (z11 s).2).2,
   if (z05 1048576 (z05 1099511627776 (z11 s).2).2).1>0 then z05 32767 (z05 1048576 (z05 1099511627776 (z11 s).2).2).2 else (0,(z05 1048576 (z05 1099511627776 (z11 s).2).2).2),
   if (z05 1048576 (z05 1099511627776 (z11 s).2).2).1>0/\z3e (z11 s).1=false then z05 2147483647 (if (z05 1048576 (z05 1099511627776 (z11 s).2).2).1>0 then z05 32767 (z05 1048576 (z05 1099511627776 (z11 s).2).2).2 else (0,(z05 1048576 (z05 1099511627776 (z11 s).2).2).2)).2 else (0,(if (z05 1048576 (z05 1099511627776 (z11 s).2).2).1>0 then z05 32767 (z05 1048576 (z05 1099511627776 (z11 s).2).2).2 else (0,(z05 1048576 (z05 1099511627776 (z11 s).2).2).2)).2),
   z05 1099511627776 (if (z05 1048576 (z05 1099511627776 (z11 s).2).2).1>0/\z3e (z11 s).1=false then z05 2147483647 (if (z05 1048576 (z05 1099511627776 (z11 s).2).2).1>0 then z05 32767 (z05 1048576 (z05 1099511627776 (z11 s).2).2).2 else (0,(z05 1048576 (z05 1099511627776 (z11 s).2).2).2)).2 else (0,(if (z05 1048576 (z05 1099511627776 (z11 s).2).2).1>0 then z05 32767 (z05 1048576 (z05 1099511627776 (z11 s).2).2).2 else (0,(z05 1048576 (z05 1099511627776 (z11 s).2).2).2)).2)).2⟩:=rfl
  refine z8 (zi1 (p:=p) hs) λ_ _ hs=>?_
  obtain ⟨rfl,hs⟩:=hs
  refine zd ?_
  generalize z11 s=k at *
  refine z8 (za2 (p:=p) 1099511627776 (by omega) hs) λ_ _ hs=>?_
  obtain ⟨rfl,hs⟩:=hs
  refine zd ?_
  generalize z05 1099511627776 k.2=ba at *
  refine z8 (za2 (p:=p) 1048576 (by omega) hs) λ_ _ hs=>?_
  obtain ⟨rfl,hs⟩:=hs
  refine zd ?_
  generalize z05 1048576 ba.2=pi at *
  refine zt hs λa2 w' hs=>?_
  refine zv hs λw' hs=>?_
  refine zb hs ?_
  generalize hep:(if pi.1>0 then z05 32767 pi.2 else (0,pi.2))=ep at *
  generalize hsq:(if pi.1>0/\z3e k.1=false then z05 2147483647 ep.2 else (0,ep.2))=sq at *
  refine zm (λ_ w'=>Sat w' (pt a2 (.cells [.int .i64 ba.1,.int .i64 pi.1,.int .i64 ep.1,.int .i64 sq.1,.int .i64 k.1,.int .i64 0,.slice none 0 0].toArray T.a0)::rdS T.a54 p sq.2::pt a1 (.cells zeroC T.a0)::pt a0 (.cells zeroC T.a0)::l)) ?_ ?_
  ·refine zf (λh=>?_) λh=>?_
   ·rw [if_pos h] at hep
    refine z8 (za2 (p:=p) 32767 (by omega) hs) λ_ _ hs=>?_
    obtain ⟨rfl,hs⟩:=hs
    refine zd ?_
    rw [hep] at hs ⊢
    refine z08 hs λw' hs=>?_
    refine zj hs ?_
    refine z8 (z6z ⟨ba.1,pi.1,ep.1,0,k.1,0,z8b,[]⟩ hs) λ_ w' hs=>?_
    obtain ⟨rfl,hs⟩:=hs
    refine zd ?_
    have em:z0b ⟨ba.1,pi.1,ep.1,0,k.1,0,z8b,[]⟩=z3e k.1:=rfl
    rw [em]
    refine z44 ?_
    refine zf (λh2=>?_) λh2=>?_
    ·have h2:z3e k.1=false:=by simpa using h2
     rw [if_pos ⟨h,h2⟩] at hsq
     refine z8 (za2 (p:=p) 2147483647 (by omega) hs) λ_ _ hs=>?_
     obtain ⟨rfl,hs⟩:=hs
     refine zd ?_
     rw [hsq] at hs ⊢
     refine z08 hs λw' hs=>?_
     refine z5a ?_
     refine zg ?_
     exact hs.sub
    ·have h2:z3e k.1≠false:=by simpa using h2
     rw [if_neg λh=>h2 h.2] at hsq
     refine z5a ?_
     refine zg ?_
     rw [<- hsq]
     exact hs.sub
   ·rw [if_neg h] at hep
    rw [if_neg λh2=>h h2.1] at hsq
    refine zg ?_
    rw [<- hsq,<- hep]
    exact hs.sub
  rintro _ w1 hs
  refine z8 (za2 (p:=p) 1099511627776 (by omega) hs) λ_ _ hs=>?_
  obtain ⟨rfl,hs⟩:=hs
  refine zd ?_
  have htb:=zgi (most:=1099511627776) (by decide) sq.2
  generalize z05 1099511627776 sq.2=tm at *
  refine z08 hs λw' hs=>?_
  refine z8 (zwf (p:=p) hs) λ_ _ hs=>?_
  obtain ⟨er,rfl,her,hs⟩:=hs
  refine zd ?_
  refine zb hs ?_
  rw [hH] at hdec
  generalize hHH:(⟨k,ba,pi,ep,sq,tm⟩:HdS)=H at *
  have e1:H.tm=tm:=by rw [<- hHH]
  have e2:H.k=k:=by rw [<- hHH]
  unfold zle at hdec
  rw [e1,e2] at hdec
  refine zf (λh=>?_) λh=>?_
  ·refine hfail hs.sub ?_
   rw [hdec,if_pos]
   rcases h with h|h
   ·left
    cases hi:tm.2.isSome with
    | false=>rfl
    | true=>exact absurd (her.2 hi) h
   ·right;omega
  have htm:tm.1<=1099511627776:=by
   apply Decidable.byContradiction
   intro hh
   exact h (.inr (by omega))
  have her0:tm.2.isSome=true:=her.1 (Decidable.byContradiction λhh=>h (.inl hh))
  rw [if_neg (by rw [her0];rintro (h|h);cases h;omega)] at hdec
  refine zj hs ?_
  refine z8 (z6z ⟨ba.1,pi.1,ep.1,sq.1,k.1,tm.1,z8b,[]⟩ hs) λ_ w' hs=>?_
  obtain ⟨rfl,hs⟩:=hs
  refine zd ?_
  have em:z0b ⟨ba.1,pi.1,ep.1,sq.1,k.1,tm.1,z8b,[]⟩=z3e k.1:=rfl
  rw [em]
  refine zm (λ_ w'=>∃ (rs:List RecM) (z:Sl) (s1:Lf),DD=(if s1=some []/\zy (H.b rs)=0 then some (H.b rs) else none)/\Sat w' (slc T.a2 4 z (rs.flatMap zu)::pt a2 (.cells [.int .i64 ba.1,.int .i64 pi.1,.int .i64 ep.1,.int .i64 sq.1,.int .i64 k.1,.int .i64 tm.1,.slice z.a z.len z.cap].toArray T.a0)::rdS T.a54 p s1::pt a1 (.cells zeroC T.a0)::pt a0 (.cells zeroC T.a0)::l)) ?_ ?_
  ·refine zf (λh2=>?_) λh2=>?_
   rotate_left
   ·have h2:z3e k.1=true:=by simpa using h2
    rw [if_pos h2] at hdec
    refine zg ⟨[],⟨none,0,0⟩,tm.2,hdec,?_⟩
    have hs:Sat _ (slc T.a2 4 ⟨none,0,0⟩ (([]:List RecM).flatMap zu)::_):=hs.slc_nil
    exact hs.sub
   have h2:z3e k.1=false:=by simpa using h2
   rw [if_neg (by rw [h2];simp)] at hdec
   refine z8 (za2 (p:=p) 64 (by omega) hs) λ_ _ hs=>?_
   obtain ⟨rfl,hs⟩:=hs
   refine zd ?_
   have hnb:=zgi (most:=64) (by decide) tm.2
   generalize z05 64 tm.2=n at *
   refine wp_lt ?_
   refine zf (λh3=>?_) λh3=>?_
   ·rw [if_pos h3] at hdec
    have hf:=hfail hs.sub hdec
    exact zxz hf (λ_ _ _ h=>h.1) λvs w h=>z8i (by decide) h
   rw [if_neg h3] at hdec
   refine zm (λ_ w'=>∃ (rs:List RecM) (z:Sl) (s1:Lf),z4w tm.1 n.1.toNat ⟨#[]⟩ n.2=some (rs,s1)/\Sat w' (slc T.a2 4 z (rs.flatMap zu)::pt a2 (.cells [.int .i64 ba.1,.int .i64 pi.1,.int .i64 ep.1,.int .i64 sq.1,.int .i64 k.1,.int .i64 tm.1,.slice z.a z.len z.cap].toArray T.a0)::rdS T.a54 p s1::pt a1 (.cells zeroC T.a0)::pt a0 (.cells zeroC T.a0)::l)) ?_ ?_
   rotate_left
   ·rintro _ w1 ⟨rs,z,s1,hrs,hs⟩
    rw [hrs] at hdec
    exact zg ⟨rs,z,s1,hdec,hs⟩
   refine z0c (λm v w=>∃ (i:Nat) (done:List RecM) (ahead:ByteArray) (z:Sl) (s1:Lf),v=(ahead,((i:Int),()))/\i<=n.1.toNat/\n.1.toNat-i=m/\done.length=i/\ahead.size<=2100 /\
    z4w tm.1 n.1.toNat ⟨#[]⟩ n.2=(z4w tm.1 (n.1.toNat-i) ahead s1).map (λq=>(done++q.1,q.2))/\Sat w (slc T.a2 4 z (done.flatMap zu)::pt a2 (.cells [.int .i64 ba.1,.int .i64 pi.1,.int .i64 ep.1,.int .i64 sq.1,.int .i64 k.1,.int .i64 tm.1,.slice z.a z.len z.cap].toArray T.a0)::rdS T.a54 p s1::pt a1 (.cells zeroC T.a0)::pt a0 (.cells zeroC T.a0)::l)) n.1.toNat
    ⟨0,[],⟨#[]⟩,⟨none,0,0⟩,n.2,rfl,by omega,rfl,rfl,(by show 0<=2100;omega),?_,(show Sat _ (slc T.a2 4 ⟨none,0,0⟩ (([]:List RecM).flatMap zu)::_) from hs.slc_nil).sub⟩ ?_
   ·cases z4w tm.1 n.1.toNat ⟨#[]⟩ n.2 <;> simp
   clear hs
   rintro m _ w ⟨i,done,ahead,z,s1,rfl,hi,hm,hdl,hah,hrec,hs⟩
   refine zf (λhc=>?_) λhc=>?_
   rotate_left
   ·refine zn (zg ⟨done,z,s1,?_,hs⟩)
    have hc:¬ ((i:Int)<n.1):=hc
    rw [hrec,show n.1.toNat-i=0 by omega]
    simp [z4w]
   have hc:(i:Int)<n.1:=hc
   refine zb hs ?_
   refine z8 (z04z (p:=p) tm.1 ⟨htb.1,htm⟩ ahead (by omega) hs) λ_ w' hs=>?_
   obtain ⟨y,rfl,hy,hyk,hs⟩:=hs
   refine ⟨(y.key,y.value,y.gone,y.time,(z3k tm.1 ahead s1).1.isSome,()),rfl,trivial,z79 _ _ _ _ _ ?_⟩
   refine zt hs λa3 w' hs=>?_
   refine zv hs λw' hs=>?_
   refine wp_lt ?_
   have hsucc:n.1.toNat-i=(n.1.toNat-(i+1))+1:=by omega
   rw [hsucc] at hrec
   rw [zta] at hrec
   refine zf (λh4=>?_) λh4=>?_
   ·have h4:(z3k tm.1 ahead s1).1=none:=by simpa using h4
    rw [h4] at hrec
    have hrec:z4w tm.1 n.1.toNat ⟨#[]⟩ n.2=none:=hrec
    rw [hrec] at hdec
    have hf:=hfail hs.sub hdec
    exact zxz hf (λ_ _ _ h=>h.1) λvs w h=>z8i (by decide) (z8i (by decide) (z8i (by decide) h))
   have h4:(z3k tm.1 ahead s1).1.isSome=true:=by
    cases hq:(z3k tm.1 ahead s1).1 with
    | none=>rw [hq] at h4;exact absurd (by simp) h4
    | some q=>rfl
   obtain ⟨y',hy'⟩:=Option.isSome_iff_exists.1 h4
   obtain rfl:=hy y' hy'
   rw [hy'] at hrec
   refine zb hs ?_
   refine zj hs ?_
   refine z5j (xs:=done) (enc:=zu) (y:=y) hs (λz' w' hs=>?_) rfl (by omega)
   refine z08 hs λw' hs=>?_
   refine zb hs ?_
   refine wp_lt ?_
   have e5:IntKind.wrap .i64 ((i:Int)+1)=((i+1:Nat):Int):=by rw [w64 (by omega) (by omega)];omega
   rw [e5]
   refine z0z (n.1.toNat-(i+1)) ?_
   refine ⟨i+1,done++[y],y.key,z',(z3k tm.1 ahead s1).2,rfl,by omega,rfl,by simp [hdl],hyk,?_,hs.sub⟩
   rw [hrec,Option.map_map]
   congr 1
   funext q
   simp
  rintro _ w1 ⟨rs,z,s1,hDD,hs⟩
  have hb:H.b rs=⟨ba.1,pi.1,ep.1,sq.1,k.1,tm.1,z8b,rs⟩:=by rw [<- hHH];rfl
  have hv0:zy (H.b rs)=zy ⟨ba.1,pi.1,ep.1,sq.1,k.1,tm.1,z,rs⟩:=by rw [hb];rfl
  refine zm (λq w'=>q=(DD.isNone,())/\Sat w' (slc T.a2 4 z (rs.flatMap zu)::pt a2 (.cells [.int .i64 ba.1,.int .i64 pi.1,.int .i64 ep.1,.int .i64 sq.1,.int .i64 k.1,.int .i64 tm.1,.slice z.a z.len z.cap].toArray T.a0)::pt a1 (.cells zeroC T.a0)::pt a0 (.cells zeroC T.a0)::l)) ?_ ?_
  ·refine z8 (zwe (p:=p) hs) λ_ w' hs=>?_
   obtain ⟨e,rfl,he,hs⟩:=hs
   refine zd ?_
   refine zj hs ?_
   refine zf (λh5=>?_) λh5=>?_
   ·refine zg ⟨?_,hs.sub⟩
    rw [hDD,if_neg λhh=>h5 (he.2 hh.1)]
    rfl
   ·have h5:s1=some []:=he.1 (Decidable.not_not.1 h5)
    refine z8 (z9f ⟨ba.1,pi.1,ep.1,sq.1,k.1,tm.1,z,rs⟩ hs) λ_ w' hs=>?_
    obtain ⟨rfl,hs⟩:=hs
    refine zd ?_
    refine zg ⟨?_,hs.sub⟩
    rw [hDD,<- hv0]
    by_cases h6:zy (H.b rs)=0
    ·rw [if_pos ⟨h5,h6⟩,h6];rfl
    ·rw [if_neg λhh=>h6 hh.2]
     simpa using h6
  rintro _ w1 ⟨rfl,hs⟩
  refine zf (λh6=>?_) λh6=>?_
  ·exact hfail hs.sub (by simpa using h6)
  ·rw [hDD] at h6
   split at h6
   rotate_left
   ·exact absurd rfl h6
   rename_i h7
   rw [if_pos h7] at hDD
   refine zj hs ?_
   have hs:Sat w1 (slc T.a2 4 z (rs.flatMap zu)::pt a2 (.cells [.int .i64 ba.1,.int .i64 pi.1,.int .i64 ep.1,.int .i64 sq.1,.int .i64 k.1,.int .i64 tm.1,.slice z.a z.len z.cap].toArray T.a0)::pt a1 (.cells zeroC T.a0)::pt a0 (.cells [.int .i64 0,.int .i64 0,.int .i64 0,.int .i64 0,.int .i64 0,.int .i64 0,.slice none 0 0].toArray T.a0)::l):=hs
   refine zv hs λw' hs=>?_
   refine zj hs ?_
   refine ⟨rfl,.inl ⟨H.b rs,z,hDD,?_,?_⟩⟩
   ·rw [hb];rfl
   ·rw [hb];exact hs.sub
end
section
variable {w:World} {l r:List HP} {Q:Post} {S:World->Prop}
theorem z61 {P:Program} {t:TypeId} {sz:Nat} {α:Type} {enc:α->List Value} {n:Nat} {ps:Array (Nat × Value)} {el:TypeId} {bytes:Nat} {k:Sl->Prog} (hs:Sat w l) [ht:SlT P t el sz bytes] [hE:EncN enc sz] (xs:List α)
  (h:∀ x w',Sat w' (slc el sz x (xs.flatMap enc)::l)->S w'/\(k x).wp P S w' Q) (hc:z42 P t n ps=some (el,(xs.flatMap enc).toArray):=by kernel_rfl) (hn:xs.length=n:=by rfl) :
  (Prog.act (Instr.buildSlice t n ps) sL (u1 k)).wp P S w Q:=by
 have hp:=hs.push (o:=.cells (xs.flatMap enc).toArray el) (w':={ w with heap:=w.heap.push (.cells (xs.flatMap enc).toArray el) }) rfl
 have hsz:(xs.flatMap enc).toArray.size=n*sz:=by rw [List.size_toArray,z3n,hn]
 have h1:Sat { w with heap:=w.heap.push (.cells (xs.flatMap enc).toArray el) } (slc el sz ⟨some ⟨w.heap.size,0,none⟩,n,n⟩ (xs.flatMap enc)::l):=by
  have:=hp.slc_of (sz:=sz) hsz
  rwa [List.toList_toArray] at this
 have h2:=h ⟨some ⟨w.heap.size,0,none⟩,n,n⟩ _ h1
 exact ⟨(⟨some ⟨w.heap.size,0,none⟩,n,n⟩,()),_,zhk hc,h2.1,h2.2⟩
theorem z05g {P:Program} {α:Type} {enc:α->List Value} {xs ys:List α} {t tx ty el el':TypeId} {sz bytes sz' bytes':Nat} {x y:Sl} {k:Sl->Prog} (hs:Sat w l) [ht:SlT P t el sz bytes] [htx:SlT P tx el' sz' bytes'] [hf:FocS l x el sz (xs.flatMap enc) r] [hy:FocR l y sz (ys.flatMap enc)] [hE:EncN enc sz]
  (h:∀ z w',Sat w' (slc el sz z ((xs++ys).flatMap enc)::r)->S w'/\(k z).wp P S w' Q) (hb:(xs.length+ys.length)*bytes<=140737488355328/\xs.length+ys.length<=9223372036854775807:=by omega) :
  (Prog.act (app t tx ty (.slice x.a x.len x.cap) (.slice y.a y.len y.cap)) sL (u1 k)).wp P S w Q:=by
 have h1:x.len=xs.length:=(hs.focS x).rd.len hE.len hE.pos
 have h2:=hs.slen y (xs:=ys) (enc:=enc)
 refine ztg hs (hy.rd w hs) (λu hu=>?_) (by rw [h1,h2];exact hb.1) (by rw [h1,h2];exact hb.2) λz w' _ hs'=>h z w' ?_
 ·obtain ⟨a,-,hu⟩:=List.mem_flatMap.1 hu
  exact hE.one a u hu
 ·rw [List.flatMap_append];exact hs'
end
abbrev cB (b:BatM):Array Value:=#[.int .i64 b.base,.int .i64 b.pid,.int .i64 b.epoch,.int .i64 b.seq,.int .i64 b.kind,.int .i64 b.time,.slice b.x.a b.x.len b.x.cap]
abbrev cR (r:RecM):Array Value:=#[.string r.key,.string r.value,.bool r.gone,.int .i64 r.time]
theorem zhi (time:Int):∀ (rs:List RecM) (ahead:ByteArray) (r:RecM),z2m time ahead (rs++[r])=z2m time ahead rs++z6o time (match rs.getLast? with|none=>ahead|some x=>x.key) r
 | [],ahead,r=>by simp [z2m]
 | a::rs,ahead,r=>by
  show z6o time ahead a++z2m time a.key (rs++[r])=z6o time ahead a++z2m time a.key rs++_
  rw [zhi time rs a.key r,List.append_assoc]
  congr 3
  cases rs with
  | nil=>rfl
  | cons b bs=>rfl
theorem z050 {b:BatM} (hv:zy b=0) (i:Nat):(z2m b.time ⟨#[]⟩ (b.rs.take i)).length<=133696:=by
 obtain ⟨h64,hrs⟩:=z2e hv
 have h1:=zdm (time:=b.time) (n:=2048) (rs:=b.rs.take i) (ahead:=⟨#[]⟩) λr hr=>by
  obtain ⟨h1,h2,-⟩:=z5m (hrs r (List.mem_of_mem_take hr))
  omega
 have h2:(b.rs.take i).length<=64:=by rw [List.length_take];omega
 have:(b.rs.take i).length*(41+2048)<=64*(41+2048):=Nat.mul_le_mul_right _ h2
 omega
def hdL (b:BatM):List UInt8:=1::UInt8.ofNat b.kind.toNat::(uI b.base++uI b.pid)
def z88 (b:BatM):List UInt8:=if b.pid>0 then uI b.epoch++(if z0b b then [] else uI b.seq) else []
theorem zq6 (b:BatM):z2p b=(hdL b++z88 b++uI b.time)++if z0b b then [] else uI b.rs.length++z2m b.time ⟨#[]⟩ b.rs:=by
 unfold z2p hdL z88
 simp only [List.cons_append,List.append_assoc]
section
variable {w:World} {l r:List HP}
set_option maxHeartbeats 1000000 in
theorem zyv (b:BatM) [hb:FocR l b.x 4 (b.rs.flatMap zu)] (hs:Sat w l) :
  Ret P F.a94 #[.agg (z00 b).toArray] w λvs w'=>(zy b≠0/\vs=[.slice none 0 0,.int .i64 (zy b)]/\Sat w' l)\/(zy b=0/\∃ z:Sl,vs=[z.v,.int .i64 0]/\Sat w' (slc T.a52 1 z ((z2p b).flatMap zk)::l)) :=
 zvq b.base b.pid b.epoch b.seq b.kind b.time b.x <| by
  delta z09q AA AC AD AE AG AI AJ AL AM AO AP AR AT AU Aa Ab Ac Af Ai Aj Ak An Av Aw Ba Bb Bp
  have hlx:=hs.slen b.x (xs:=b.rs) (enc:=zu)
  refine zr hs λa0 w' hs=>?_
  refine zj hs ?_
  refine z8 (z9f b hs) λ_ w' hs=>?_
  obtain ⟨rfl,hs⟩:=hs
  refine zd ?_
  refine wp_lt ?_
  refine zf (λh=>?_) λh=>?_
  ·refine wp_lt ?_
   exact ⟨rfl,.inl ⟨h,rfl,hs.tail⟩⟩
  have hv:zy b=0:=Decidable.not_not.1 h
  obtain ⟨-,-,⟨hk,hba,hpi,hep,hsq,htm⟩,hfit,-⟩:=z15 b hv
  obtain ⟨h64,hrs⟩:=z2e hv
  refine zm (λq w'=>∃ z:Sl,q=(z,())/\Sat w' (slc T.a52 1 z ((hdL b).flatMap zk)::pt a0 (.cells (cB b) T.a0)::l)) ?_ ?_
  ·have ek:IntKind.wrap .u8 b.kind=(((UInt8.ofNat b.kind.toNat).toNat:Nat):Int):=by
    rw [wu8 (by omega) (by omega),UInt8.toNat_ofNat'];omega
   have hul1:=z22 b.base
   have hul2:=z22 b.pid
   refine z02 hs λw' hs=>?_
   refine z0s hs ?_
   refine z0s hs ?_
   refine z0s hs ?_
   have fin:∀ {w':World} {z1 z2 z3:Sl},Sat w' (slc T.a52 1 z1 (([1,UInt8.ofNat b.kind.toNat]:List UInt8).flatMap zk)::slc T.a52 1 z2 ((uI b.base).flatMap zk)::slc T.a52 1 z3 ((uI b.pid).flatMap zk)::pt a0 (.cells (cB b) T.a0)::l) ->
     (Prog.act (Instr.buildSlice T.a43 3 #[(0,z1.v),(1,z2.v),(2,z3.v)]) sL (u1 λl17=>.call F.a170 [l17.v] sL (u1 λl18=>.untick <| .done 1 [l18.v]))).wp P (λ_=>True) w' (Post.catch (λe vs w'=>e=0/\((zy b≠0/\vs=[.slice none 0 0,.int .i64 (zy b)]/\Sat w' l)\/(zy b=0/\∃ z:Sl,vs=[z.v,.int .i64 0]/\Sat w' (slc T.a52 1 z ((z2p b).flatMap zk)::l)))) 1 λvs w'=>∃ x,vs=z1b [.one .slc] x/\∃ z:Sl,x=(z,())/\Sat w' (slc T.a52 1 z ((hdL b).flatMap zk)::pt a0 (.cells (cB b) T.a0)::l)):=by
    intro w' z1 z2 z3 hs
    refine z9h hs (enc:=z0k) [z1,z2,z3] λz4 w' hs=>?_
    refine z8 (z00u z4 z1 z2 z3 [1,UInt8.ofNat b.kind.toNat] (uI b.base) (uI b.pid) (by simp only [List.length_cons,List.length_nil];omega) hs) λ_ w' hs=>?_
    obtain ⟨z5,rfl,hs⟩:=hs
    refine zd ?_
    refine ze ?_
    refine zg ⟨z5,rfl,?_⟩
    have e:[1,UInt8.ofNat b.kind.toNat]++(uI b.base++uI b.pid)=hdL b:=by unfold hdL;simp
    rw [e] at hs
    exact hs.sub
   rw [ek]
   refine zeh ?_ ?_
   ·refine z61 hs (enc:=zk) [1,UInt8.ofNat b.kind.toNat] λz1 w' hs=>⟨(by first|trivial|(repeat (first|exact trivial|exact λ_=>z07 hs|exact λ_=>z0d hs|refine And.intro ?_ ?_))),?_⟩
    refine z8 (z5i b.base (by omega) hs) λ_ w' hs=>?_
    obtain ⟨z2,rfl,hs⟩:=hs
    refine zd ?_ (by first|trivial|(repeat (first|exact trivial|exact λ_=>z07 hs|exact λ_=>z0d hs|refine And.intro ?_ ?_)))
    refine z8 (z5i b.pid (by omega) hs) λ_ w' hs=>?_
    obtain ⟨z3,rfl,hs⟩:=hs
    refine zd ?_ (by first|trivial|(repeat (first|exact trivial|exact λ_=>z07 hs|exact λ_=>z0d hs|refine And.intro ?_ ?_)))
    refine ze ?_
    exact fin hs.sub
   ·refine z8 (z5i b.base (by omega) hs) λ_ w' hs=>?_
    obtain ⟨z2,rfl,hs⟩:=hs
    refine zd ?_ (by first|trivial|(repeat (first|exact trivial|exact λ_=>z07 hs|exact λ_=>z0d hs|refine And.intro ?_ ?_)))
    refine zeh ?_ ?_
    ·refine z61 hs (enc:=zk) [1,UInt8.ofNat b.kind.toNat] λz1 w' hs=>⟨(by first|trivial|(repeat (first|exact trivial|exact λ_=>z07 hs|exact λ_=>z0d hs|refine And.intro ?_ ?_))),?_⟩
     refine z8 (z5i b.pid (by omega) hs) λ_ w' hs=>?_
     obtain ⟨z3,rfl,hs⟩:=hs
     refine zd ?_ (by first|trivial|(repeat (first|exact trivial|exact λ_=>z07 hs|exact λ_=>z0d hs|refine And.intro ?_ ?_)))
     refine ze ?_
     exact fin hs.sub
    ·refine z8 (z5i b.pid (by omega) hs) λ_ w' hs=>?_
     obtain ⟨z3,rfl,hs⟩:=hs
     refine zd ?_ (by first|trivial|(repeat (first|exact trivial|exact λ_=>z07 hs|exact λ_=>z0d hs|refine And.intro ?_ ?_)))
     refine z61 hs (enc:=zk) [1,UInt8.ofNat b.kind.toNat] λz1 w' hs=>⟨(by first|trivial|(repeat (first|exact trivial|exact λ_=>z07 hs|exact λ_=>z0d hs|refine And.intro ?_ ?_))),?_⟩
     refine ze ?_
     exact fin hs.sub
  rintro _ w1 ⟨z,rfl,hs⟩
  have hdl:(hdL b).length<=22:=by
   have hul1:=z22 b.base
   have hul2:=z22 b.pid
   unfold hdL
   simp only [List.length_cons,List.length_append]
   omega
  refine zb hs ?_
  refine zm (λq w'=>∃ z:Sl,q=(z,())/\Sat w' (slc T.a52 1 z ((hdL b++z88 b).flatMap zk)::pt a0 (.cells (cB b) T.a0)::l)) ?_ ?_
  ·refine zf (λh2=>?_) λh2=>?_
   rotate_left
   ·refine zg ⟨z,rfl,?_⟩
    have e:z88 b=[]:=by unfold z88;rw [if_neg h2]
    rw [e,List.append_nil]
    exact hs
   have hul:=z22 b.epoch
   refine zb hs ?_
   refine z8 (z5i b.epoch (by omega) hs) λ_ w' hs=>?_
   obtain ⟨z2,rfl,hs⟩:=hs
   refine zd ?_
   refine wp_app' (xs:=hdL b) (ys:=uI b.epoch) (enc:=zk) hs λz3 w' hs=>?_
   refine zj hs ?_
   refine z8 (z6z b hs) λ_ w' hs=>?_
   obtain ⟨rfl,hs⟩:=hs
   refine zd ?_
   refine z44 ?_
   refine zf (λh3=>?_) λh3=>?_
   ·have h3:z0b b=false:=by simpa using h3
    have hul2:=z22 b.seq
    refine zb hs ?_
    refine z8 (z5i b.seq (by omega) hs) λ_ w' hs=>?_
    obtain ⟨z4,rfl,hs⟩:=hs
    refine zd ?_
    refine wp_app' (xs:=hdL b++uI b.epoch) (ys:=uI b.seq) (enc:=zk) hs (λz5 w' hs=>?_) (by rw [List.length_append];omega)
    refine z5a ?_
    refine zg ⟨z5,rfl,?_⟩
    have e:z88 b=uI b.epoch++uI b.seq:=by unfold z88;rw [if_pos h2,h3];rfl
    rw [e,<- List.append_assoc]
    exact hs.sub
   ·have h3:z0b b=true:=by simpa using h3
    refine z5a ?_
    refine zg ⟨z3,rfl,?_⟩
    have e:z88 b=uI b.epoch:=by unfold z88;rw [if_pos h2,h3,if_pos rfl,List.append_nil]
    rw [e]
    exact hs.sub
  rintro _ w2 ⟨z2,rfl,hs⟩
  have hml:(z88 b).length<=20:=by
   have hul1:=z22 b.epoch
   have hul2:=z22 b.seq
   unfold z88
   split
   ·split
    ·simp only [List.length_append,List.length_nil];omega
    ·simp only [List.length_append];omega
   ·simp
  have htl:=z22 b.time
  refine zb hs ?_
  refine z8 (z5i b.time (by omega) hs) λ_ w' hs=>?_
  obtain ⟨z3,rfl,hs⟩:=hs
  refine zd ?_
  refine wp_app' (xs:=hdL b++z88 b) (ys:=uI b.time) (enc:=zk) hs (λz4 w' hs=>?_) (by rw [List.length_append];omega)
  refine zj hs ?_
  refine z8 (z6z b hs) λ_ w' hs=>?_
  obtain ⟨rfl,hs⟩:=hs
  refine zd ?_
  refine zf (λh3=>?_) λh3=>?_
  ·refine ⟨rfl,.inr ⟨hv,z4,rfl,?_⟩⟩
   rw [zq6,h3,if_pos rfl,List.append_nil]
   exact hs.sub
  have h3:z0b b=false:=by simpa using h3
  have hcl:=z22 ((b.rs.length:Nat):Int)
  refine zb hs ?_
  rw [hlx]
  refine z8 (z5i ((b.rs.length:Nat):Int) (by omega) hs) λ_ w' hs=>?_
  obtain ⟨z5,rfl,hs⟩:=hs
  refine zd ?_
  generalize hX:hdL b++z88 b++uI b.time=X at hs
  have hXl:X.length<=60:=by rw [<- hX];simp only [List.length_append];omega
  refine wp_app' (xs:=X) (ys:=uI (b.rs.length:Nat)) (enc:=zk) hs (λz6 w' hs=>?_) (by omega)
  refine zb hs ?_
  generalize hY:X++uI ((b.rs.length:Nat):Int)=Y at hs
  have hYl:Y.length<=80:=by rw [<- hY];simp only [List.length_append];omega
  have hfin:z2p b=Y++z2m b.time ⟨#[]⟩ b.rs:=by
   rw [zq6,hX,h3,if_neg (by simp),<- hY,List.append_assoc]
  refine zm (λq w'=>∃ z:Sl,q=(z,())/\Sat w' (slc T.a52 1 z ((z2p b).flatMap zk)::l)) ?_ ?_
  rotate_left
  ·rintro _ w' ⟨z,rfl,hs⟩
   exact ⟨rfl,.inr ⟨hv,z,rfl,hs⟩⟩
  have hrec:=z050 hv
  refine z0c (λm v w=>∃ (i:Nat) (z:Sl),v=(z,((match (b.rs.take i).getLast? with|none=>(⟨#[]⟩:ByteArray)|some x=>x.key),((i:Int),())))/\i<=b.rs.length/\b.rs.length-i=m/\Sat w (slc T.a52 1 z ((Y++z2m b.time ⟨#[]⟩ (b.rs.take i)).flatMap zk)::pt a0 (.cells (cB b) T.a0)::l)) b.rs.length ⟨0,z6,rfl,by omega,rfl,by
   rw [List.take_zero]
   show Sat _ (slc T.a52 1 z6 ((Y++[]).flatMap zk)::_)
   rw [List.append_nil]
   exact hs.sub⟩ ?_
  clear hs
  rintro m _ w ⟨i,z,rfl,hi,hm,hs⟩
  refine zf (λhc=>?_) λhc=>?_
  rotate_left
  ·refine zn (zg ⟨z,rfl,?_⟩)
   have hc:¬ ((i:Int)<((b.x.len:Nat):Int)):=hc
   have hi2:i=b.rs.length:=by omega
   rw [hi2,List.take_length,<- hfin] at hs
   exact hs.sub
  have hc:((i:Int)<((b.x.len:Nat):Int)):=hc
  have hil:i<b.rs.length:=by omega
  refine z2v hs (xs:=b.rs) (enc:=zu) i hil ?_
  refine zt hs λa1 w' hs=>?_
  refine zv hs λw' hs=>?_
  refine zb hs ?_
  obtain ⟨hr1,hr2,hr3,hr4⟩:=z5m (hrs b.rs[i] (List.getElem_mem hil))
  have hah:∀ x,(match (b.rs.take i).getLast? with|none=>(⟨#[]⟩:ByteArray)|some x=>x.key)=x->x.size<=1024:=by
   intro x hx
   cases hq:(b.rs.take i).getLast? with
   | none=>rw [hq] at hx;subst hx;show 0<=1024;omega
   | some y =>
    rw [hq] at hx
    subst hx
    exact (z5m (hrs y (List.mem_of_mem_take (List.mem_of_getLast? hq)))).1
  have hsn:=zhi b.time (b.rs.take i) ⟨#[]⟩ b.rs[i]
  rw [<- List.take_succ_eq_append_getElem hil] at hsn
  have hln:=hrec (i+1)
  rw [hsn,List.length_append] at hln
  have hlast:(match (b.rs.take (i+1)).getLast? with|none=>(⟨#[]⟩:ByteArray)|some x=>x.key)=b.rs[i].key:=by
   rw [List.take_succ_eq_append_getElem hil,z20]
  generalize (match (b.rs.take i).getLast? with|none=>(⟨#[]⟩:ByteArray)|some x=>x.key)=ahead at *
  have hah:=hah ahead rfl
  refine z8 (zq3 ahead b.rs[i].key (by omega) hs) λ_ w' hs=>?_
  obtain ⟨rfl,hs⟩:=hs
  refine zd ?_
  refine wp_lt ?_
  have hal:=za6 (bl ahead) (bl b.rs[i].key)
  rw [z1e,z1e] at hal
  have hrl:z6o b.time ahead b.rs[i]=(z5y (b.rs[i].time-b.time)++([z8k b.rs[i].gone]++(uI (z0p (bl ahead) (bl b.rs[i].key):Nat)++z78 ahead b.rs[i].key)))++if b.rs[i].gone then [] else uI b.rs[i].value.size++bl b.rs[i].value:=by
   unfold z6o
   simp only [List.append_assoc,List.cons_append,List.nil_append,List.singleton_append]
  generalize hZ:Y++z2m b.time ⟨#[]⟩ (b.rs.take i)=Z at *
  have hZl:Z.length<=200000:=by rw [<- hZ,List.length_append];omega
  have htl1:=zka (b.rs[i].time-b.time)
  have htl2:=z22 ((z0p (bl ahead) (bl b.rs[i].key):Nat):Int)
  have htl3:(z78 ahead b.rs[i].key).length<=1034:=by
   unfold z78
   have:=z22 (((b.rs[i].key.size-z0p (bl ahead) (bl b.rs[i].key):Nat)):Int)
   rw [List.length_append,List.length_drop,z1e]
   omega
  refine zm (λq w'=>∃ z:Sl,q=(z,())/\Sat w' (slc T.a52 1 z ((Z++(z5y (b.rs[i].time-b.time)++([z8k b.rs[i].gone]++(uI (z0p (bl ahead) (bl b.rs[i].key):Nat)++z78 ahead b.rs[i].key)))).flatMap zk)::pt a1 (.cells (cR b.rs[i]) T.a2)::pt a0 (.cells (cB b) T.a0)::l)) ?_ ?_
  ·refine z02 hs λw' hs=>?_
   refine zb hs ?_
   refine zb hs ?_
   refine z0s hs ?_
   refine z0s hs ?_
   refine wp_must (by omega) ?_
   rw [w64 (by omega) (by omega)]
   refine z8 (z05o (b.rs[i].time-b.time) (by omega) hs) λ_ w' hs=>?_
   obtain ⟨u1_,rfl,hs⟩:=hs
   refine zd ?_ (by first|trivial|(repeat (first|exact trivial|exact λ_=>z07 hs|exact λ_=>z0d hs|refine And.intro ?_ ?_)))
   refine z8 (z05f b.rs[i].gone hs) λ_ w' hs=>?_
   obtain ⟨u2_,rfl,hs⟩:=hs
   refine zd ?_ (by first|trivial|(repeat (first|exact trivial|exact λ_=>z07 hs|exact λ_=>z0d hs|refine And.intro ?_ ?_)))
   refine z8 (z5i ((z0p (bl ahead) (bl b.rs[i].key):Nat):Int) (by omega) hs) λ_ w' hs=>?_
   obtain ⟨u3_,rfl,hs⟩:=hs
   refine zd ?_ (by first|trivial|(repeat (first|exact trivial|exact λ_=>z07 hs|exact λ_=>z0d hs|refine And.intro ?_ ?_)))
   refine ze ?_
   have ext:(ByteArray.extract b.rs[i].key (z0p (bl ahead) (bl b.rs[i].key)) b.rs[i].key.size).size=b.rs[i].key.size-z0p (bl ahead) (bl b.rs[i].key):=by rw [ByteArray.size_extract];omega
   have exb:bl (ByteArray.extract b.rs[i].key (z0p (bl ahead) (bl b.rs[i].key)) b.rs[i].key.size)=(bl b.rs[i].key).drop (z0p (bl ahead) (bl b.rs[i].key)):=by
    unfold bl
    rw [ByteArray.data_extract,Array.toList_extract,List.extract_eq_take_drop]
    exact List.take_of_length_le (by rw [List.length_drop];exact Nat.le_refl _)
   rw [Int.toNat_natCast]
   refine z8 (zrx (ByteArray.extract b.rs[i].key (z0p (bl ahead) (bl b.rs[i].key)) b.rs[i].key.size) (by omega) hs) λ_ w' hs=>?_
   obtain ⟨u4_,rfl,hs⟩:=hs
   refine zd ?_
   rw [ext,exb] at hs
   have hs:Sat _ (slc T.a52 1 u4_ ((z78 ahead b.rs[i].key).flatMap zk)::_):=hs
   refine z9h hs (enc:=z0k) [u1_,u2_,u3_,u4_] λu5_ w' hs=>?_
   refine z8 (z00v u5_ u1_ u2_ u3_ u4_ (z5y (b.rs[i].time-b.time)) [z8k b.rs[i].gone] (uI (z0p (bl ahead) (bl b.rs[i].key):Nat)) (z78 ahead b.rs[i].key) (by simp only [List.length_cons,List.length_nil];omega) hs) λ_ w' hs=>?_
   obtain ⟨u6_,rfl,hs⟩:=hs
   refine zd ?_
   refine wp_app' (xs:=Z) (ys:=z5y (b.rs[i].time-b.time)++([z8k b.rs[i].gone]++(uI (z0p (bl ahead) (bl b.rs[i].key):Nat)++z78 ahead b.rs[i].key))) (enc:=zk) hs (λz5 w' hs=>?_) (by simp only [List.length_append,List.length_cons,List.length_nil];omega)
   refine ze ?_
   refine zg ⟨z5,rfl,?_⟩
   exact hs.sub
  rintro _ w3 ⟨z5,rfl,hs⟩
  refine zb hs ?_
  refine zm (λq w'=>∃ z:Sl,q=(z,())/\Sat w' (slc T.a52 1 z ((Z++z6o b.time ahead b.rs[i]).flatMap zk)::pt a1 (.cells (cR b.rs[i]) T.a2)::pt a0 (.cells (cB b) T.a0)::l)) ?_ ?_
  ·refine zf (λh5=>?_) λh5=>?_
   ·have h5:b.rs[i].gone=false:=by simpa using h5
    refine zb hs ?_
    refine z8 (zrx b.rs[i].value (by omega) hs) λ_ w' hs=>?_
    obtain ⟨u,rfl,hs⟩:=hs
    refine zd ?_
    have hvl:=z22 ((b.rs[i].value.size:Nat):Int)
    have hvs:=z1e b.rs[i].value
    refine wp_app' (xs:=Z++(z5y (b.rs[i].time-b.time)++([z8k b.rs[i].gone]++(uI (z0p (bl ahead) (bl b.rs[i].key):Nat)++z78 ahead b.rs[i].key)))) (ys:=uI (b.rs[i].value.size:Nat)++bl b.rs[i].value) (enc:=zk) hs (λz7 w' hs=>?_) (by simp only [List.length_append,List.length_cons,List.length_nil];omega)
    refine zg ⟨z7,rfl,?_⟩
    rw [hrl,if_neg (by rw [h5];simp),<- List.append_assoc]
    exact hs.sub
   ·have h5:b.rs[i].gone=true:=by simpa using h5
    refine zg ⟨z5,rfl,?_⟩
    rw [hrl,if_pos h5,List.append_nil]
    exact hs.sub
  rintro _ w4 ⟨z7,rfl,hs⟩
  refine zb hs ?_
  refine wp_lt ?_
  have e5:IntKind.wrap .i64 ((i:Int)+1)=((i+1:Nat):Int):=by rw [w64 (by omega) (by omega)];omega
  rw [e5]
  refine z0z (b.rs.length-(i+1)) ?_
  refine ⟨i+1,z7,by rw [hlast],by omega,rfl,?_⟩
  rw [hsn,<- List.append_assoc,hZ]
  exact hs.sub
end
def zku (b:BatM) (k:Nat):BatM:=⟨b.base+k,b.pid,b.epoch,if b.pid>0 then b.seq+k else b.seq,b.kind,b.time,b.x,b.rs.drop k⟩
def z0t (off:Int) (b:BatM):Option BatM:=if zy b≠0\/off>=z1s b then none else if z0b b=true\/off<=b.base then some b else some (zku b (off-b.base).toNat)
def rsP (b:BatM):HP:=slc T.a2 4 b.x (b.rs.flatMap zu)
def z1n (bs:List BatM):HP:=HP.all (bs.map rsP)
section
variable {w:World} {l r:List HP}
theorem zra (b:BatM) [hb:FocR l b.x 4 (b.rs.flatMap zu)] (hlen:b.rs.length<=1000000) (hs:Sat w l):Ret P F.a92 #[.agg (z00 b).toArray] w λvs w'=>∃ z:Sl,vs=[.agg (z00 (b.at z)).toArray]/\Sat w' (slc T.a2 4 z (b.rs.flatMap zu)::l) :=
 zvo b.base b.pid b.epoch b.seq b.kind b.time b.x <| by
  delta z09o AH AI AO Ab Ac Ai Ak Ba Bb
  refine zr hs λa0 w' hs=>?_
  refine zt hs λa1 w' hs=>?_
  refine zb hs ?_
  have hs:Sat w' (slc T.a2 4 ⟨none,0,0⟩ (([]:List RecM).flatMap zu)::_):=hs.slc_nil
  refine wp_app' (x:=⟨none,0,0⟩) (xs:=([]:List RecM)) (ys:=b.rs) (enc:=zu) hs (λz w' hs=>?_) (by simp only [List.length_nil];omega)
  rw [List.nil_append] at hs
  refine z08 hs λw' hs=>?_
  refine zj hs ?_
  refine zv hs λw' hs=>?_
  refine zj hs ?_
  refine ⟨rfl,z,rfl,?_⟩
  exact hs.sub
theorem z051 (b:BatM) (k:Nat) (hk:k<=b.rs.length) (hcap:b.x.len<=b.x.cap) (hv:zy b=0) [hb:FocR l b.x 4 (b.rs.flatMap zu)] (hs:Sat w l):Ret P F.a104 #[.agg (z00 b).toArray,.int .i64 (k:Int),.int .i64 (b.x.len:Nat)] w λvs w'=>∃ z:Sl,vs=[.agg (z00 ((zku b k).at z)).toArray]/\Sat w' (slc T.a2 4 z ((b.rs.drop k).flatMap zu)::l) :=
 zo3 b.base b.pid b.epoch b.seq b.kind b.time b.x _ _ <| by
  delta z01m AH AI AO AP Aa Ab Ac Ai Aj Ak Al Aw Ba Bb
  have hl:=hs.slen b.x (xs:=b.rs) (enc:=zu)
  obtain ⟨h64,-⟩:=z2e hv
  obtain ⟨-,-,⟨-,hba,hpi,-,hsq,-⟩,-,-⟩:=z15 b hv
  refine zr hs λa0 w' hs=>?_
  refine zt hs λa1 w' hs=>?_
  refine zj hs ?_
  refine zt hs λa9 w' hs=>?_
  refine zv hs λw' hs=>?_
  refine zb hs ?_
  refine wp_must (by omega) ?_
  rw [Int.toNat_natCast,Int.toNat_natCast]
  have hf:FocR (pt a9 (.cells #[.int .i64 b.base,.int .i64 b.pid,.int .i64 b.epoch,.int .i64 b.seq,.int .i64 b.kind,.int .i64 b.time,.slice b.x.a b.x.len b.x.cap] T.a0)::pt a1 (.cells #[.int .i64 0,.int .i64 0,.int .i64 0,.int .i64 0,.int .i64 0,.int .i64 0,.slice none 0 0] T.a0)::pt a0 (.cells #[.int .i64 b.base,.int .i64 b.pid,.int .i64 b.epoch,.int .i64 b.seq,.int .i64 b.kind,.int .i64 b.time,.slice b.x.a b.x.len b.x.cap] T.a0)::l) ⟨z0w b.x.a 4 k b.x.cap,b.x.len-k,b.x.cap-k⟩ 4 ((b.rs.drop k).flatMap zu):=FocR.post hcap
  have hs:Sat w' (slc T.a2 4 ⟨none,0,0⟩ (([]:List RecM).flatMap zu)::_):=hs.slc_nil
  refine wp_app' (x:=⟨none,0,0⟩) (y:=⟨z0w b.x.a 4 k b.x.cap,b.x.len-k,b.x.cap-k⟩) (xs:=([]:List RecM)) (ys:=b.rs.drop k) (enc:=zu) hs (λz w' hs=>?_) (by simp only [List.length_nil,List.length_drop];omega)
  rw [List.nil_append] at hs
  refine z08 hs λw' hs=>?_
  refine zb hs ?_
  rw [w64 (by omega) (by omega)]
  refine z08 hs λw' hs=>?_
  refine zb hs ?_
  refine zm (λ_ w'=>Sat w' (pt a9 (.cells [.int .i64 (b.base+k),.int .i64 b.pid,.int .i64 b.epoch,.int .i64 (if b.pid>0 then b.seq+k else b.seq),.int .i64 b.kind,.int .i64 b.time,.slice z.a z.len z.cap].toArray T.a0)::slc T.a2 4 z ((b.rs.drop k).flatMap zu)::pt a1 (.cells #[.int .i64 0,.int .i64 0,.int .i64 0,.int .i64 0,.int .i64 0,.int .i64 0,.slice none 0 0] T.a0)::l)) ?_ ?_
  ·refine zf (λh=>?_) λh=>?_
   ·refine zb hs ?_
    rw [w64 (by omega) (by omega)]
    refine z08 hs λw' hs=>?_
    refine zg ?_
    rw [if_pos h]
    exact hs.sub
   ·refine zg ?_
    rw [if_neg h]
    exact hs.sub
  clear hs
  rintro _ w2 hs
  refine zj hs ?_
  refine zv hs λw' hs=>?_
  refine zj hs ?_
  refine ⟨rfl,z,rfl,?_⟩
  exact hs.sub
theorem z045 (b:BatM) (off:Int) (ho : -9223372036854775808<=off/\off<9223372036854775808) (hcap:b.x.len<=b.x.cap) [hb:FocR l b.x 4 (b.rs.flatMap zu)] (hs:Sat w l):Ret P F.a96 #[.agg (z00 b).toArray,.int .i64 off] w λvs w' =>
  (z0t off b=none/\vs=[.agg (z00 ztn).toArray,.bool false]/\Sat w' l)\/(∃ (c:BatM) (z:Sl),z0t off b=some c/\vs=[.agg (z00 (c.at z)).toArray,.bool true]/\Sat w' (slc T.a2 4 z (c.rs.flatMap zu)::l)) :=
 zvs b.base b.pid b.epoch b.seq b.kind b.time b.x off <| by
  delta z09s AA AI AP AS Aa Ab Ac Ai Aj Ak An Ao Au Av Aw Ax B0 Ba Bb Bl
  have hl:=hs.slen b.x (xs:=b.rs) (enc:=zu)
  refine zr hs λa0 w' hs=>?_
  refine zt hs λa1 w' hs=>?_
  refine zm (λq w'=>q=(decide (zy b≠0\/off>=z1s b),())/\Sat w' (pt a1 (.cells #[.int .i64 0,.int .i64 0,.int .i64 0,.int .i64 0,.int .i64 0,.int .i64 0,.slice none 0 0] T.a0)::pt a0 (.cells (cB b) T.a0)::l)) ?_ ?_
  ·refine zj hs ?_
   refine z8 (z9f b hs) λ_ w' hs=>?_
   obtain ⟨rfl,hs⟩:=hs
   refine zd ?_
   refine zj hs ?_
   refine zf (λh=>?_) λh=>?_
   ·exact zg ⟨by rw [decide_eq_true (.inl h)],hs⟩
   ·refine z8 (z9d b hs) λ_ w' hs=>?_
    obtain ⟨rfl,hs⟩:=hs
    refine zd ?_
    refine wp_lt ?_
    refine zg ⟨?_,hs⟩
    rw [decide_eq_decide.2 (show (zy b≠0\/off>=z1s b)↔off>=z1s b from ⟨λhh=>hh.resolve_left h,.inr⟩)]
  rintro _ w2 ⟨rfl,hs⟩
  refine zf (λh=>?_) λh=>?_
  ·have h:zy b≠0\/off>=z1s b:=by simpa using h
   refine zv hs λw' hs=>?_
   refine zj hs ?_
   refine ⟨rfl,.inl ⟨by unfold z0t;rw [if_pos h],rfl,hs.tail.tail⟩⟩
  have h:¬ (zy b≠0\/off>=z1s b):=by simpa using h
  have hv:zy b=0:=Decidable.byContradiction λhh=>h (.inl hh)
  have hno:off<z1s b:=by
   apply Decidable.byContradiction;intro hh;exact h (.inr (by omega))
  have hnx:z1s b=b.base+zp b:=by unfold z1s;rw [if_neg (by rw [hv];simp)]
  obtain ⟨h64,-⟩:=z2e hv
  obtain ⟨-,-,⟨-,hba,-⟩,-,-⟩:=z15 b hv
  refine zj hs ?_
  refine z8 (z6z b hs) λ_ w' hs=>?_
  obtain ⟨rfl,hs⟩:=hs
  refine zd ?_
  refine zb hs ?_
  refine wp_lt ?_
  refine zf (λh2=>?_) λh2=>?_
  ·refine zj hs ?_
   refine z8 (zra b (by omega) hs) λ_ w' hs=>?_
   obtain ⟨z,rfl,hs⟩:=hs
   refine ⟨(b.base,b.pid,b.epoch,b.seq,b.kind,b.time,z,()),rfl,trivial,ztl _ _ _ _ _ _ _ ?_⟩
   refine zv hs λw' hs=>?_
   refine zj hs ?_
   refine ⟨rfl,.inr ⟨b,z,by unfold z0t;rw [if_neg h,if_pos h2],rfl,hs.sub⟩⟩
  ·have hm:z0b b=false:=by
    cases hm:z0b b with
    | false=>rfl
    | true=>exact absurd (.inl hm) h2
   have hob:¬ off<=b.base:=λhh=>h2 (.inr hh)
   have hsp:zp b=b.rs.length:=by unfold zp;rw [hm];simp
   refine zj hs ?_
   refine zb hs ?_
   refine zb hs ?_
   rw [w64 (by omega) (by omega)]
   have eo:off-b.base=(((off-b.base).toNat:Nat):Int):=by omega
   rw [eo]
   refine z8 (z051 b (off-b.base).toNat (by omega) hcap hv hs) λ_ w' hs=>?_
   obtain ⟨z,rfl,hs⟩:=hs
   refine ⟨(b.base+(off-b.base).toNat,b.pid,b.epoch,(if b.pid>0 then b.seq+(off-b.base).toNat else b.seq),b.kind,b.time,z,()),rfl,trivial,ztl _ _ _ _ _ _ _ ?_⟩
   refine zv hs λw' hs=>?_
   refine zj hs ?_
   refine ⟨rfl,.inr ⟨zku b (off-b.base).toNat,z,by unfold z0t;rw [if_neg h,if_neg h2],rfl,(show Sat w' (slc T.a2 4 z ((b.rs.drop (off-b.base).toNat).flatMap zu)::l) from hs.sub)⟩⟩
end
def z5s (n:Nat):UInt8:=if n<10 then UInt8.ofNat (48+n) else UInt8.ofNat (87+n)
def z6g (c:UInt8):Option Nat:=if 48<=c.toNat/\c.toNat<=57 then some (c.toNat-48) else if 97<=c.toNat/\c.toNat<=102 then some (c.toNat-87) else none
theorem z06e {n:Nat} (h:n<16):z6g (z5s n)=some n:=by
 unfold z5s z6g
 split
 ·rw [UInt8.toNat_ofNat',if_pos (by omega)]
  congr 1;omega
 ·rw [UInt8.toNat_ofNat',if_neg (by omega),if_pos (by omega)]
  congr 1;omega
theorem z06d {c:UInt8} {n:Nat} (h:z6g c=some n):z5s n=c/\n<16:=by
 unfold z6g at h
 unfold z5s
 split at h
 ·simp only [Option.some.injEq] at h
  subst h
  rw [if_pos (by omega)]
  exact ⟨UInt8.toNat_inj.1 (by rw [UInt8.toNat_ofNat'];omega),by omega⟩
 ·split at h
  ·simp only [Option.some.injEq] at h
   subst h
   rw [if_neg (by omega)]
   exact ⟨UInt8.toNat_inj.1 (by rw [UInt8.toNat_ofNat'];omega),by omega⟩
  ·cases h
def z2w:Nat->Nat->List UInt8
 | 0,_=>[]
 | k+1,n=>z2w k (n / 16)++[z5s (n % 16)]
def z3w (x:Nat):List UInt8->Option Nat
 | []=>some x
 | c::r=>match z6g c with
  | none=>none
  | some d=>z3w (16*x+d) r
theorem z6h:∀ (k n:Nat),(z2w k n).length=k
 | 0,_=>rfl
 | k+1,n=>by unfold z2w;rw [List.length_append,z6h k];rfl
theorem zfy (x:Nat) (a b:List UInt8):z3w x (a++b)=(z3w x a).bind λy=>z3w y b:=by
 induction a generalizing x with
 | nil=>rfl
 | cons c r ih =>
  rw [List.cons_append]
  cases hd:z6g c with
  | none=>simp only [z3w,hd];rfl
  | some d=>simp only [z3w,hd];exact ih _
theorem zh3:∀ (k n x:Nat),z3w x (z2w k n)=some (x*16 ^ k+n % 16 ^ k)
 | 0,n,x=>by simp [z2w,z3w,Nat.mod_one]
 | k+1,n,x=>by
  unfold z2w
  rw [zfy,zh3 k]
  show z3w _ [z5s (n % 16)]=_
  unfold z3w
  rw [z06e (Nat.mod_lt _ (by omega))]
  show some _=some _
  congr 1
  have h1:n % 16 ^ (k+1)=16*(n / 16 % 16 ^ k)+n % 16:=by
   rw [Nat.pow_succ,Nat.mul_comm (16 ^ k) 16,Nat.mod_mul];omega
  have h2:x*16 ^ (k+1)=16*(x*16 ^ k):=by rw [Nat.pow_succ];ac_rfl
  omega
def zw:List UInt8:=[46,108,111,103]
def z8a:List UInt8:=[46,110,101,119]
def zo (pre:ByteArray) (base:Int) (x:List UInt8):ByteArray:=⟨(bl pre++(45::(z2w 11 base.toNat++x))).toArray⟩
def z1h (pre n:ByteArray) (x:List UInt8):Option Nat :=
 if (bl n).length=(bl pre).length+1+11+x.length/\(bl n).drop ((bl pre).length+1+11)=x then z3w 0 (((bl n).drop ((bl pre).length+1)).take 11) else none
def z16 (pre:ByteArray):ByteArray:=⟨(bl pre++[45]).toArray⟩
def zm8 (pre n:ByteArray) (x:List UInt8):Option Nat:=if (bl (z16 pre)).isPrefixOf (bl n) then z1h pre n x else none
theorem z69 (pre:ByteArray) (base:Int) (x:List UInt8):bl (zo pre base x)=bl pre++(45::(z2w 11 base.toNat++x)):=zgo _
theorem ze1 (pre:ByteArray):bl (z16 pre)=bl pre++[45]:=zgo _
theorem z4v (pre:ByteArray) (base:Int) (x:List UInt8):(bl (z16 pre)).isPrefixOf (bl (zo pre base x))=true:=by
 rw [z69,ze1,List.isPrefixOf_iff_prefix]
 exact ⟨z2w 11 base.toNat++x,by simp⟩
theorem zes (pre:ByteArray) {base:Int} (h:0<=base/\base<17592186044416) (x:List UInt8):z1h pre (zo pre base x) x=some base.toNat:=by
 have hl:=z6h 11 base.toNat
 have e1:(bl (zo pre base x)).drop ((bl pre).length+1)=z2w 11 base.toNat++x:=by
  rw [z69,<- List.drop_drop,List.drop_left]
  rfl
 have e2:(bl (zo pre base x)).drop ((bl pre).length+1+11)=x:=by
  rw [<- List.drop_drop,e1]
  exact List.drop_left' hl
 unfold z1h
 rw [e1,e2,if_pos ⟨by rw [z69];simp [hl];omega,rfl⟩,List.take_left' hl,zh3,Nat.zero_mul,Nat.zero_add,Nat.mod_eq_of_lt (by omega)]
theorem ziz {pre n:ByteArray} {x y:List UInt8} {v:Nat} (h:z1h pre n x=some v) (hxy:x≠y):z1h pre n y=none:=by
 unfold z1h at h ⊢
 split at h
 ·rename_i h1
  rw [if_neg]
  rintro ⟨h2,h3⟩
  exact hxy (h1.2.symm.trans h3)
 ·cases h
theorem zbz (pre:ByteArray) {base:Int} (h:0<=base/\base<17592186044416) (x:List UInt8):zm8 pre (zo pre base x) x=some base.toNat:=by
 unfold zm8
 rw [if_pos (z4v _ _ _),zes pre h]
theorem zzi {pre n:ByteArray} {x y:List UInt8} {v:Nat} (h:zm8 pre n x=some v) (hxy:x≠y):zm8 pre n y=none:=by
 unfold zm8 at h ⊢
 split at h
 ·rename_i hp;rw [if_pos hp];exact ziz h hxy
 ·cases h
theorem zx1 {pre:ByteArray} {a b:Int} {x y:List UInt8} (ha:0<=a/\a<17592186044416) (hb:0<=b/\b<17592186044416) (h:zo pre a x=zo pre b y):a=b/\x=y:=by
 have h1:=zbz pre ha x
 rw [h] at h1
 by_cases hxy:x=y
 ·subst hxy
  rw [zbz pre hb] at h1
  simp only [Option.some.injEq] at h1
  exact ⟨by omega,rfl⟩
 ·rw [zzi (zbz pre hb y) (λe=>hxy e.symm)] at h1
  cases h1
def z17 (pre:ByteArray):Bool:=decide (1<=pre.size/\pre.size<=8) && (bl pre).all λc=>(97<=c.toNat && c.toNat<=122) || (48<=c.toNat && c.toNat<=57)
theorem z048 {n:Nat} (h:n<16):okC (z5s n)=true:=by
 unfold z5s okC
 split <;> rw [UInt8.toNat_ofNat'] <;> simp <;> omega
theorem zqk:∀ (k n:Nat),(z2w k n).all okC=true
 | 0,_=>rfl
 | k+1,n=>by
  unfold z2w
  rw [List.all_append,zqk k]
  simp [z048 (Nat.mod_lt n (by omega:(16:Nat)>0))]
theorem znq {pre:ByteArray} (h:z17 pre=true) (base:Int) {x:List UInt8} (hx:x.length=4) (hxo:x.all okC=true):z3j (zo pre base x)=true:=by
 unfold z17 at h
 rw [Bool.and_eq_true,decide_eq_true_eq] at h
 have hall:(bl pre).all okC=true:=by
  rw [List.all_eq_true] at h ⊢
  intro c hc
  have:=h.2 c hc
  unfold okC
  rw [this]
  rfl
 have hsz:(zo pre base x).size=pre.size+16:=by
  rw [<- z1e,z69,<- z1e]
  simp [z6h,hx]
 unfold z3j
 rw [hsz,show (zo pre base x).data.toList=_ from z69 pre base x]
 simp [List.all_append,hall,zqk,hxo]
 exact ⟨by decide,by omega⟩
theorem zyr {p q n:ByteArray} (hp:z17 p=true) (hq:z17 q=true) (h1:(bl (z16 p)).isPrefixOf (bl n)=true) (h2:(bl (z16 q)).isPrefixOf (bl n)=true):p=q:=by
 have key:∀ (a b:List UInt8),(∀ c ∈ a,c≠45)->(∀ c ∈ b,c≠45)->∀ s t:List UInt8,a++45::s=b++45::t->a=b:=by
  intro a
  induction a with
  | nil =>
   intro b _ hb s t h
   cases b with
   | nil=>rfl
   | cons c cs=>simp at h;exact absurd h.1.symm (hb c (List.mem_cons_self ..))
  | cons c cs ih =>
   intro b ha hb s t h
   cases b with
   | nil=>simp at h;exact absurd h.1 (ha c (List.mem_cons_self ..))
   | cons d ds =>
    simp at h
    rw [h.1,ih ds (λx hx=>ha x (List.mem_cons_of_mem _ hx)) (λx hx=>hb x (List.mem_cons_of_mem _ hx)) s t h.2]
 have no:∀ {p:ByteArray},z17 p=true->∀ c ∈ bl p,c≠45:=λ{p} hp c hc e=>by
  unfold z17 at hp
  rw [Bool.and_eq_true,List.all_eq_true] at hp
  have:=hp.2 c hc
  subst e
  revert this
  decide
 rw [List.isPrefixOf_iff_prefix,ze1] at h1 h2
 obtain ⟨s,hs⟩:=h1
 obtain ⟨t,ht⟩:=h2
 refine zcv (key _ _ (no hp) (no hq) s t ?_)
 rw [<- ht] at hs
 simpa using hs
theorem zg5:∀ (a x y:List UInt8),Op.bytesLess (a++x) (a++y)=Op.bytesLess x y
 | [],x,y=>rfl
 | c::a,x,y=>by
  rw [List.cons_append,List.cons_append,Op.bytesLess,zg5 a]
  simp
theorem zde:∀ (a b x y:List UInt8),a.length=b.length->(Op.bytesLess (a++x) (b++y)=true↔Op.bytesLess a b=true\/(a=b/\Op.bytesLess x y=true))
 | [],[],x,y,_=>by simp [Op.bytesLess]
 | c::a,d::b,x,y,h=>by
  rw [List.cons_append,List.cons_append,Op.bytesLess,Op.bytesLess]
  have ih:=zde a b x y (by simpa using h)
  simp only [Bool.or_eq_true,decide_eq_true_eq,Bool.and_eq_true,beq_iff_eq,List.cons.injEq]
  rw [ih]
  constructor
  ·rintro (h|⟨h,h2|⟨h2,h3⟩⟩)
   ·exact .inl (.inl h)
   ·exact .inl (.inr ⟨h,h2⟩)
   ·exact .inr ⟨⟨h,h2⟩,h3⟩
  ·rintro ((h|⟨h,h2⟩)|⟨⟨h,h2⟩,h3⟩)
   ·exact .inl h
   ·exact .inr ⟨h,.inl h2⟩
   ·exact .inr ⟨h,.inr ⟨h2,h3⟩⟩
theorem z047 {a b:Nat} (ha:a<16) (hb:b<16):(z5s a<z5s b)↔a<b:=by
 rw [UInt8.lt_iff_toNat_lt]
 unfold z5s
 split <;> split <;> rw [UInt8.toNat_ofNat',UInt8.toNat_ofNat'] <;> omega
theorem zjl:∀ (k a b:Nat),a<16 ^ k->b<16 ^ k->(Op.bytesLess (z2w k a) (z2w k b)=true↔a<b)
 | 0,a,b,ha,hb=>by simp at ha hb;subst ha hb;simp [z2w,Op.bytesLess]
 | k+1,a,b,ha,hb=>by
  have h1:a / 16<16 ^ k:=by rw [Nat.pow_succ] at ha;omega
  have h2:b / 16<16 ^ k:=by rw [Nat.pow_succ] at hb;omega
  unfold z2w
  rw [zde _ _ _ _ (by rw [z6h,z6h]),zjl k _ _ h1 h2]
  have h3:Op.bytesLess [z5s (a % 16)] [z5s (b % 16)]=true↔a % 16<b % 16:=by
   simp only [Op.bytesLess,Bool.or_eq_true,decide_eq_true_eq,Bool.and_eq_true,Bool.false_eq_true,and_false,or_false]
   exact z047 (Nat.mod_lt _ (by omega)) (Nat.mod_lt _ (by omega))
  rw [h3]
  have h4:z2w k (a / 16)=z2w k (b / 16)->a / 16=b / 16:=λh=>by
   have e1:=zh3 k (a / 16) 0
   rw [h,zh3] at e1
   simp only [Option.some.injEq] at e1
   rw [Nat.mod_eq_of_lt h1,Nat.mod_eq_of_lt h2] at e1
   omega
  constructor
  ·rintro (h|⟨h,h5⟩)
   ·omega
   ·have:=h4 h;omega
  ·intro h
   by_cases h5:a / 16=b / 16
   ·right;exact ⟨by rw [h5],by omega⟩
   ·left;omega
theorem zwy (pre:ByteArray) {a b:Int} (ha:0<=a/\a<17592186044416) (hb:0<=b/\b<17592186044416) (x:List UInt8):ltS (zo pre a x) (zo pre b x)=true↔a<b:=by
 have e:∀ s:ByteArray,ByteArray.toList s=bl s:=λs=>by rw [ByteArray.toList_eq]
 unfold ltS
 rw [e,e,z69,z69,zg5]
 have e2:∀ y z:List UInt8,Op.bytesLess (45::y) (45::z)=Op.bytesLess y z:=zg5 [45]
 rw [e2,zde _ _ _ _ (by rw [z6h,z6h]),zjl 11 _ _ (by omega) (by omega),zaw]
 constructor
 ·rintro (h|⟨-,h⟩)
  ·omega
  ·cases h
 ·intro h;left;omega
end Go.Dec
namespace Go.Proofs.YtgpcickgjngglaaGreat
open Go.RowKit Go.Maps Go.Sort Go.Proofs
set_option maxRecDepth 100000 in
set_option maxHeartbeats 1000000 in
theorem zzb {H:Type} (F:Fence) (n:Nat) (h10:F.fn 324) (hro:F.round=none) (hn:1<=n) (l Bm b nn:Nat) (D0:DataW H) {R:Value->Option (DataW H × List MemPlace)} (J Jx:List (List UInt8)->World->Prop)
  (hY:∀ pre x W,J pre W->pre.length<Maps.size D0->YieldAt F (n-1) Tryz.prog l #[encStr x] W λe W'=>(e=.returned (.bool true)/\J (pre++[x]) W'/\KeepsWalks W W')\/(e=.returned (.bool false)/\Jx (pre++[x]) W'))
  (W:World) (hJ:AbidesFrom W.heap.size J) (hm:W.cell? ⟨Bm,0,none⟩=some (.map (some b))) (hown:W.ownsMap Tryz.prog 9 R b nn D0) (h0:J [] W) :
  CallsIn F n Tryz.prog 324 #[.func (.yield l) #[] #[],.pointer (some ⟨Bm,0,none⟩)] W λe W'=>(∃ v,e=.returned v)/\((∃ ss:List (List UInt8),ss.Perm (strKeys D0)/\J ss W')\/(∃ pre,True/\Jx pre W')):=by
 refine callsIn_of_wp Tryz.func324 rfl h10 ?_ hro
 simp only [Tryz.ntmps324,List.size_toArray,List.length_cons,List.length_nil,Nat.reduceAdd,Nat.reduceSub,Array.replicate_succ,Array.replicate_zero,List.push_toArray,List.append_toArray,List.nil_append,List.cons_append]
 gi_wp2_with (first
  | (gi_at_range;refine wpListIn_range_own _ rfl _ 139 rfl 9 277 (string_keyed Tryz.underlying9) Tryz.underlying139 _ b nn _ rfl hown ?_;intro w0 hrg0 hg0 hs0)
  | gi_in)
 go_frame
 gi_loopw [3] (λ_ wr=>∃ (left:Lit->Bool) (cnt:Nat) (ss:List (List UInt8)),wr.ranges Tryz.prog 9 R b W.heap.size nn D0 left cnt/\ss.length+cnt<=Maps.size D0/\Collected D0 left ss/\J ss wr)
  (λ_ wr=>wr.rangeLeft b W.heap.size)
 case atStart =>
  exact ⟨_,_,[],hrg0,by simp,Collected.start D0,hJ [] W w0 none h0 hg0 (λr e=>by cases e)⟩
 case round =>
  obtain ⟨left,cnt,ss,hrg,hcs,hC,hJs⟩:=hrel
  gi_wp2_with (first
   | (gi_at_next;refine wpListIn_next_ranges _ rfl _ rfl 9 (string_keyed Tryz.underlying9) R encStr id (λkey kl hk=>by obtain ⟨x,hx,_⟩:=Maps.keyOf_str Tryz.underlying9 hk;exact ⟨x,hx⟩) (λv _ _=>⟨v,rfl⟩) b W.heap.size nn _ _ _ rfl hrg ?_ ?_)
   | gi_in)
  ·intro hc0 hl0
   gi_wp2
   go_end0
   exact ⟨⟨_,rfl⟩,.inl ⟨ss,hC.perm hown (string_keyed Tryz.underlying9) Tryz.underlying9 hl0,hJs⟩⟩
  ·intro x c kl yd yp w2 cnt2 hkey hlk hv hat hrg2 hlt hg2 hs2 hen
   obtain ⟨x',ex,rfl,_⟩:=Maps.keyOf_str Tryz.underlying9 hkey
   obtain rfl:x=x':=encStr_inj ex
   have hJ2:J ss w2:=hJ ss wr w2 (some W.heap.size) hJs hg2 (λr e=>by cases e;exact ⟨Nat.le_refl _,hrg.iter_walk⟩)
   obtain ⟨fn,tmps,assign,body,hy,hR⟩:=hY ss x w2 hJ2 (by omega)
   clear hs2
   gi_wp2
   refine hR.mono ?_
   rintro e W3 (⟨rfl,hJ3,hk3⟩|⟨rfl,hJx3⟩)
   ·gi_wp2
    have hrg3:=hrg2.of_walks hk3
    go_roundw
    case rel=>exact ⟨_,cnt2,ss++[x],hrg3,by simp;omega,hC.step hlk hat,hJ3⟩
    case measure=>rw [hrg3.left_eq,hrg.left_eq];exact hlt
   ·gi_wp2
    refine bodyPost_ret (results_none rfl _ _ _) rfl ?_
    exact ⟨⟨_,rfl⟩,.inr ⟨ss++[x],trivial,hJx3⟩⟩
theorem z04e (mb:Option Nat) (w:World) :
  Calls Tryz.prog 292 #[.map mb] w λe w'=>e=.returned (.func (.func 324) #[] #[.pointer (some ⟨w.heap.size,0,none⟩)])/\w'=w.alloc (.cells #[.map mb] 139):=by
 refine Calls.mono (Dec.zf73_calls mb (w:=w) (R:=λvs w'=>vs=[.func (.func 324) #[] #[.pointer (some ⟨w.heap.size,0,none⟩)]]/\w'=w.alloc (.cells #[.map mb] 139)) ?_) λe w' ⟨vs,he,hv,hw⟩=>⟨by rw [he,hv];rfl,hw⟩
 unfold Dec.zf73
 refine ⟨(⟨w.heap.size,0,none⟩,()),w.alloc (.cells #[.map mb] 139),?_,trivial,?_⟩
 ·simp only [Instr.box,Sem.run_bind,Dec.run_newVar,Result.andThen_ok,Sem.run_pure];rfl
 ·exact ⟨rfl,rfl,rfl⟩
def preF (p s:ByteArray):Bool:=p.toList.isPrefixOf s.toList
theorem z06x (s p:ByteArray):(decide (((ByteArray.size s:Nat):Int)>=((ByteArray.size p:Nat):Int)) && ByteArray.toList (ByteArray.extract s 0 (Int.toNat (((ByteArray.size p:Nat):Int)))) == ByteArray.toList p)=preF p s:=by
 unfold preF
 rw [Int.toNat_natCast,ByteArray.toList_eq,ByteArray.toList_eq,ByteArray.toList_eq]
 have e1:(ByteArray.extract s 0 p.size).data.toList=s.data.toList.take p.size:=by simp [ByteArray.data_extract]
 have e2:p.size=p.data.toList.length:=by simp
 rw [e1,Bool.eq_iff_iff,Bool.and_eq_true,decide_eq_true_eq,beq_iff_eq,List.isPrefixOf_iff_prefix]
 constructor
 ·rintro ⟨-,h⟩
  rw [<- h];exact List.take_prefix _ _
 ·intro h
  have hl:=h.length_le
  refine ⟨?_,?_⟩
  ·have:s.size=s.data.toList.length:=by simp
   omega
  ·rw [e2];exact (List.prefix_iff_eq_take.1 h).symm
theorem z005 (s p:ByteArray) (w:World):Calls Tryz.prog 293 #[.string s,.string p] w λe w'=>e=.returned (.bool (preF p s))/\w'=w:=by
 refine Calls.mono (Dec.zf147_calls s p (w:=w) (R:=λvs w'=>vs=[.bool (preF p s)]/\w'=w) ?_) λe w' ⟨vs,he,hv,hw⟩=>⟨by rw [he,hv];rfl,hw⟩
 unfold Dec.zf147
 refine Dec.wp_callS (preF p s,()) (Dec.zf51_calls s p (R:=λvs w'=>vs=[.bool (preF p s)]/\w'=w) ?_) rfl λw' hw=>⟨trivial,?_⟩
 ·unfold Dec.zf51
  refine Dec.wp_must (λh=>?_) (Dec.wp_lt ⟨rfl,by rw [z06x],rfl⟩)
  have h:=of_decide_eq_true h
  omega
 ·exact Dec.wp_lt ⟨rfl,rfl,hw⟩
end Go.Proofs.YtgpcickgjngglaaGreat
namespace Go.Proofs.YtgpcickgjngglaaGreat
open Go.RowKit Go.Maps Go.Sort Go.Proofs Go.Shelf
attribute [local go_sem] Oper.semAt_some
def z5f (p:ByteArray) (ss:List (List UInt8)):List (List UInt8):=ss.filter λx=>preF p ⟨x.toArray⟩
theorem z04r (p:ByteArray) (pre:List (List UInt8)) {x:List UInt8} (h:preF p ⟨x.toArray⟩=true):z5f p (pre++[x])=z5f p pre++[x]:=by simp [z5f,h]
theorem z002 (p:ByteArray) (pre:List (List UInt8)) {x:List UInt8} (h:¬ preF p ⟨x.toArray⟩=true):z5f p (pre++[x])=z5f p pre:=by simp [z5f,h]
theorem z0a2:(Tryz.prog.info? 9).map (λi=>(i.zero,i.size,i.bytes))=some (some (.string ByteArray.empty),1,16):=by kernel_rfl
set_option maxRecDepth 100000 in
set_option maxHeartbeats 2000000 in
theorem zzl      {H : Type} (n : Nat) (hn : 3 ≤ n) (d b nn : Nat) (p : ByteArray) (w : World) (D0 : DataW H) {R : Value → Option (DataW H × List MemPlace)} (hown : w.ownsMap Tryz.prog 9 R b nn D0) (hd : d < w.heap.size)
    (hc : w.cell? ⟨d, 4, none⟩ = some (.map (some b))) (hmax : Maps.size D0 ≤ 1000) (fin : Value → World → Prop)
    (hsort : ∀ (D : Nat) (ss : List (List UInt8)) (v : Value) (W : World), w.heap.size + 2 ≤ D → ss.Perm (strKeys D0) → Boxed W (w.heap.size + 1) 108 v → W.ownsRow (w.heap.size + 1) 9 1 v (z5f  p ss).length ((z5f  p ss).map encStr) → Below w.heap.size w W →
      W.heap[D]? = some (.deferred (some [])) → CallsIn Fence.wide (n - 1) Tryz.prog 294 #[v] W fun e W' => e = .returned (.tuple #[]) ∧ W'.cell? ⟨w.heap.size + 1, 0, none⟩ = some v ∧ W'.heap[D]? = some (.deferred (some [])) ∧ fin v (W'.putObj D (.deferred none))) :
    CallsIn Fence.wide n Tryz.prog 241 #[.pointer (some ⟨d, 0, none⟩), .string p] w fun e W' => ∃ v, e = .returned v ∧ fin v W' := by
  have h1 : 1 ≤ n := by omega
  obtain ⟨i0, hi, hz0, hz1, hz2⟩ := info_parts z0a2 
  have hbl := hown.lt
  have hc2 : ((w.alloc (.cells #[.string p] 9)).alloc (.cells #[.slice none 0 0] 108)).cell? ⟨d, 4, none⟩ = some (.map (some b)) := by
    rw [World.cell?_alloc_past _ _ _ (by simp; omega), World.cell?_alloc_past _ _ _ hd]; exact hc
  refine callsIn_of_wp_marks Tryz.func241 rfl trivial ?_ rfl
  simp only [Tryz.ntmps241, List.size_toArray, List.length_cons, List.length_nil, Nat.reduceAdd, Nat.reduceSub, Array.replicate_succ, Array.replicate_zero, List.push_toArray, List.append_toArray, List.nil_append, List.cons_append]
  gi_wp2_with (refine ⟨trivial, ?_⟩; gi_at_call 292; refine (callsIn_wide.2 (z04e    _ _)).mono ?_; rintro e w' ⟨rfl, rfl⟩)
  have bP := Boxed.new w 9 (.string p)
  have bO := Boxed.new (w.alloc (.cells #[.string p] 9)) 108 (.slice none 0 0)
  have bM := Boxed.new ((w.alloc (.cells #[.string p] 9)).alloc (.cells #[.slice none 0 0] 108)) 139 (.map (some b))
  rw [World.size_alloc] at bO bM
  rw [World.size_alloc] at bM
  have hB0 : Below w.heap.size w (((w.alloc (.cells #[.string p] 9)).alloc (.cells #[.slice none 0 0] 108)).alloc (.cells #[.map (some b)] 139)) := (((Below.refl _ w).alloc (Nat.le_refl _) _).alloc (by simp) _).alloc (by simp; omega) _
  have hown0 : (((w.alloc (.cells #[.string p] 9)).alloc (.cells #[.slice none 0 0] 108)).alloc (.cells #[.map (some b)] 139)).ownsMap Tryz.prog 9 R b nn D0 := by
    obtain ⟨es, clock, hb, Ft, hs, hD⟩ := hown
    exact ⟨es, clock, (hB0.block b hbl).trans hb, Ft, hs, hD⟩
  have hseq : SeqStops Fence.wide (n - 1) Tryz.prog 324 #[.pointer (some ⟨w.heap.size + 1 + 1, 0, none⟩)] encStr (fun ss => ss.Perm (strKeys D0)) (fun _ => True) (Maps.size D0) (((w.alloc (.cells #[.string p] 9)).alloc (.cells #[.slice none 0 0] 108)).alloc (.cells #[.map (some b)] 139)) := fun l J Jx W hW hJ hJx hY h0 => by
    have hown' : W.ownsMap Tryz.prog 9 R b nn D0 := by
      obtain ⟨es, clock, hb, Ft, hs, hD⟩ := hown0
      exact ⟨es, clock, (hW.block b (by simp; omega)).trans hb, Ft, hs, hD⟩
    exact zzb      Fence.wide (n - 1) trivial rfl (by omega) l (w.heap.size + 1 + 1) b nn D0 J Jx hY W hJ ((hW.cell (p := ⟨w.heap.size + 1 + 1, 0, none⟩) (by simp)).trans bM.cell) hown' h0
  refine wpIn_rangeFunc_ownG rfl h1 (gf := 324) (lb := #[.pointer (some ⟨w.heap.size + 1 + 1, 0, none⟩)]) rfl trivial (enters_of Tryz.func324 (by kernel_rfl) rfl)
    (encs := fun x => #[encStr x]) (Kp := KeepsWalks) (S := fun ss => ss.Perm (strKeys D0)) (Sp := fun _ => True) (N := Maps.size D0) hseq walksK_t (fun W l o o' _ h _ hw => KeepsWalks.putObj _ h hw) (Below.refl _ _) (fun _ => rfl)
    (fun pre W => ((∃ v, Boxed W (w.heap.size + 1) 108 v ∧ W.ownsRow (w.heap.size + 1) 9 1 v (z5f  p pre).length ((z5f  p pre).map encStr) ∧ True) ∧ Boxed W w.heap.size 9 (.string p)) ∧ Below w.heap.size w W)
    (fun _ _ _ => False)
    (OwnFrom.and (OwnFrom.and (Own.from (holdsRow_own (w.heap.size + 1) (w.heap.size + 1) 108 9 1 (fun pre => (z5f  p pre).length) (fun pre => (z5f  p pre).map encStr) (fun _ _ => True)) _) (Own.from (boxed_own w.heap.size 9 (fun _ => .string p)) _)) (ownFrom_below (Nat.le_refl _) (by simp; omega)))
    (fun _ _ _ _ _ hs _ _ => hs)
    ⟨⟨⟨_, bO.alloc _, World.ownsRow_nil _ _ _ _, trivial⟩, (bP.alloc _).alloc _⟩, hB0⟩
    (fun x => { tmps := #[Value.pointer (some { block := d, off := 0 }), Value.string p, undef,
                Value.pointer (some { block := w.heap.size, off := 0 }), Value.slice none 0 0,
                Value.pointer (some { block := w.heap.size + 1, off := 0 }), encStr x,
                Value.pointer (some { block := d, off := 0 }), Value.bool false,
                Value.pointer (some { block := d, off := 0 }), Value.pointer (some { block := d, off := 0 }),
                Value.pointer (some { block := d, off := 4 }), Value.map (some b), .func (.func 324) #[] #[.pointer (some ⟨w.heap.size + 1 + 1, 0, none⟩)], encStr x, undef, undef, undef, undef, undef,
                undef, undef, undef, undef, undef], defers := [] }) ?assign ?body ?done ?stop
  case assign =>
    intro l x W K hK
    gi_wp2
    exact hK
  case body =>
    rintro l pre x W ⟨⟨⟨v, hv, hrow, -⟩, hbp⟩, hB⟩ hlt
    have hcv := hv.cell
    have hcp := hbp.cell
    have hpl : (z5f  p pre).length ≤ pre.length := List.length_filter_le _ _
    have hml : 1000 ≤ maxLen := by decide
    have hvl := hv.lt
    gi_wp2_with (first
      | (refine ⟨trivial, fun _ => by omega, ?_⟩; gi_at_call 293; refine (CallsIn.inRound l (callsIn_wide.2 (z005     ⟨x.toArray⟩ p W))).mono ?_; rintro e w' ⟨rfl, he⟩; have he := he.symm; subst he)
      | (gi_at_builtin; refine wpListIn_append_own _ rfl _ _ 108 rfl (w.heap.size + 1) 9 i0 (.string ByteArray.empty) 1 16 Tryz.underlying108 hi hz0 hz1 hz2 rfl (by decide) _ _ _ rfl (hrow.alloc _) ⟨W.heap.size, 0, none⟩ 1 1 [encStr x] rfl rfl (cell_one_new _ _ _) (by simp [Value.oneCell', encStr]) (by omega) (by omega) (by simp; omega) ?_; intro v' w1 hown' hgrow _; obtain ⟨g', cap', rfl⟩ := ownsRow_succ hown'; obtain ⟨hv1, hv2, hr2, hk2, hb2⟩ := hv.appended (by decide) hrow (by omega) (by omega) hown' hgrow; have hc1 := hv1.cell; have hf1 := hv1.frozen))
    · have hx : preF p ⟨x.toArray⟩ = true := by assumption
      exact ⟨hk2.from _, hk2.walks, ⟨⟨⟨_, hv2, by rw [z04r    p pre hx]; simpa using hr2, trivial⟩, (hb2.block w.heap.size (by omega)).trans hbp⟩, hB.trans (hb2.mono (by omega))⟩⟩
    · have hx : ¬ preF p ⟨x.toArray⟩ = true := by rename_i hx; rw [hx]; simp
      exact ⟨KeepsFrom.refl _ _, (KeepsOthers.refl _).walks, ⟨⟨⟨v, hv, by rw [z002     p pre hx]; exact hrow, trivial⟩, hbp⟩, hB⟩⟩
  case done =>
    rintro D ys W hD hS ⟨⟨⟨v, hv, hrow, -⟩, hbp⟩, hB⟩ hK
    have hcv := hv.cell
    have hvl := hv.lt
    have hD2 : w.heap.size + 2 ≤ D := by simp at hD; omega
    gi_wp2_with (refine ⟨trivial, ?_⟩; gi_at_call 294; refine (hsort D ys v W hD2 hS hv hrow hB hK).mono ?_; rintro e w' ⟨rfl, hc1, hK1, hfin⟩)
    refine ⟨by simp, .inl ⟨_, _, rfl, run_takeDeferred hK1, ?_⟩⟩
    exact ⟨_, results_tmp rfl _ _ _, v, rfl, hfin⟩
  case stop =>
    rintro D c pre W _ _ h _
    exact h.elim
end Go.Proofs.YtgpcickgjngglaaGreat
namespace Go.Dec
open Go.Shelf Go.Proofs
def z0al:Ren:=⟨fun|190=>294|125=>166|258=>326|128=>238|129=>239|302=>352|303=>353|304=>354|305=>355|306=>356|307=>357|308=>358|309=>359|310=>360|333=>370|329=>287|330=>288|334=>371|335=>372|336=>373|344=>384|n=>n,fun|31=>108|9=>9|3=>3|46=>237|0=>0|51=>342|53=>157|4=>4|183=>335|182=>334|131=>249|5=>5|218=>391|222=>394|228=>426|229=>427|n=>n,λn=>n⟩
theorem z019:Lays.n190 P z0al where
 mixed:=by kernel_rfl
 f125:=Tryz.func166.trans (congrArg some (by kernel_rfl))
 f128:=Tryz.func238.trans (congrArg some (by kernel_rfl))
 f129:=Tryz.func239.trans (congrArg some (by kernel_rfl))
 f190:=Tryz.func294.trans (congrArg some (by kernel_rfl))
 f258:=Tryz.func326.trans (congrArg some (by kernel_rfl))
 f302:=Tryz.func352.trans (congrArg some (by kernel_rfl))
 f303:=Tryz.func353.trans (congrArg some (by kernel_rfl))
 f304:=Tryz.func354.trans (congrArg some (by kernel_rfl))
 f305:=Tryz.func355.trans (congrArg some (by kernel_rfl))
 f306:=Tryz.func356.trans (congrArg some (by kernel_rfl))
 f307:=Tryz.func357.trans (congrArg some (by kernel_rfl))
 f308:=Tryz.func358.trans (congrArg some (by kernel_rfl))
 f309:=Tryz.func359.trans (congrArg some (by kernel_rfl))
 f310:=Tryz.func360.trans (congrArg some (by kernel_rfl))
 f329:=Tryz.func287.trans (congrArg some (by kernel_rfl))
 f330:=Tryz.func288.trans (congrArg some (by kernel_rfl))
 f333:=Tryz.func370.trans (congrArg some (by kernel_rfl))
 f334:=Tryz.func371.trans (congrArg some (by kernel_rfl))
 f335:=Tryz.func372.trans (congrArg some (by kernel_rfl))
 f336:=Tryz.func373.trans (congrArg some (by kernel_rfl))
 f344:=Tryz.func384.trans (congrArg some (by kernel_rfl))
 t0:=Tryz.underlying0
 a0:=Tryz.isAgg0
 z0:=Tryz.sizeOf0
 v0:=Tryz.zeroValue0
 t3:=Tryz.underlying3
 a3:=Tryz.isAgg3
 z3:=Tryz.sizeOf3
 v3:=Tryz.zeroValue3
 t4:=Tryz.underlying4
 a4:=Tryz.isAgg4
 z4:=Tryz.sizeOf4
 v4:=Tryz.zeroValue4
 t5:=Tryz.underlying5
 a5:=Tryz.isAgg5
 z5:=Tryz.sizeOf5
 v5:=Tryz.zeroValue5
 t9:=Tryz.underlying9
 a9:=Tryz.isAgg9
 z9:=Tryz.sizeOf9
 v9:=Tryz.zeroValue9
 t31:=Tryz.underlying108
 a31:=Tryz.isAgg108
 z31:=Tryz.sizeOf108
 v31:=Tryz.zeroValue108
 t46:=Tryz.underlying237
 a46:=Tryz.isAgg237
 z46:=Tryz.sizeOf237
 v46:=Tryz.zeroValue237
 t51:=Tryz.underlying342
 a51:=Tryz.isAgg342
 z51:=Tryz.sizeOf342
 v51:=Tryz.zeroValue342
 t53:=Tryz.underlying157
 a53:=Tryz.isAgg157
 z53:=Tryz.sizeOf157
 v53:=Tryz.zeroValue157
 t131:=Tryz.underlying249
 a131:=Tryz.isAgg249
 z131:=Tryz.sizeOf249
 v131:=Tryz.zeroValue249
 t182:=Tryz.underlying334
 a182:=Tryz.isAgg334
 z182:=Tryz.sizeOf334
 v182:=Tryz.zeroValue334
 t183:=Tryz.underlying335
 a183:=Tryz.isAgg335
 z183:=Tryz.sizeOf335
 v183:=Tryz.zeroValue335
 t218:=Tryz.underlying391
 a218:=Tryz.isAgg391
 z218:=Tryz.sizeOf391
 v218:=Tryz.zeroValue391
 t222:=Tryz.underlying394
 a222:=Tryz.isAgg394
 z222:=Tryz.sizeOf394
 v222:=Tryz.zeroValue394
 t228:=Tryz.underlying426
 a228:=Tryz.isAgg426
 z228:=Tryz.sizeOf426
 v228:=Tryz.zeroValue426
 t229:=Tryz.underlying427
 a229:=Tryz.isAgg427
 z229:=Tryz.sizeOf427
 v229:=Tryz.zeroValue427
theorem zqq:∀ x y:List UInt8,Op.bytesLess x y=true↔x<y
 | [],[]=>by simp [Op.bytesLess]
 | [],y::ys=>by simp [Op.bytesLess]
 | x::xs,[]=>by simp [Op.bytesLess]
 | x::xs,y::ys=>by
  rw [Op.bytesLess,List.cons_lt_cons_iff,<- zqq xs ys]
  simp
def toK (s:ByteArray):List UInt8:=s.data.toList
def ofK (x:List UInt8):ByteArray:=⟨x.toArray⟩
theorem z06q (s:ByteArray):ofK (toK s)=s:=by unfold ofK toK;simp
theorem zm7 (s:ByteArray):ByteArray.toList s=toK s:=ByteArray.toList_eq s
theorem z03v (s:ByteArray):encStr (toK s)=.string s:=by unfold encStr toK;simp
section
variable {w:World} {l:List HP}
theorem z00i {w':World} {os:Array Obj} (h:Sat w l) (he:w'.heap=w.heap++os) (h2:w'.os=w.os) (h3:w'.output=w.output):Sat w' l:=by
 refine z9v ⟨λb o hb=>?_,?_⟩ h
 ·have hb:w.heap[b]? = some o:=hb
  show w'.heap[b]? = some o
  rw [he,Array.getElem?_append_left (Array.getElem?_eq_some_iff.1 hb).1]
  exact hb
 ·show World.env' w=World.env' w'
  unfold World.env';rw [h2,h3]
theorem zkq (x:Sl) (xs:List ByteArray) (h63:xs.length<4611686018427387904) (hs:Sat w (slc T.a49 1 x (xs.flatMap z1k)::l)) :
  Ret P F.a140 #[x.v] w λvs w'=>vs=[]/\∃ ys:List ByteArray,ys.Perm xs/\ys.Pairwise (λa b=>Op.bytesLess (ByteArray.toList b) (ByteArray.toList a)=false)/\Sat w' (slc T.a49 1 x (ys.flatMap z1k)::l):=by
 have hl:x.len=xs.length:=hs.rd.len (enc:=z1k) (λ_=>rfl) (by decide)
 obtain ⟨xa,xl,xc⟩:=x
 simp only at hl
 subst hl
 by_cases h0:xs.length=0
 ·have e:xs=[]:=List.length_eq_zero_iff.1 h0
  subst e
  refine Calls.mono (Any.slices_Sort_string_none z019 xa xc w) λe w' h=>?_
  obtain ⟨he,hw⟩:=h
  subst hw
  exact ⟨[],he,rfl,[],.refl _,.nil,hs⟩
 have hnd:=hs
 obtain ⟨p1,p2,h1,h2,hd,hA,hl⟩:=hnd
 rcases hA with ⟨ha,hl0,hc0,-⟩|⟨b,off,arr,fr,ha,hb,hlen,hle,hsz,hcs,hf⟩
 ·exact absurd hl0 h0
 have ha:xa=some ⟨b,off,none⟩:=ha
 subst ha
 have hle:xs.length<=xc:=hle
 have hsz:off+xc*1<=arr.size:=hsz
 have hP:Sat w (pt b (.cells arr T.a49 fr)::l):=⟨p1,p2,h1,h2,hd,hb,hl⟩
 have z5t:=hP.get
 have hblt:b<w.heap.size:=(Array.getElem?_eq_some_iff.1 z5t).1
 have henc:∀ (zs:List ByteArray) (i:Nat),(zs.flatMap z1k)[i]? = (zs[i]?).map λs=>.string s:=λzs i=>by
  have:zs.flatMap z1k=zs.map λs=>Value.string s:=by
   induction zs with
   | nil=>rfl
   | cons z zs ih=>rw [List.flatMap_cons,List.map_cons,ih];rfl
  rw [this,List.getElem?_map]
 have hH:Go.Sort.Holds encStr w b off (xs.map toK).toArray:=λj hj=>by
  have hj:j<xs.length:=by simpa using hj
  have h3:=hcs j (by rw [hlen];show j<xs.length*1;omega)
  rw [henc,List.getElem?_eq_getElem hj] at h3
  have h4:((xs.map toK).toArray)[j]! = toK xs[j]:=by
   rw [getElem!_pos _ j (by simpa using hj)];simp
  refine ⟨?_,?_⟩
  ·rw [h4,z03v]
   unfold World.cell?
   rw [z5t]
   exact h3
  ·rw [zd6,z5t]
   have:=hf (off+j) (by omega) (by show off+j<off+xc*1;omega)
   simp only [zsi]
   rw [Bool.and_eq_false_iff]
   by_cases hq:fr.1<=off+j
   ·right;exact decide_eq_false λh=>this ⟨hq,h⟩
   ·left;exact decide_eq_false hq
 have hll:(xs.map toK).length=xs.length:=List.length_map ..
 have hc:=Any.slices_Sort_string z019 b off xc (xs.map toK) w hH hblt (by rw [hll];exact h63)
 rw [hll] at hc
 refine Calls.mono hc λe w' h=>?_
 obtain ⟨he,n,os,hw⟩:=h
 generalize hmq:(xs.map toK).mergeSort (λx y=>decide (x<=y))=ms at hw
 have hperm:ms.Perm (xs.map toK):=by rw [<- hmq];exact List.mergeSort_perm _ _
 have hpw:ms.Pairwise λx y=>decide (x<=y)=true:=by
  rw [<- hmq]
  refine List.pairwise_mergeSort (λa b c h1 h2=>?_) (λa b=>?_) _
  ·simp only [decide_eq_true_eq] at *;exact List.le_trans h1 h2
  ·simp only [Bool.or_eq_true,decide_eq_true_eq];exact List.le_total a b
 have hml:ms.length=xs.length:=by rw [hperm.length_eq,hll]
 have hofK:(xs.map toK).map ofK=xs:=by
  rw [List.map_map]
  conv=>rhs;rw [<- List.map_id xs]
  exact List.map_congr_left λs _=>z06q s
 refine ⟨[],he,rfl,ms.map ofK,?_,?_,?_⟩
 ·have:=hperm.map ofK
  rwa [hofK] at this
 ·rw [List.pairwise_map]
  refine hpw.imp λ{a c} h=>?_
  have h:a<=c:=of_decide_eq_true h
  rw [zm7,zm7]
  have e:∀ z,toK (ofK z)=z:=λz=>by unfold toK ofK;simp
  rw [e,e]
  cases hq:Op.bytesLess c a with
  | false=>rfl
  | true=>exact absurd h (List.not_le.2 ((zqq c a).1 hq))
 ·have hset:=hP.set (o':=.cells (Go.Sort.putCells encStr off ms.toArray arr) T.a49 fr)
  have hheap:w'.heap=(z39 w b (.cells (Go.Sort.putCells encStr off ms.toArray arr) T.a49 fr)).heap++os:=by
   rw [hw]
   show (w.heap.modify b (Go.Sort.onCells _))++os=w.heap.setIfInBounds b _++os
   congr 1
   apply Array.ext_getElem?
   intro i
   rw [Array.getElem?_modify,Array.getElem?_setIfInBounds]
   by_cases hib:b=i
   ·subst hib
    rw [if_pos rfl,if_pos rfl,z5t,if_pos hblt]
    rfl
   ·rw [if_neg hib,if_neg hib]
  have hs2:=z00i hset hheap (by rw [hw];rfl) (by rw [hw];rfl)
  refine hs2.imp λq hq=>.inr ⟨b,off,_,fr,rfl,hq,?_,hle,?_,λi hi=>?_,hf⟩
  ·show ((ms.map ofK).flatMap z1k).length=xs.length*1
   have:∀ zs:List ByteArray,(zs.flatMap z1k).length=zs.length:=λzs=>by
    induction zs with
    | nil=>rfl
    | cons z zs ih=>rw [List.flatMap_cons,List.length_append,ih];simp [z1k];omega
   rw [this,List.length_map,hml];omega
  ·show off+xc*1<=(Go.Sort.putCells encStr off ms.toArray arr).size
   unfold Go.Sort.putCells
   rw [Array.size_mapIdx];exact hsz
  ·have him:i<ms.length:=by
    have:∀ zs:List ByteArray,(zs.flatMap z1k).length=zs.length:=λzs=>by
     induction zs with
     | nil=>rfl
     | cons z zs ih=>rw [List.flatMap_cons,List.length_append,ih];simp [z1k];omega
    rw [this,List.length_map] at hi;exact hi
   rw [henc,List.getElem?_map,List.getElem?_eq_getElem him]
   unfold Go.Sort.putCells
   rw [Array.getElem?_mapIdx]
   have ha2:off+i<arr.size:=by omega
   rw [Array.getElem?_eq_getElem ha2]
   simp only [Option.map_some]
   rw [if_pos ⟨by omega,by rw [List.size_toArray];omega⟩]
   congr 1
   rw [Nat.add_sub_cancel_left,getElem!_pos _ i (by simpa using him)]
   simp [encStr,ofK]
end
open Go.Proofs Go.Proofs.YtgpcickgjngglaaGreat
def z13 (p:ByteArray) (fs:List FileA):List ByteArray:=(fs.map (·.name)).filter (preF p)
def ze9 (W:World) (X:Nat->Bool):PH:=⟨λb=>if X b then W.heap[b]? else none,World.env' W⟩
section
variable {w W:World} {l:List HP} {X:Nat->Bool}
theorem z00h (hs:Sat w l) (hB:RowKit.Below w.heap.size w W):z7e l (ze9 W λb=>decide (b<w.heap.size)):=by
 refine z9v ⟨λb o h=>?_,?_⟩ hs
 ·have h:w.heap[b]? = some o:=h
  have hlt:b<w.heap.size:=(Array.getElem?_eq_some_iff.1 h).1
  show (if decide (b<w.heap.size)=true then W.heap[b]? else none)=some o
  rw [if_pos (decide_eq_true hlt),hB.block b hlt,h]
 ·show World.env' w=World.env' W
  unfold World.env'
  rw [hB.os,hB.output]
theorem zgc {b:Nat} {o:Obj} (hs:z7e l (ze9 W X)) (hX:X b=false) (hb:W.heap[b]? = some o):z7e (pt b o::l) (ze9 W λc=>X c || decide (c=b)):=by
 refine ⟨⟨λc=>if c=b then some o else none,World.env' W⟩,ze9 W X,⟨λc u h=>?_,rfl⟩,⟨λc u h=>?_,rfl⟩,λc=>?_,by simp [pt],hs⟩
 ·simp only at h
  split at h
  ·rename_i hc;subst hc
   obtain rfl:=Option.some.inj h
   show (if (X c || decide (c=c))=true then W.heap[c]? else none)=some o
   rw [if_pos (by simp),hb]
  ·cases h
 ·have h:(if X c=true then W.heap[c]? else none)=some u:=h
  split at h
  ·rename_i hc
   show (if (X c || decide (c=b))=true then W.heap[c]? else none)=some u
   rw [if_pos (by rw [hc];rfl),h]
  ·cases h
 ·by_cases hc:c=b
  ·subst hc;right
   show (if X c=true then W.heap[c]? else none)=none
   rw [if_neg (by rw [hX];simp)]
  ·left;simp [hc]
theorem zk5 (hs:z7e l (ze9 W X)):Sat W l:=by
 refine z9v (p:=ze9 W X) ⟨λb o h=>?_,rfl⟩ hs
 have h:(if X b=true then W.heap[b]? else none)=some o:=h
 split at h
 ·exact h
 ·cases h
end
theorem zcn:∀ {a b:List ByteArray},a.Perm b->(a.Pairwise λx y=>ltS y x=false)->(b.Pairwise λx y=>ltS x y=true)->a=b
 | a,[],hp,_,_=>hp.eq_nil
 | [],y::b,hp,_,_=>absurd hp.symm.eq_nil (by simp)
 | x::a,y::b,hp,ha,hb=>by
  rw [List.pairwise_cons] at ha hb
  have hxy:x=y:=by
   by_cases h:x=y
   ·exact h
   ·have hx:x ∈ b:=(List.mem_cons.1 (hp.mem_iff.1 (List.mem_cons_self ..))).resolve_left h
    have hy:y ∈ a:=(List.mem_cons.1 (hp.mem_iff.2 (List.mem_cons_self ..))).resolve_left (λe=>h e.symm)
    have h1:=hb.1 x hx
    rw [ha.1 y hy] at h1;cases h1
  subst hxy
  rw [zcn (List.Perm.cons_inv hp) ha.2 hb.2]
def z4k (x:List UInt8):ByteArray:=⟨x.toArray⟩
theorem zwk (xs:List ByteArray):xs.flatMap z1k=xs.map Value.string:=by
 induction xs with
 | nil=>rfl
 | cons x r ih=>rw [List.flatMap_cons,ih];rfl
theorem zil {fs:List FileA} (h:fs.Pairwise λa b=>ltS a.name b.name=true) (p:ByteArray):(z13 p fs).Pairwise λx y=>ltS x y=true:=by
 unfold z13
 refine List.Pairwise.filter _ ?_
 rw [List.pairwise_map];exact h
theorem z04n {w:World} {m:Nat} {es:List (ByteArray × Nat)} {l:List HP} (hs:Sat w (z1f ekS evF m es::l)) (hlen:es.length<=1000) (hn:∀ x ∈ es,x.1.size<=24) :
  ∃ D0:DataW Unit,w.ownsMap Tryz.prog 9 (λ_=>some (.lit (.bool true),[])) m 1000 D0/\Maps.size D0<=1000/\((strKeys D0).map z4k).Perm (es.map Prod.fst):=by
 obtain ⟨E,c,hm,hs⟩:=hs.mapOpen
 have hsz:=hm.size
 obtain ⟨xs,h1,h2,h3,h4,h5⟩:=hm
 have hE:E.size<=1000:=by omega
 have hml:1000<=maxLen:=by decide
 have hkeys:∀ e ∈ E.toList,∃ x ∈ xs,e.key=.string x.1:=λe he=>by
  have:(e.key,e.val) ∈ E.toList.map (λe=>(e.key,e.val)):=List.mem_map.2 ⟨e,he,rfl⟩
  rw [h3] at this
  obtain ⟨x,hx,hxe⟩:=List.mem_map.1 this
  exact ⟨x,hx,(Prod.mk.inj hxe).1.symm⟩
 have hrd:∀ e ∈ E.toList,∀ s,e.key=.string s->WideElems.rd (H:=Unit) Tryz.prog 9 (λ_=>some (.lit (.bool true),[])) e=some (.string s.data.toList,.lit (.bool true)):=λe he s hk=>by
  obtain ⟨x,hx,hxe⟩:=hkeys e he
  rw [hk] at hxe
  obtain rfl:s=x.1:=by cases hxe;rfl
  have h24:=hn x (h1.mem_iff.1 hx)
  have:keyOf Tryz.prog 9 (.string x.1)=some (.string x.1.data.toList):=WideMaps.keyOf_string_mk (by kernel_rfl) (by omega)
  unfold WideElems.rd
  rw [hk,this];rfl
 refine ⟨.map ((E.toList.map (WideElems.rg Tryz.prog 9 λ_=>some (.lit (.bool true),[]))).foldr DataW.insert []),⟨E,c,hs.get,⟨by omega,⟨h5,?_,?_⟩,λe he=>?_⟩,hE,rfl⟩,?_,?_⟩
 ·rw [List.Nodup,List.pairwise_map]
  exact h4.imp λh=>Nat.ne_of_lt h
 ·have hk:E.toList.map (·.key)=xs.map λx=>Value.string x.1:=by
   have:=congrArg (List.map Prod.fst) h3
   rw [List.map_map,List.map_map] at this
   exact this
  rw [hk,List.Nodup,List.pairwise_map]
  rw [List.Nodup,List.pairwise_map] at h2
  exact h2.imp λh e=>h (Value.string.inj e)
 ·obtain ⟨x,hx,hxe⟩:=hkeys e he
  exact ⟨_,hrd e he x.1 hxe⟩
 ·show ((E.toList.map _).foldr DataW.insert []).length<=1000
  rw [length_sorted,List.length_map,Array.length_toList];exact hE
 ·have hp:=(WideShapes.sorted_perm (E.toList.map (WideElems.rg (H:=Unit) Tryz.prog 9 λ_=>some (.lit (.bool true),[])))).map (λp:Lit × DataW Unit=>z4k (Go.strOf p.1))
  have e1:(strKeys (DataW.map ((E.toList.map (WideElems.rg (H:=Unit) Tryz.prog 9 λ_=>some (.lit (.bool true),[]))).foldr DataW.insert []))).map z4k=((E.toList.map (WideElems.rg (H:=Unit) Tryz.prog 9 λ_=>some (.lit (.bool true),[]))).foldr DataW.insert []).map (λp:Lit × DataW Unit=>z4k (Go.strOf p.1)):=by
   simp only [strKeys,List.map_map];rfl
  rw [e1]
  refine hp.trans ?_
  rw [List.map_map]
  have e2:E.toList.map ((λp:Lit × DataW Unit=>z4k (Go.strOf p.1))∘WideElems.rg Tryz.prog 9 λ_=>some (.lit (.bool true),[]))=xs.map Prod.fst:=by
   have h6:E.toList.map (λe=>match e.key with | .string s=>s|_=>⟨#[]⟩)=xs.map Prod.fst:=by
    have:=congrArg (List.map λx:Value × Value=>match x.1 with | .string s=>s|_=>⟨#[]⟩) h3
    rw [List.map_map,List.map_map] at this
    exact this
   rw [<- h6]
   refine List.map_congr_left λe he=>?_
   obtain ⟨x,hx,hxe⟩:=hkeys e he
   show z4k (Go.strOf (WideElems.rg (H:=Unit) Tryz.prog 9 (λ_=>some (.lit (.bool true),[])) e).1)=_
   rw [WideElems.rg_of (hrd e he x.1 hxe),hxe]
   show z4k x.1.data.toList=x.1
   exact zw1 rfl
  rw [e2]
  exact h1.map _
section
variable {w:World} {l r:List HP} {d:Nat} {A:DiskA}
theorem zqx (p:ByteArray) [hf:Fo l dk d A r] (hs:Sat w l):Ret P F.a28 #[.pointer (some ⟨d,0,none⟩),.string p] w λvs w'=>∃ x:Sl,vs=[x.v]/\Sat w' (slc T.a49 1 x ((z13 p A.fs).flatMap z1k)::dk d A::r):=by
 have hs0:=hs.perm hf.perm
 obtain ⟨m,FS,hp,hok,hs1⟩:=z2b hs0
 have hkv:(FS.map λt=>(t.f.name,t.at_)).map Prod.fst=(FS.map FileM.f).map (·.name):=by rw [List.map_map,List.map_map];rfl
 have hlen:(FS.map λt=>(t.f.name,t.at_)).length<=1000:=by
  have:=hp.length_eq;have:=hok.many;simp at *;omega
 obtain ⟨D0,hown,hsz,hkeys⟩:=z04n (hs1.pick [1]) hlen λx hx=>by
  obtain ⟨t,ht,rfl⟩:=List.mem_map.1 hx
  exact hok.names _ (hp.mem_iff.1 (List.mem_map.2 ⟨t,ht,rfl⟩))
 rw [hkv] at hkeys
 have hkeys:=hkeys.trans (hp.map (·.name))
 have hb:=hs1.get
 have hd:d<w.heap.size:=(Array.getElem?_eq_some_iff.1 hb).1
 have hc:w.cell? ⟨d,4,none⟩=some (.map (some m)):=by rw [z33 hb];rfl
 have hfin:=callsIn_wide.1 (zzl (n:=3) (Nat.le_refl _) d m 1000 p w D0 hown hd hc hsz (λv W=>∃ x:Sl,v=x.v/\Sat W (slc T.a49 1 x ((z13 p A.fs).flatMap z1k)::dk d A::r)) ?_)
 ·exact Calls.mono hfin λe w' ⟨v,he,x,hv,hs⟩=>⟨[x.v],by rw [he,hv];rfl,x,rfl,hs⟩
 intro D ss v W hD hS hbox hrow hB hK
 have hsR:=z00h hs0 hB
 have hsR:=zgc hsR (b:=w.heap.size+1) (by simp) hbox
 have hDB:D≠w.heap.size+1:=by omega
 have hsR:=zgc hsR (b:=D) (by simp;omega) hK
 have hpS:((z5f p ss).map z4k).Perm (z13 p A.fs):=by
  have h1:=((hS.map z4k).trans hkeys).filter (preF p)
  rw [List.filter_map] at h1
  exact h1
 have hflat:((z5f p ss).map z4k).flatMap z1k=(z5f p ss).map encStr:=by
  rw [zwk,List.map_map];rfl
 have hlen2:((z5f p ss).map z4k).length<576460752303423488:=by
  rw [hpS.length_eq]
  have h1:(z13 p A.fs).length<=A.fs.length:=by unfold z13;exact Nat.le_trans (List.length_filter_le _ _) (by simp)
  have:=hok.many
  omega
 obtain ⟨x,rfl,hsx⟩:∃ x:Sl,v=x.v/\Sat W (slc T.a49 1 x (((z5f p ss).map z4k).flatMap z1k)::pt D (.deferred (some []))::pt (w.heap.size+1) (.cells #[v] 108)::dk d A::r):=by
  rw [hflat]
  obtain ⟨hxl,h|⟨g,cap,cur,rfl,hg,hgb,hcap,-,hcur,htk⟩⟩:=hrow
  ·obtain ⟨rfl,hn0⟩:=h
   have:z5f p ss=[]:=List.length_eq_zero_iff.1 hn0
   rw [this]
   exact ⟨⟨none,0,0⟩,rfl,(zk5 hsR).slc_nil⟩
  ·have hgB:g≠w.heap.size+1:=λe=>by
    subst e
    have hbox:W.heap[w.heap.size+1]? = some (.cells #[_] 108 (0,0)):=hbox
    rw [hbox] at hgb
    cases hgb
   have hgD:g≠D:=λe=>by subst e;rw [hK] at hgb;cases hgb
   have hsR:=zk5 (zgc hsR (b:=g) (by simp;omega) hgb)
   refine ⟨⟨some ⟨g,0,none⟩,(z5f p ss).length,cap⟩,rfl,hsR.imp λq hq=>.inr ⟨g,0,cur,(0,0),rfl,hq,by simp,hcap,by simp [hcur],λi hi=>?_,z2o _ _⟩⟩
   rw [<- htk,List.length_take] at hi
   rw [<- htk,Nat.zero_add,List.getElem?_take,if_pos (by omega)]
   simp
 refine callsIn_wide.2 (Calls.mono (zkq x _ (Nat.lt_trans hlen2 (by omega)) hsx) ?_)
 rintro e w' ⟨vs,rfl,rfl,ys,hys,hso,hs'⟩
 have hB1:=(hs'.pick [2]).get
 have hD1:=(hs'.pick [1]).get
 refine ⟨rfl,by rw [z33 hB1];rfl,hD1,x,rfl,?_⟩
 have hset:Sat (z39 w' D (.deferred none)) _:=(hs'.pick [1]).set (o':=.deferred none)
 rw [zcn (hys.trans hpS) hso (zil hok.sorted p)] at hset
 exact hset.sub
end
def zfq (x:Sl):List Value:=[x.v]
instance:Enc1 zfq .slc (λx=>x):=⟨λ_=>rfl⟩
instance:EncN zfq 1:=⟨λ_=>rfl,by decide,by simp [zfq,Value.oneCell']⟩
def za5 (l:List HP):List Sl->List (List UInt8)->Prop
 | [],[]=>True
 | x::xs,b::bs=>(∀ w,Sat w l->Rd w 1 x (b.flatMap zk))/\za5 l xs bs
 | _,_=>False
theorem za5.length {l:List HP}:∀ {xs:List Sl} {bs:List (List UInt8)},za5 l xs bs->xs.length=bs.length
 | [],[],_=>rfl
 | _::_,_::_,h=>by rw [List.length_cons,List.length_cons,h.2.length]
theorem za5.get {l:List HP}:∀ {xs:List Sl} {bs:List (List UInt8)} (h:za5 l xs bs) (i:Nat) (h1:i<xs.length) (h2:i<bs.length),∀ w,Sat w l->Rd w 1 xs[i] (bs[i].flatMap zk)
 | _::_,_::_,h,0,_,_=>h.1
 | _::_,_::_,h,i+1,h1,h2=>h.2.get i (by simpa using h1) (by simpa using h2)
theorem z3q {bs:List (List UInt8)} {i:Nat} (hi:i<bs.length):(bs.take (i+1)).flatten=(bs.take i).flatten++bs[i]:=by
 rw [List.take_add_one,List.getElem?_eq_getElem hi,List.flatten_append];simp
section
variable {w:World} {l r r0:List HP} {d:Nat} {A:DiskA}
theorem zhc (hok:okA A) {n:ByteArray} (hn:z3j n=true) {bs:List UInt8} (hb:bs.length<=A.free) (hm:¬ (z25 A.fs n=false/\A.fs.length>=128)) :
  okA { A with fs:=if z25 A.fs n then A.fs.map (z1x n λf=>{ f with b:=f.b++bs }) else z4h ⟨n,bs,0⟩ A.fs }:=by
 have hr:=hok.room
 have hu:=hok.used
 unfold DiskA.free at hb
 by_cases h:z25 A.fs n=true
 ·rw [if_pos h]
  obtain ⟨f,hf,rfl⟩:=z6e.1 h
  obtain ⟨s,u,hsu⟩:=List.append_of_mem hf
  have hpm:A.fs.Perm (f::(s++u)):=by rw [hsu];exact List.perm_middle
  have hnd:=(hpm.map (·.name)).nodup_iff.1 (z2x hok.sorted)
  rw [List.map_cons,List.nodup_cons] at hnd
  have hne:∀ g ∈ s++u,g.name≠f.name:=λg hg e=>hnd.1 (List.mem_map.2 ⟨g,hg,e⟩)
  have h1:=zce (g:=λf=>{ f with b:=f.b++bs }) hpm hne
  have h2:used A.fs=f.b.length+used (s++u):=by rw [z41 hpm,z1m]
  refine ⟨hok.room,?_,by show (A.fs.map _).length<=_;rw [List.length_map];exact hok.many,hok.left,z99 (z6p λ_=>rfl) hok.sorted,λg hg=>?_,λg hg=>?_⟩
  ·show used (A.fs.map _)<=_
   rw [h1]
   show (f.b++bs).length+_<=_
   rw [List.length_append];omega
  ·obtain ⟨g,hg',rfl⟩:=List.mem_map.1 hg
   have:=hok.kept g hg'
   unfold z1x
   split
   ·show g.kept<=(g.b++bs).length;rw [List.length_append];omega
   ·exact this
  ·obtain ⟨g,hg',rfl⟩:=List.mem_map.1 hg
   rw [z6p (by intro _;rfl)];exact hok.names g hg'
 ·have h:z25 A.fs n=false:=by simpa using h
  rw [if_neg (by rw [h];simp)]
  have hne:=z6f.1 h
  have hp:=z6i ⟨n,bs,0⟩ A.fs
  refine ⟨hok.room,?_,?_,hok.left,zfi _ hne hok.sorted,λg hg=>?_,λg hg=>?_⟩
  ·show used (z4h _ _)<=_
   rw [z41 hp,z1m];show bs.length+_<=_;omega
  ·show (z4h _ _).length<=_
   rw [hp.length_eq,List.length_cons]
   have:=hok.many
   have:A.fs.length≠128:=λe=>hm ⟨h,by omega⟩
   omega
  ·rcases zg8.1 hg with rfl|hg
   ·exact Nat.zero_le _
   ·exact hok.kept g hg
  ·rcases zg8.1 hg with rfl|hg
   ·exact zsy hn
   ·exact hok.names g hg
theorem zm0 (x:FileA) (g:FileA->FileA) (hg:(g x).name=x.name):∀ {fs:List FileA},(∀ f ∈ fs,f.name≠x.name)->(z4h x fs).map (z1x x.name g)=z4h (g x) fs
 | [],_=>by simp [z4h,z1x]
 | f::r,h=>by
  have hf:z1x x.name g f=f:=by rw [z1x,if_neg (h f (List.mem_cons_self ..))]
  have hr:r.map (z1x x.name g)=r:=by
   conv=>rhs;rw [<- List.map_id r]
   exact List.map_congr_left λy hy=>by rw [z1x,if_neg (h y (List.mem_cons_of_mem _ hy))];rfl
  rw [z4h,z4h,hg]
  split
  ·rw [List.map_cons,List.map_cons,hf,hr,z1x,if_pos rfl]
  ·rw [List.map_cons,hf,zm0 x g hg λy hy=>h y (List.mem_cons_of_mem _ hy)]
theorem zl9 (n:ByteArray) (ps:Sl) (xs:List Sl) (bs:List (List UInt8)) [hps:FocR r ps 1 (xs.flatMap zfq)] (hbs:za5 r xs bs) (hlen:bs.length<=1000) (hsum:∀ b ∈ bs,b.length<=100000000) [hf:Fo l dk d A r] (hs:Sat w l) :
  Ret P F.a24 #[.pointer (some ⟨d,0,none⟩),.string n,ps.v] w λvs w'=>vs=[.int .i64 (z09 A n bs.flatten).1]/\Sat w' (dk d (z09 A n bs.flatten).2::r) :=
 ztz _ n ps <| by
  delta z080 AA AH AI AO AP AY Aa Af Ah Ai Aj Ak Al Am An Ar Av Aw Ax Ay B4 B5 BG Bd Bh;unfold z09
  have hxl:=hbs.length
  have hok0:okA A:=by obtain ⟨m,FS,hp,hok,hs⟩:=z2b (hs.perm hf.perm);exact hok
  have hfr:A.free<=4194304:=by have:=hok0.room;unfold DiskA.free;omega
  refine zh9 hs (λhg w' hs=>?_) λhg w' hs=>?_
  ·rw [if_pos hg];exact ⟨rfl,hs⟩
  rw [if_neg (by rw [hg];simp)]
  have hpl:=hs.slen ps (xs:=xs) (enc:=zfq)
  refine z8 (z06n n hs) λ_ _ hs=>?_
  obtain ⟨rfl,hs⟩:=hs
  refine zd ?_
  refine zf (λh=>?_) λh=>?_
  ·have h:z3j n=false:=by simpa using h
   rw [if_pos h];exact ⟨rfl,rfl,hs⟩
  have hn:z3j n=true:=by simpa using h
  rw [if_neg (by rw [hn];simp)]
  refine zm (λv w'=>bs.flatten.length<=A.free/\v=(((bs.flatten.length:Nat):Int),())/\Sat w' (dk d A::r)) ?_ ?_
  ·refine z0c (λk v w=>∃ i:Nat,v=((((bs.take i).flatten.length:Nat):Int),(i:Int),())/\i<=xs.length/\xs.length-i=k/\(bs.take i).flatten.length<=A.free/\Sat w (dk d A::r)) xs.length ⟨0,rfl,by omega,rfl,by simp,hs⟩ ?_
   clear hs
   rintro k _ w ⟨i,rfl,hi,hk,hsm,hs⟩
   refine zl ?_
   refine zf (λhc=>?_) λhc=>?_
   ·have hil:i<xs.length:=by omega
    have hib:i<bs.length:=by omega
    refine z27 hs i hil ?_
    have hrl:xs[i].len=bs[i].length:=(hbs.get i hil hib _ hs.tail).len (enc:=zk) (λ_=>rfl) (by decide)
    have hbi:=hsum _ (List.getElem_mem hib)
    refine z8 (z069 hs) λ_ _ hs=>?_
    obtain ⟨rfl,hs⟩:=hs
    refine zd ?_
    have ew:IntKind.wrap .i64 ((A.free:Int)-((bs.take i).flatten.length:Nat))=(A.free:Int)-((bs.take i).flatten.length:Nat):=z00t
    rw [ew]
    refine zf (λh3=>?_) λh3=>?_
    ·refine zn (zn ?_)
     rw [if_pos]
     ·exact ⟨rfl,rfl,hs⟩
     ·left
      have h4:(bs.take (i+1)).flatten.length<=bs.flatten.length:=by
       have:=congrArg (λl:List (List UInt8)=>l.flatten.length) (List.take_append_drop (i+1) bs)
       simp only [List.flatten_append,List.length_append] at this
       omega
      rw [z3q hib,List.length_append] at h4
      omega
    ·refine z2a (y:=(((bs.take (i+1)).flatten.length:Nat):Int)) ?_ ?_
     ·refine z29 (us':=[.int .i64 (((bs.take (i+1)).flatten.length:Nat):Int),.int .i64 ((i+1:Nat):Int)]) (by (try simp (disch:=omega) only [w64]);first|rfl|(congr;omega)) ?_
      refine z0z (xs.length-(i+1)) ?_
      refine ⟨i+1,rfl,by omega,rfl,?_,hs⟩
      rw [z3q hib,List.length_append];omega
     ·rw [z3q hib,List.length_append,w64 (by omega) (by omega)];omega
   ·refine zn (zg ?_)
    rw [List.take_of_length_le (by omega)] at hsm ⊢
    exact ⟨hsm,rfl,hs⟩
  clear hs
  rintro _ w ⟨hfit,rfl,hs⟩
  refine zl ?_
  obtain ⟨m,FS,hp,hok,hs⟩:=z2b hs
  have hou:=hok.used
  have hor:=hok.room
  have hfit':=hfit
  unfold DiskA.free at hfit'
  (repeat (first|with_reducible (first|refine zl ?_|refine zi ?_|refine z0n ?_|refine zb hs ?_|refine zj hs ?_|refine ze ?_|refine z02 hs λ_ hs=>?_|refine zt hs λ_ _ hs=>?_|refine zr hs λ_ _ hs=>?_|refine z08 hs λ_ hs=>?_|refine zv hs λ_ hs=>?_)|(apply wp_must;(focus first|trivial|omega|assumption))|refine z1c ?_|refine wp_lt ?_))
  have hnot:∀ (g:Bool),z25 A.fs n=g->¬ (g=false/\A.fs.length>=128)->(if bs.flatten.length>A.free\/(z25 A.fs n=false/\A.fs.length>=128) then ((5:Int),A) else
    (0,z2k { A with fs:=if z25 A.fs n then A.fs.map (z1x n λf=>{ f with b:=f.b++bs.flatten }) else z4h ⟨n,bs.flatten,0⟩ A.fs })) =
    (0,z2k { A with fs:=if z25 A.fs n then A.fs.map (z1x n λf=>{ f with b:=f.b++bs.flatten }) else z4h ⟨n,bs.flatten,0⟩ A.fs }):=λg hg h=>by
   rw [if_neg]
   rintro (h1|⟨h1,h2⟩)
   ·omega
   ·exact h ⟨by rw [<- hg,h1],h2⟩
  refine zy0 hs (λb hb=>?_) λhb=>?_
  all_goals refine wp_lt ?_
  all_goals refine zm (λv w'=>∃ (t:FileM) (FS':List FileM) (fs1:List FileA),v=(some ⟨t.at_,0,none⟩,())/\t.f.name=n/\fs1.Perm (t.f::FS'.map FileM.f)/\(∀ g ∈ FS'.map FileM.f,g.name≠t.f.name)/\used fs1=used A.fs/\¬ (z25 A.fs n=false/\A.fs.length>=128) /\
    fs1.map (z1x n λf=>{ f with b:=f.b++bs.flatten })=(if z25 A.fs n then A.fs.map (z1x n λf=>{ f with b:=f.b++bs.flatten }) else z4h ⟨n,bs.flatten,0⟩ A.fs) /\
    Sat w' (pt t.at_ (.cells #[t.x.v,.int .i64 t.f.kept] T.a9)::slc T.a52 1 t.x (t.f.b.flatMap zk)::HP.all (FS'.map z3t)::pt d (.cells #[.int .i64 A.left,.bool A.gone,.int .i64 A.room,.int .i64 (used A.fs),.map (some m)] T.a8)::z1f ekS evF m ((t::FS').map λt=>(t.f.name,t.at_))::r)) ?_ ?_
  ·obtain ⟨t,ht,rfl,rfl,hA⟩:=z94 hp hb
   have hhas:z25 A.fs t.f.name=true:=z6e.2 ⟨_,hA,rfl⟩
   refine z03 ?_ (by simp)
   obtain ⟨FS',hpm,hs⟩:=z7i hs ht
   obtain ⟨h1,h2,-⟩:=apart hp hok hpm
   refine zg ?_
   refine ⟨t,FS',A.fs,rfl,rfl,h1,h2,rfl,by rw [hhas];simp,by rw [if_pos hhas],?_⟩
   have hs:=(hs.pick [4]).mapPerm (hpm.map λt=>(t.f.name,t.at_))
   exact hs.sub
  rotate_left
  ·have hno:=z7v hp hb
   have hhas:=z6f.2 hno
   refine z0u ?_ (by simp)
   (repeat (first|with_reducible (first|refine zl ?_|refine zi ?_|refine z0n ?_|refine zb hs ?_|refine zj hs ?_|refine ze ?_|refine z02 hs λ_ hs=>?_|refine zt hs λ_ _ hs=>?_|refine zr hs λ_ _ hs=>?_|refine z08 hs λ_ hs=>?_|refine zv hs λ_ hs=>?_)|(apply wp_must;(focus first|trivial|omega|assumption))|refine z1c ?_|refine wp_lt ?_))
   refine zej hs ?_
   have hml:(FS.map λt=>(t.f.name,t.at_)).length=A.fs.length:=by rw [List.length_map,<- hp.length_eq,List.length_map]
   rw [hml]
   refine zf (λh3=>?_) λh3=>?_
   ·refine zn ?_
    rw [if_pos (.inr ⟨hhas,by omega⟩)]
    exact ⟨rfl,rfl,z2f m hp hok hs⟩
   refine zr hs λa w' hs=>?_
   (repeat (first|with_reducible (first|refine zl ?_|refine zi ?_|refine z0n ?_|refine zb hs ?_|refine zj hs ?_|refine ze ?_|refine z02 hs λ_ hs=>?_|refine zt hs λ_ _ hs=>?_|refine zr hs λ_ _ hs=>?_|refine z08 hs λ_ hs=>?_|refine zv hs λ_ hs=>?_)|(apply wp_must;(focus first|trivial|omega|assumption))|refine z1c ?_|refine wp_lt ?_))
   refine zbk hs (FS.map λt=>(t.f.name,t.at_)) (.inr ⟨hb,rfl⟩) a λw' hs=>?_
   refine zg ?_
   refine ⟨⟨a,⟨none,0,0⟩,⟨n,[],0⟩⟩,FS,z4h ⟨n,[],0⟩ A.fs,rfl,rfl,(z6i _ _).trans (.cons _ hp.symm),λg hg=>hno g (hp.mem_iff.1 hg),?_,by omega,?_,?_⟩
   ·rw [z41 (z6i _ _),z1m];exact Nat.zero_add _
   ·rw [if_neg (by rw [hhas];simp)]
    exact zm0 ⟨n,[],0⟩ (λf=>{ f with b:=f.b++bs.flatten }) rfl hno
   ·exact (hs.slc_nil (T:=T.a52) (sz:=1)).pick [2,0,2,1,0]
  all_goals clear hs
  all_goals rintro _ w ⟨t,FS',fs1,rfl,htn,h1,h2,hus,hno,hfin,hs⟩
  all_goals refine zl ?_
  all_goals rw [hnot _ rfl hno,<- hfin]
  all_goals subst htn
  all_goals refine zm (λ_ w'=>∃ x1:Sl,Sat w' (pt t.at_ (.cells #[x1.v,.int .i64 t.f.kept] T.a9)::slc T.a52 1 x1 ((t.f.b++bs.flatten).flatMap zk)::HP.all (FS'.map z3t)::pt d (.cells #[.int .i64 A.left,.bool A.gone,.int .i64 A.room,.int .i64 (used A.fs),.map (some m)] T.a8)::z1f ekS evF m ((t::FS').map λt=>(t.f.name,t.at_))::r)) ?_ ?_
  ·refine z0c (λk v w=>∃ (i:Nat) (x1:Sl),v=((i:Int),())/\i<=xs.length/\xs.length-i=k/\Sat w (pt t.at_ (.cells #[x1.v,.int .i64 t.f.kept] T.a9)::slc T.a52 1 x1 ((t.f.b++(bs.take i).flatten).flatMap zk)::HP.all (FS'.map z3t)::pt d (.cells #[.int .i64 A.left,.bool A.gone,.int .i64 A.room,.int .i64 (used A.fs),.map (some m)] T.a8)::z1f ekS evF m ((t::FS').map λt=>(t.f.name,t.at_))::r)) xs.length ⟨0,t.x,rfl,by omega,rfl,by simpa using hs⟩ ?_
   clear hs
   rintro k _ w ⟨i,x1,rfl,hi,hk,hs⟩
   refine zl ?_
   refine zf (λhc=>?_) λhc=>?_
   ·have hil:i<xs.length:=by omega
    have hib:i<bs.length:=by omega
    refine z27 hs i hil ?_
    have hrd:FocR r xs[i] 1 (bs[i].flatMap zk):=⟨hbs.get i hil hib⟩
    have hbi:=hsum _ (List.getElem_mem hib)
    have hsm:(bs.take i).flatten.length<=bs.flatten.length:=by
     have:=congrArg (λl:List (List UInt8)=>l.flatten.length) (List.take_append_drop i bs)
     simp only [List.flatten_append,List.length_append] at this
     omega
    have htb:t.f.b.length<=used fs1:=z8f (h1.mem_iff.2 (List.mem_cons_self ..))
    (repeat (first|with_reducible (first|refine zl ?_|refine zi ?_|refine z0n ?_|refine zb hs ?_|refine zj hs ?_|refine ze ?_|refine z02 hs λ_ hs=>?_|refine zt hs λ_ _ hs=>?_|refine zr hs λ_ _ hs=>?_|refine z08 hs λ_ hs=>?_|refine zv hs λ_ hs=>?_)|(apply wp_must;(focus first|trivial|omega|assumption))|refine z1c ?_|refine wp_lt ?_))
    refine wp_app' hs (xs:=t.f.b++(bs.take i).flatten) (ys:=bs[i]) (enc:=zk) (λz w' hs=>?_) (by rw [List.length_append];omega)
    (repeat (first|with_reducible (first|refine zl ?_|refine zi ?_|refine z0n ?_|refine zb hs ?_|refine zj hs ?_|refine ze ?_|refine z02 hs λ_ hs=>?_|refine zt hs λ_ _ hs=>?_|refine zr hs λ_ _ hs=>?_|refine z08 hs λ_ hs=>?_|refine zv hs λ_ hs=>?_)|(apply wp_must;(focus first|trivial|omega|assumption))|refine z1c ?_|refine wp_lt ?_))
    refine z29 (us':=[.int .i64 ((i+1:Nat):Int)]) (by (try simp (disch:=omega) only [w64]);first|rfl|(congr;omega)) ?_
    refine z0z (xs.length-(i+1)) ?_
    refine ⟨i+1,z,rfl,by omega,rfl,?_⟩
    rw [z3q hib,<- List.append_assoc]
    exact hs.sub
   ·refine zn (zg ⟨x1,?_⟩)
    rwa [List.take_of_length_le (l:=bs) (by omega)] at hs
  rotate_left
  ·refine z0c (λk v w=>∃ (i:Nat) (x1:Sl),v=((i:Int),())/\i<=xs.length/\xs.length-i=k/\Sat w (pt t.at_ (.cells #[x1.v,.int .i64 t.f.kept] T.a9)::slc T.a52 1 x1 ((t.f.b++(bs.take i).flatten).flatMap zk)::HP.all (FS'.map z3t)::pt d (.cells #[.int .i64 A.left,.bool A.gone,.int .i64 A.room,.int .i64 (used A.fs),.map (some m)] T.a8)::z1f ekS evF m ((t::FS').map λt=>(t.f.name,t.at_))::r)) xs.length ⟨0,t.x,rfl,by omega,rfl,by simpa using hs⟩ ?_
   clear hs
   rintro k _ w ⟨i,x1,rfl,hi,hk,hs⟩
   refine zl ?_
   refine zf (λhc=>?_) λhc=>?_
   ·have hil:i<xs.length:=by omega
    have hib:i<bs.length:=by omega
    refine z27 hs i hil ?_
    have hrd:FocR r xs[i] 1 (bs[i].flatMap zk):=⟨hbs.get i hil hib⟩
    have hbi:=hsum _ (List.getElem_mem hib)
    have hsm:(bs.take i).flatten.length<=bs.flatten.length:=by
     have:=congrArg (λl:List (List UInt8)=>l.flatten.length) (List.take_append_drop i bs)
     simp only [List.flatten_append,List.length_append] at this
     omega
    have htb:t.f.b.length<=used fs1:=z8f (h1.mem_iff.2 (List.mem_cons_self ..))
    (repeat (first|with_reducible (first|refine zl ?_|refine zi ?_|refine z0n ?_|refine zb hs ?_|refine zj hs ?_|refine ze ?_|refine z02 hs λ_ hs=>?_|refine zt hs λ_ _ hs=>?_|refine zr hs λ_ _ hs=>?_|refine z08 hs λ_ hs=>?_|refine zv hs λ_ hs=>?_)|(apply wp_must;(focus first|trivial|omega|assumption))|refine z1c ?_|refine wp_lt ?_))
    refine wp_app' hs (xs:=t.f.b++(bs.take i).flatten) (ys:=bs[i]) (enc:=zk) (λz w' hs=>?_) (by rw [List.length_append];omega)
    (repeat (first|with_reducible (first|refine zl ?_|refine zi ?_|refine z0n ?_|refine zb hs ?_|refine zj hs ?_|refine ze ?_|refine z02 hs λ_ hs=>?_|refine zt hs λ_ _ hs=>?_|refine zr hs λ_ _ hs=>?_|refine z08 hs λ_ hs=>?_|refine zv hs λ_ hs=>?_)|(apply wp_must;(focus first|trivial|omega|assumption))|refine z1c ?_|refine wp_lt ?_))
    refine z29 (us':=[.int .i64 ((i+1:Nat):Int)]) (by (try simp (disch:=omega) only [w64]);first|rfl|(congr;omega)) ?_
    refine z0z (xs.length-(i+1)) ?_
    refine ⟨i+1,z,rfl,by omega,rfl,?_⟩
    rw [z3q hib,<- List.append_assoc]
    exact hs.sub
   ·refine zn (zg ⟨x1,?_⟩)
    rwa [List.take_of_length_le (l:=bs) (by omega)] at hs
  all_goals clear hs
  all_goals rintro _ w ⟨x1,hs⟩
  all_goals refine zl ?_
  all_goals have hu3:=zce (g:=λf=>{ f with b:=f.b++bs.flatten }) h1 h2
  all_goals have hu4:used fs1=t.f.b.length+used (FS'.map FileM.f):=by rw [z41 h1,z1m]
  all_goals have hu5:used (fs1.map (z1x t.f.name λf=>{ f with b:=f.b++bs.flatten }))=used A.fs+bs.flatten.length:=by (rw [hu3];show (t.f.b++bs.flatten).length+_=_;rw [List.length_append];omega)
  all_goals have ew:IntKind.wrap .i64 (((used A.fs:Nat):Int)+((bs.flatten.length:Nat):Int))=((used (fs1.map (z1x t.f.name λf=>{ f with b:=f.b++bs.flatten })):Nat):Int):=by rw [hu5,w64 (by omega) (by omega)];omega
  all_goals refine zi ?_
  all_goals refine zb hs ?_
  all_goals rw [ew]
  all_goals (repeat (first|with_reducible (first|refine zl ?_|refine zi ?_|refine z0n ?_|refine zb hs ?_|refine zj hs ?_|refine ze ?_|refine z02 hs λ_ hs=>?_|refine zt hs λ_ _ hs=>?_|refine zr hs λ_ _ hs=>?_|refine z08 hs λ_ hs=>?_|refine zv hs λ_ hs=>?_)|(apply wp_must;(focus first|trivial|omega|assumption))|refine z1c ?_|refine wp_lt ?_))
  all_goals have hs:=z6u (FS:=FS') ⟨t.at_,x1,{ t.f with b:=t.f.b++bs.flatten }⟩ hs
  all_goals have hp':(((⟨t.at_,x1,{ t.f with b:=t.f.b++bs.flatten }⟩:FileM)::FS').map FileM.f).Perm (fs1.map (z1x t.f.name λf=>{ f with b:=f.b++bs.flatten })):=(z74 (g:=λf=>{ f with b:=f.b++bs.flatten }) h1 h2).symm
  all_goals have hok':=zhc hok hn hfit hno
  all_goals rw [<- hfin] at hok'
  all_goals have hs:Sat _ (z1f ekS evF m (((⟨t.at_,x1,{ t.f with b:=t.f.b++bs.flatten }⟩:FileM)::FS').map λt=>(t.f.name,t.at_))::_):=hs.pick [2]
  all_goals rw [hg] at hs
  all_goals refine z8 (zcb (l':=r) hg hok' hp' hs) λ_ _ hs=>?_
  all_goals obtain ⟨rfl,hs⟩:=hs
  all_goals refine zd ?_
  all_goals exact ⟨rfl,rfl,hs⟩
end
theorem zcd {fs:List FileA} {g:FileA->FileA} (hb:∀ f,(g f).b=f.b):used (fs.map g)=used fs:=by
 unfold used
 rw [List.map_map]
 congr 1
 exact List.map_congr_left λf _=>by show (g f).b.length=_;rw [hb]
theorem zr0 {A:DiskA} (hok:okA A) {g:FileA->FileA} (hn:∀ f,(g f).name=f.name) (hb:∀ f,(g f).b=f.b) (hk:∀ f,f.kept<=f.b.length->(g f).kept<=f.b.length):okA { A with fs:=A.fs.map g }:=by
 refine ⟨hok.room,by show used (A.fs.map g)<=_;rw [zcd hb];exact hok.used,by show (A.fs.map g).length<=_;rw [List.length_map];exact hok.many,hok.left,z99 hn hok.sorted,λf hf=>?_,λf hf=>?_⟩
 ·obtain ⟨f,hf',rfl⟩:=List.mem_map.1 hf
  rw [hb];exact hk f (hok.kept f hf')
 ·obtain ⟨f,hf',rfl⟩:=List.mem_map.1 hf
  rw [hn];exact hok.names f hf'
def z8w (f:FileA):FileA:={ f with kept:=f.b.length }
def z2z (ns:List ByteArray) (f:FileA):FileA:=if ns.any (λm=>decide (m=f.name)) then z8w f else f
theorem zc1 (ns:List ByteArray) (f:FileA):(z2z ns f).name=f.name:=by unfold z2z;split <;> rfl
theorem zie (ns:List ByteArray) (f:FileA):(z2z ns f).b=f.b:=by unfold z2z;split <;> rfl
theorem zsu (ns:List ByteArray) (f:FileA) (h:f.kept<=f.b.length):(z2z ns f).kept<=f.b.length:=by
 unfold z2z;split
 ·exact Nat.le_refl _
 ·exact h
theorem zwz:z2z []=id:=by funext f;simp [z2z]
theorem zsv (ns:List ByteArray) (n:ByteArray) (f:FileA):z1x n z8w (z2z ns f)=z2z (ns++[n]) f:=by
 unfold z1x
 rw [zc1]
 unfold z2z
 rw [List.any_append]
 by_cases h1:f.name=n
 ·rw [if_pos h1]
  have:(ns.any (λm=>decide (m=f.name)) || [n].any (λm=>decide (m=f.name)))=true:=by simp [h1]
  rw [if_pos this]
  split <;> rfl
 ·rw [if_neg h1]
  have:(ns.any (λm=>decide (m=f.name)) || [n].any (λm=>decide (m=f.name)))=ns.any (λm=>decide (m=f.name)):=by simp [Ne.symm h1]
  rw [this]
theorem z003 (s:ByteArray):Go.Proofs.YtgpcickgjngglaaGreat.preF (ByteArray.mk #[]) s=true:=by
 unfold Go.Proofs.YtgpcickgjngglaaGreat.preF
 rw [show (ByteArray.mk #[]).toList=[] from by rw [ByteArray.toList_eq]]
 rfl
theorem zc3 (fs:List FileA):z13 (ByteArray.mk #[]) fs=fs.map (·.name):=List.filter_eq_self.2 λs _=>z003 s
theorem zzk (fs:List FileA):fs.map (z2z (fs.map (·.name)))=fs.map (z4d []):=by
 refine List.map_congr_left λf hf=>?_
 unfold z2z z4d
 rw [if_pos (show ((fs.map (·.name)).any λm=>decide (m=f.name))=true by simp;exact ⟨f,hf,rfl⟩),if_pos (show zbm [] f.name=true from rfl)]
 rfl
theorem zx0 {ns:List ByteArray} (h:ns≠[]) (fs:List FileA):fs.map (z2z ns)=fs.map (z4d ns):=by
 refine List.map_congr_left λf hf=>?_
 have e:zbm ns f.name=ns.any (λm=>decide (m=f.name)):=by
  unfold zbm
  cases ns with
  | nil=>exact absurd rfl h
  | cons _ _=>rfl
 unfold z2z z4d
 rw [e];rfl
theorem zz2 {fs:List FileA} {g:FileA->FileA} (hn:∀ f,(g f).name=f.name) (n:ByteArray):z25 (fs.map g) n=z25 fs n:=by
 unfold z25
 rw [List.any_map]
 congr 1
 funext f
 show decide ((g f).name=n)=_
 rw [hn]
section
variable {w:World} {l r r0:List HP} {d:Nat} {A:DiskA}
theorem z078 (nx:Sl) (ns:List ByteArray) [hns:FocR r nx 1 (ns.flatMap z1k)] (hlen:ns.length<=100000) [hf:Fo l dk d A r] (hs:Sat w l) :
  Ret P F.a32 #[.pointer (some ⟨d,0,none⟩),nx.v] w λvs w'=>vs=[.int .i64 (z1z A ns).1]/\Sat w' (dk d (z1z A ns).2::r) :=
 zu6 _ nx <| by
  delta z087 AA AD AH AI AJ AT AU AY Aa Af Ah Aj Ak Al Am An Aw B4 BF BG Bh;unfold z1z
  refine zh9 hs (λhg w' hs=>?_) λhg w' hs=>?_
  ·rw [if_pos hg];exact ⟨rfl,hs⟩
  rw [if_neg (by rw [hg];simp)]
  have hpl:=hs.slen nx (xs:=ns) (enc:=z1k)
  have hok0:okA A:=by obtain ⟨m,FS,hp,hok,hs⟩:=z2b hs;exact hok
  refine zm (λv w'=>ns.all (z25 A.fs)=true/\Sat w' (dk d A::r)) ?_ ?_
  ·refine z0c (λk v w=>∃ i:Nat,v=((i:Int),())/\i<=ns.length/\ns.length-i=k/\(ns.take i).all (z25 A.fs)=true/\Sat w (dk d A::r)) ns.length ⟨0,rfl,by omega,rfl,rfl,hs⟩ ?_
   clear hs
   rintro k _ w ⟨i,rfl,hi,hk,hall,hs⟩
   refine zl ?_
   refine zf (λhc=>?_) λhc=>?_
   ·have hil:i<ns.length:=by omega
    refine z27 hs i hil ?_
    have htk:(ns.take (i+1)).all (z25 A.fs)=z25 A.fs ns[i]:=by
     rw [List.take_add_one,List.getElem?_eq_getElem hil,List.all_append,hall];simp
    obtain ⟨m,FS,hp,hok,hs⟩:=z2b hs
    (repeat (first|with_reducible (first|refine zl ?_|refine zi ?_|refine z0n ?_|refine zb hs ?_|refine zj hs ?_|refine ze ?_|refine z02 hs λ_ hs=>?_|refine zt hs λ_ _ hs=>?_|refine zr hs λ_ _ hs=>?_|refine z08 hs λ_ hs=>?_|refine zv hs λ_ hs=>?_)|(apply wp_must;(focus first|trivial|omega|assumption))|refine z1c ?_|refine wp_lt ?_))
    refine z7q hs (λb hb=>?_) λhb=>?_
    ·obtain ⟨t,ht,rfl,hnm,hA⟩:=z94 hp hb
     refine z03 ?_ (by simp)
     refine z29 (us':=[.int .i64 ((i+1:Nat):Int)]) (by (try simp (disch:=omega) only [w64]);first|rfl|(congr;omega)) ?_
     refine z0z (ns.length-(i+1)) ?_
     exact ⟨i+1,rfl,by omega,rfl,by rw [htk];exact z6e.2 ⟨_,hA,hnm⟩,z2f m hp hok hs⟩
    ·refine z0u ?_ (by rfl)
     refine zn (zn ?_)
     have:ns.all (z25 A.fs)=false:=by
      rw [<- List.take_append_drop (i+1) ns,List.all_append,htk,z6f.2 (z7v hp hb)];rfl
     rw [if_pos this]
     exact ⟨rfl,rfl,z2f m hp hok hs⟩
   ·refine zn (zg ⟨?_,hs⟩)
    rwa [List.take_of_length_le (by omega)] at hall
  clear hs
  rintro _ w ⟨hall,hs⟩
  refine zl ?_
  rw [if_neg (by rw [hall];simp)]
  refine zm (λv w'=>∃ (nx1:Sl) (ns1:List ByteArray) (r1:List HP),v=(nx1,())/\ns1.length<=100000/\ns1.all (z25 A.fs)=true/\A.fs.map (z2z ns1)=A.fs.map (z4d ns)/\(∃ h:FocR (slc T.a49 1 nx1 (ns1.flatMap z1k)::r) nx1 1 (ns1.flatMap z1k),True) /\
    (Sat w' (dk d A::r1))/\(r1=r/\(∃ _h:FocR r nx1 1 (ns1.flatMap z1k),True)\/r1=slc T.a49 1 nx1 (ns1.flatMap z1k)::r)) ?_ ?_
  ·refine zf (λh=>?_) λh=>?_
   ·have hnil:ns=[]:=List.length_eq_zero_iff.1 (by omega)
    subst hnil
    refine z8 (zqx (ByteArray.mk #[]) hs) λ_ _ hs=>?_
    obtain ⟨x,rfl,hs⟩:=hs
    refine zd ?_
    refine zg ?_
    refine ⟨x,z13 (ByteArray.mk #[]) A.fs,_,rfl,?_,?_,?_,⟨inferInstance,trivial⟩,(hs.pick [1]),.inr rfl⟩
    ·rw [zc3,List.length_map];have:=hok0.many;omega
    ·rw [zc3,List.all_map,List.all_eq_true]
     exact λf hf=>z6e.2 ⟨f,hf,rfl⟩
    ·rw [zc3];exact zzk A.fs
   ·refine zg ?_
    refine ⟨nx,ns,r,rfl,hlen,hall,zx0 (λe=>by subst e;simp at hpl;omega) A.fs,⟨inferInstance,trivial⟩,hs,.inl ⟨rfl,hns,trivial⟩⟩
  clear hs
  rintro _ w ⟨nx1,ns1,r1,rfl,hlen1,hall1,hmark,-,hs,hr1⟩
  refine zl ?_
  have hR1:FocR r1 nx1 1 (ns1.flatMap z1k):=by
   rcases hr1 with ⟨rfl,h,-⟩|rfl
   ·exact h
   ·infer_instance
  have hsub:∀ {H:HP} {w:World},Sat w (H::r1)->Sat w (H::r):=λ{H w} h=>by
   rcases hr1 with ⟨rfl,-⟩|rfl
   ·exact h
   ·exact h.sub
  have hpl1:=hs.slen nx1 (xs:=ns1) (enc:=z1k)
  refine zm (λv w'=>Sat w' (dk d { A with fs:=A.fs.map (z2z ns1) }::r1)) ?_ ?_
  ·refine z0c (λk v w=>∃ i:Nat,v=((i:Int),())/\i<=ns1.length/\ns1.length-i=k/\Sat w (dk d { A with fs:=A.fs.map (z2z (ns1.take i)) }::r1)) ns1.length ⟨0,rfl,by omega,rfl,by rw [List.take_zero,zwz,List.map_id];exact hs⟩ ?_
   clear hs
   rintro k _ w ⟨i,rfl,hi,hk,hs⟩
   refine zl ?_
   refine zf (λhc=>?_) λhc=>?_
   ·have hil:i<ns1.length:=by omega
    refine z27 hs i hil ?_
    obtain ⟨m,FS,hp,hok,hs⟩:=z2b hs
    (repeat (first|with_reducible (first|refine zl ?_|refine zi ?_|refine z0n ?_|refine zb hs ?_|refine zj hs ?_|refine ze ?_|refine z02 hs λ_ hs=>?_|refine zt hs λ_ _ hs=>?_|refine zr hs λ_ _ hs=>?_|refine z08 hs λ_ hs=>?_|refine zv hs λ_ hs=>?_)|(apply wp_must;(focus first|trivial|omega|assumption))|refine z1c ?_|refine wp_lt ?_))
    refine z7q hs (λb hb=>?_) λhb=>?_
    ·obtain ⟨t,ht,rfl,hnm,hA⟩:=z94 hp hb
     obtain ⟨FS',hpm,hs⟩:=z7i hs ht
     obtain ⟨h1,h2,-⟩:=apart hp hok hpm
     (repeat (first|with_reducible (first|refine zl ?_|refine zi ?_|refine z0n ?_|refine zb hs ?_|refine zj hs ?_|refine ze ?_|refine z02 hs λ_ hs=>?_|refine zt hs λ_ _ hs=>?_|refine zr hs λ_ _ hs=>?_|refine z08 hs λ_ hs=>?_|refine zv hs λ_ hs=>?_)|(apply wp_must;(focus first|trivial|omega|assumption))|refine z1c ?_|refine wp_lt ?_))
     rw [hs.slen t.x (xs:=t.f.b) (enc:=zk)] at hs
     have hs:=z6u (FS:=FS') ⟨t.at_,t.x,z8w t.f⟩ hs
     have hs:Sat _ (z1f ekS evF m (((⟨t.at_,t.x,z8w t.f⟩:FileM)::FS').map λt=>(t.f.name,t.at_))::_):=(hs.pick [2]).mapPerm (hpm.map λt=>(t.f.name,t.at_))
     have hstep:(A.fs.map (z2z (ns1.take i))).map (z1x t.f.name z8w)=A.fs.map (z2z (ns1.take (i+1))):=by
      rw [List.map_map,List.take_add_one,List.getElem?_eq_getElem hil]
      refine List.map_congr_left λf _=>?_
      show z1x t.f.name z8w (z2z _ f)=_
      rw [zsv,hnm];rfl
     have hp':(((⟨t.at_,t.x,z8w t.f⟩:FileM)::FS').map FileM.f).Perm (A.fs.map (z2z (ns1.take (i+1)))):=by
      rw [<- hstep]
      exact (z74 (g:=z8w) h1 h2).symm
     refine z29 (us':=[.int .i64 ((i+1:Nat):Int)]) (by (try simp (disch:=omega) only [w64]);first|rfl|(congr;omega)) ?_
     refine z0z (ns1.length-(i+1)) ?_
     refine ⟨i+1,rfl,by omega,rfl,?_⟩
     exact z2f m (A:={ A with fs:=A.fs.map (z2z (ns1.take (i+1))) }) hp' (zr0 hok0 (zc1 _) (zie _) (zsu _)) hs (by rw [zcd (zie _),zcd (zie _)])
    ·exfalso
     have h3:=z6f.2 (z7v hp hb)
     have h4:z25 A.fs ns1[i]=true:=List.all_eq_true.1 hall1 _ (List.getElem_mem hil)
     rw [zz2 (zc1 _),h4] at h3
     cases h3
   ·refine zn (zg ?_)
    rwa [List.take_of_length_le (by omega)] at hs
  clear hs
  rintro _ w hs
  refine zl ?_
  rw [hmark] at hs
  obtain ⟨m,FS,hp,hok,hs⟩:=z2b (hsub hs)
  have hs:Sat w (pt d (.cells #[.int .i64 A.left,.bool A.gone,.int .i64 A.room,.int .i64 (used (A.fs.map (z4d ns))),.map (some m)] T.a8)::_):=hs
  (repeat (first|with_reducible (first|refine zl ?_|refine zi ?_|refine z0n ?_|refine zb hs ?_|refine zj hs ?_|refine ze ?_|refine z02 hs λ_ hs=>?_|refine zt hs λ_ _ hs=>?_|refine zr hs λ_ _ hs=>?_|refine z08 hs λ_ hs=>?_|refine zv hs λ_ hs=>?_)|(apply wp_must;(focus first|trivial|omega|assumption))|refine z1c ?_|refine wp_lt ?_))
  rw [hg] at hs
  refine z8 (zcb (l':=r) (A:=A) hg hok hp hs) λ_ _ hs=>?_
  obtain ⟨rfl,hs⟩:=hs
  refine zd ?_
  exact ⟨rfl,rfl,hs⟩
end
theorem zgj {a b:List FileA} (h:a.Sublist b):used a<=used b:=by
 induction h with
 | slnil=>exact Nat.le_refl _
 | cons x _ ih=>rw [z1m];omega
 | cons_cons x _ ih=>rw [z1m,z1m];omega
theorem z04m {A:DiskA} (hok:okA A) {fs:List FileA} (h:fs.Sublist A.fs):okA { A with fs:=fs } :=
 ⟨hok.room,Nat.le_trans (zgj h) hok.used,Nat.le_trans h.length_le hok.many,hok.left,hok.sorted.sublist h,λf hf=>hok.kept f (h.mem hf),λf hf=>hok.names f (h.mem hf)⟩
def z06 (fs:List FileA) (n:ByteArray):Option (List UInt8 × Nat):=(fs.find? λf=>decide (f.name=n)).map λf=>(f.b,f.kept)
theorem zjb (n:ByteArray):z06 [] n=none:=rfl
theorem z2l (f:FileA) (fs:List FileA) (n:ByteArray):z06 (f::fs) n=if f.name=n then some (f.b,f.kept) else z06 fs n:=by
 unfold z06
 rw [List.find?_cons]
 by_cases h:f.name=n
 ·simp [h]
 ·simp [h]
theorem z7s {fs:List FileA} {n:ByteArray}:z06 fs n=none↔∀ f ∈ fs,f.name≠n:=by
 unfold z06
 rw [Option.map_eq_none_iff,List.find?_eq_none]
 simp
theorem zcz {fs:List FileA} {f:FileA} (hn:(fs.map (·.name)).Nodup) (h:f ∈ fs):z06 fs f.name=some (f.b,f.kept):=by
 unfold z06
 rw [zaa hn h rfl]
 rfl
theorem zsd {fs:List FileA} {n:ByteArray} {p:List UInt8 × Nat} (h:z06 fs n=some p):(⟨n,p.1,p.2⟩:FileA) ∈ fs:=by
 unfold z06 at h
 rw [Option.map_eq_some_iff] at h
 obtain ⟨f,hf,rfl⟩:=h
 have h1:=List.mem_of_find?_eq_some hf
 have h2:=List.find?_some hf
 have h2:f.name=n:=by simpa using h2
 subst h2
 exact h1
theorem z3v {fs:List FileA} {n:ByteArray}:z25 fs n=(z06 fs n).isSome:=by
 unfold z25 z06
 rw [Option.isSome_map,Bool.eq_iff_iff,List.any_eq_true,List.find?_isSome]
theorem zss {fs:List FileA} {n:ByteArray} {p:List UInt8 × Nat} (h:z06 fs n=some p):zm3 fs n=p.1.length:=by
 unfold z06 at h
 unfold zm3
 cases hf:fs.find? λf=>decide (f.name=n) with
 | none=>rw [hf] at h;cases h
 | some f=>rw [hf] at h;simp only [Option.map_some,Option.some.injEq] at h;subst h;rfl
theorem zd0 (n:ByteArray) (g:FileA->FileA) (hg:∀ f,(g f).name=f.name) (m:ByteArray):∀ fs:List FileA,
  z06 (fs.map (z1x n g)) m=if m=n then (z06 fs n).map λp=>((g ⟨n,p.1,p.2⟩).b,(g ⟨n,p.1,p.2⟩).kept) else z06 fs m
 | []=>by simp [zjb]
 | f::fs=>by
  rw [List.map_cons,z2l,zd0 n g hg m fs,z2l,z2l,z6p hg]
  by_cases h1:m=n
  ·subst h1
   rw [if_pos rfl,if_pos rfl]
   by_cases h2:f.name=m
   ·rw [if_pos h2,if_pos h2]
    subst h2
    unfold z1x
    rw [if_pos rfl]
    rfl
   ·rw [if_neg h2,if_neg h2]
  ·rw [if_neg h1,if_neg h1]
   by_cases h2:f.name=m
   ·rw [if_pos h2,if_pos h2]
    unfold z1x
    rw [if_neg (by rw [h2];exact h1)]
   ·rw [if_neg h2,if_neg h2]
theorem zja (x:FileA) (m:ByteArray):∀ {fs:List FileA},(∀ f ∈ fs,f.name≠x.name)->z06 (z4h x fs) m=if m=x.name then some (x.b,x.kept) else z06 fs m
 | [],_=>by
  show z06 [x] m=_
  rw [z2l]
  by_cases h:m=x.name
  ·rw [if_pos h.symm,if_pos h]
  ·rw [if_neg h,if_neg λe=>h e.symm]
 | f::fs,h=>by
  have hf:=h f (List.mem_cons_self ..)
  have ih:=zja x m (fs:=fs) λg hg=>h g (List.mem_cons_of_mem _ hg)
  unfold z4h
  split
  ·rw [z2l]
   by_cases h:m=x.name
   ·rw [if_pos h.symm,if_pos h]
   ·rw [if_neg h,if_neg λe=>h e.symm]
  ·rw [z2l,ih,z2l]
   by_cases h:m=x.name
   ·subst h;simp [hf]
   ·rw [if_neg h,if_neg h]
theorem zgx (n m:ByteArray):∀ fs:List FileA,z06 (z4b n fs) m=if m=n then none else z06 fs m
 | []=>by simp [z4b,zjb]
 | f::fs=>by
  have ih:=zgx n m fs
  unfold z4b at ih ⊢
  rw [List.filter_cons]
  by_cases h:f.name=n
  ·rw [if_neg (by simp [h]),ih,z2l]
   by_cases h2:m=n
   ·rw [if_pos h2,if_pos h2]
   ·rw [if_neg h2,if_neg h2,if_neg (by rw [h];exact λe=>h2 e.symm)]
  ·rw [if_pos (by simp [h]),z2l,ih,z2l]
   by_cases h2:m=n
   ·subst h2;simp [h]
   ·rw [if_neg h2,if_neg h2]
theorem zgy (ns:List ByteArray) (m:ByteArray):∀ fs:List FileA,z06 (fs.map (z4d ns)) m=(z06 fs m).map λp=>if zbm ns m then (p.1,p.1.length) else p
 | []=>rfl
 | f::fs=>by
  have hn:(z4d ns f).name=f.name:=by unfold z4d;split <;> rfl
  rw [List.map_cons,z2l,zgy ns m fs,z2l,hn]
  by_cases h:f.name=m
  ·subst h
   rw [if_pos rfl,if_pos rfl]
   unfold z4d
   split
   ·rename_i h;simp [h]
   ·rename_i h;simp [h]
  ·rw [if_neg h,if_neg h]
theorem z92 {A:DiskA} {n:ByteArray} {bs:List UInt8} (h:(z09 A n bs).1≠0):(z09 A n bs).2=A:=by
 unfold z09 at h ⊢
 split
 ·rfl
 ·split
  ·rfl
  ·split
   ·rfl
   ·rename_i h1 h2 h3
    rw [if_neg h1,if_neg h2,if_neg h3] at h
    exact absurd rfl h
theorem za7 {A:DiskA} {n:ByteArray} {bs:List UInt8} (hok:okA A) (h:(z09 A n bs).1=0):A.gone=false/\z3j n=true/\bs.length<=A.free/\okA (z09 A n bs).2 /\
  (z09 A n bs).2.room=A.room/\used (z09 A n bs).2.fs=used A.fs+bs.length /\
  ∀ m,z06 (z09 A n bs).2.fs m=if m=n then some (((z06 A.fs n).map Prod.fst).getD []++bs,((z06 A.fs n).map Prod.snd).getD 0) else z06 A.fs m:=by
 unfold z09 at h ⊢
 split at h
 ·cases h
 rename_i h1
 split at h
 ·cases h
 rename_i h2
 split at h
 ·cases h
 rename_i h3
 rw [if_neg h1,if_neg h2,if_neg h3]
 have hn:z3j n=true:=by simpa using h2
 have h4:=zhc hok hn (bs:=bs) (by omega) (λhh=>h3 (.inr hh))
 refine ⟨by simpa using h1,hn,by omega,z9r h4,by rw [z93],?_,λm=>?_⟩
 ·rw [z3m]
  show used (if z25 A.fs n=true then _ else _)=_
  have hnd:=z2x hok.sorted
  split
  ·rename_i hh
   obtain ⟨f,hf,rfl⟩:=z6e.1 hh
   obtain ⟨s,u,hsu⟩:=List.append_of_mem hf
   have hp:A.fs.Perm (f::(s++u)):=by rw [hsu];exact List.perm_middle
   have hne:∀ g ∈ s++u,g.name≠f.name:=λg hg e=>by
    have h5:=(hp.map (·.name)).nodup_iff.1 hnd
    rw [List.map_cons,List.nodup_cons] at h5
    exact h5.1 (List.mem_map.2 ⟨g,hg,e⟩)
   rw [zce hp hne,z41 hp,z1m,List.length_append]
   omega
  ·rw [z41 (z6i _ _),z1m]
   show bs.length+_=_
   omega
 ·rw [z3m]
  show z06 (if z25 A.fs n=true then _ else _) m=_
  split
  ·rename_i hh
   rw [zd0 n (λf=>{ f with b:=f.b++bs }) (λf=>rfl)]
   by_cases hm:m=n
   ·rw [if_pos hm,if_pos hm]
    rw [z3v] at hh
    obtain ⟨p,hp⟩:=Option.isSome_iff_exists.1 hh
    rw [hp]
    rfl
   ·rw [if_neg hm,if_neg hm]
  ·rename_i hh
   have hh:z25 A.fs n=false:=by simpa using hh
   rw [zja _ _ (z6f.1 hh)]
   by_cases hm:m=n
   ·rw [if_pos hm,if_pos hm,z7s.2 (z6f.1 hh)]
    rfl
   ·rw [if_neg hm,if_neg hm]
theorem zer {A:DiskA} {n:ByteArray} {bs:List UInt8} (hg:A.gone=false) (hn:z3j n=true) (hb:bs.length<=A.free) (hf:z06 A.fs n≠none\/A.fs.length<128):(z09 A n bs).1=0:=by
 unfold z09
 rw [if_neg (by rw [hg];simp),if_neg (by rw [hn];simp),if_neg]
 rintro (h|⟨h1,h2⟩)
 ·omega
 ·rcases hf with hf|hf
  ·rw [z3v] at h1
   cases hq:z06 A.fs n with
   | none=>exact hf hq
   | some q=>rw [hq] at h1;cases h1
  ·omega
theorem zeq {A:DiskA} {n:ByteArray} {bs:List UInt8} (hn:z3j n=true):(z09 A n bs).1=0\/((z09 A n bs).1=9/\A.gone=true)\/((z09 A n bs).1=5/\A.gone=false):=by
 unfold z09
 split
 ·exact .inr (.inl ⟨rfl,by assumption⟩)
 ·rename_i h
  rw [if_neg (by rw [hn];simp)]
  split
  ·exact .inr (.inr ⟨rfl,by simpa using h⟩)
  ·exact .inl rfl
theorem zgg {A:DiskA} {n:ByteArray}:((z1z A [n]).1=0/\A.gone=false/\(z06 A.fs n).isSome=true/\(z1z A [n]).2=z2k { A with fs:=A.fs.map (z4d [n]) })\/((z1z A [n]).1=9/\A.gone=true/\(z1z A [n]).2=A)\/((z1z A [n]).1=3/\A.gone=false/\z06 A.fs n=none/\(z1z A [n]).2=A):=by
 unfold z1z
 split
 ·exact .inr (.inl ⟨rfl,by assumption,rfl⟩)
 ·rename_i h
  have hg:A.gone=false:=by simpa using h
  split
  ·rename_i h2
   refine .inr (.inr ⟨rfl,hg,?_,rfl⟩)
   simp only [List.all_cons,List.all_nil,Bool.and_true] at h2
   rw [z3v] at h2
   cases hq:z06 A.fs n with
   | none=>rfl
   | some q=>rw [hq] at h2;cases h2
  ·rename_i h2
   refine .inl ⟨rfl,hg,?_,rfl⟩
   simp only [List.all_cons,List.all_nil,Bool.and_true] at h2
   rw [z3v] at h2
   cases hq:z06 A.fs n with
   | none=>rw [hq] at h2;exact absurd rfl h2
   | some q=>rfl
theorem zzr {A:DiskA} (hok:okA A) (ns:List ByteArray):okA { A with fs:=A.fs.map (z4d ns) } :=
 zr0 hok (λf=>by unfold z4d;split <;> rfl) (λf=>by unfold z4d;split <;> rfl) (λf h=>by unfold z4d;split;exact Nat.le_refl _;exact h)
theorem zvy (n m:ByteArray):zbm [n] m=decide (n=m):=by
 unfold zbm
 simp
theorem zrm {A:DiskA} {n:ByteArray} (hok:okA A) (h:(z1z A [n]).1=0):A.gone=false/\okA (z1z A [n]).2/\(z1z A [n]).2.room=A.room/\used (z1z A [n]).2.fs=used A.fs/\(z1z A [n]).2.fs.length=A.fs.length /\
  ∀ m,z06 (z1z A [n]).2.fs m=(z06 A.fs m).map λp=>if n=m then (p.1,p.1.length) else p:=by
 rcases zgg (A:=A) (n:=n) with ⟨h1,h2,h3,h4⟩|⟨h1,-,-⟩|⟨h1,-,-,-⟩
 ·rw [h4]
  refine ⟨h2,z9r (zzr hok _),by rw [z93],?_,?_,λm=>?_⟩
  ·rw [z3m]
   exact zcd λf=>by unfold z4d;split <;> rfl
  ·rw [z3m]
   exact List.length_map ..
  ·rw [z3m]
   show z06 (A.fs.map (z4d [n])) m=_
   rw [zgy]
   congr 1
   funext p
   rw [zvy]
   by_cases hm:n=m <;> simp [hm]
 ·rw [h1] at h;cases h
 ·rw [h1] at h;cases h
theorem z06z {A:DiskA} {n:ByteArray} (hok:okA A) (h:(z19 A n).1=0):A.gone=false/\okA (z19 A n).2/\(z19 A n).2.room=A.room/\used (z19 A n).2.fs<=used A.fs/\(z19 A n).2.fs.length<=A.fs.length/\(z06 A.fs n).isSome=true /\
  ∀ m,z06 (z19 A n).2.fs m=if m=n then none else z06 A.fs m:=by
 unfold z19 at h ⊢
 split at h
 ·cases h
 rename_i h1
 split at h
 ·cases h
 rename_i h2
 rw [if_neg h1,if_neg h2]
 refine ⟨by simpa using h1,z9r (z04m hok (List.filter_sublist ..)),by rw [z93],?_,?_,?_,λm=>?_⟩
 ·rw [z3m];exact zgj (List.filter_sublist ..)
 ·rw [z3m];exact zwb _ _
 ·rw [<- z3v];simpa using h2
 ·rw [z3m];exact zgx n m A.fs
theorem zxg {A:DiskA} {n:ByteArray} (hf:(z06 A.fs n).isSome=true):((z19 A n).1=0/\A.gone=false)\/((z19 A n).1=9/\A.gone=true/\(z19 A n).2=A):=by
 unfold z19
 split
 ·exact .inr ⟨rfl,by assumption,rfl⟩
 ·rename_i h
  rw [if_neg (by rw [z3v,hf];simp)]
  exact .inl ⟨rfl,by simpa using h⟩
theorem z060 {A:DiskA} {n:ByteArray} {k:Int} (hok:okA A) (h:(cutA' A n k).1=0):A.gone=false/\okA (cutA' A n k).2/\(cutA' A n k).2.room=A.room/\(cutA' A n k).2.fs.length=A.fs.length /\
  ∀ m,z06 (cutA' A n k).2.fs m=if m=n then (z06 A.fs n).map (λp=>(p.1.take k.toNat,min p.2 k.toNat)) else z06 A.fs m:=by
 unfold cutA' at h ⊢
 split at h
 ·cases h
 rename_i h1
 split at h
 ·cases h
 rename_i h2
 split at h
 ·cases h
 rename_i h3
 rw [if_neg h1,if_neg h2,if_neg h3]
 have hnd:=z2x hok.sorted
 have hup:okA { A with fs:=A.fs.map (z1x n λf=>{ f with b:=f.b.take k.toNat,kept:=min f.kept k.toNat }) }:=by
  refine ⟨hok.room,?_,?_,hok.left,z99 (λf=>z6p (g:=λf=>{ f with b:=f.b.take k.toNat,kept:=min f.kept k.toNat }) (λ_=>rfl) f) hok.sorted,λf hf=>?_,λf hf=>?_⟩
  ·refine Nat.le_trans ?_ hok.used
   show used (A.fs.map _)<=used A.fs
   generalize A.fs=fs
   induction fs with
   | nil=>exact Nat.le_refl _
   | cons f fs ih =>
    rw [List.map_cons,z1m,z1m]
    have:(z1x n (λf=>{ f with b:=f.b.take k.toNat,kept:=min f.kept k.toNat }) f).b.length<=f.b.length:=by
     unfold z1x
     split
     ·show (f.b.take _).length<=_;rw [List.length_take];omega
     ·exact Nat.le_refl _
    omega
  ·show (A.fs.map _).length<=_;rw [List.length_map];exact hok.many
  ·obtain ⟨g,hg,rfl⟩:=List.mem_map.1 hf
   have:=hok.kept g hg
   unfold z1x
   split
   ·show min g.kept _<=(g.b.take _).length;rw [List.length_take];omega
   ·exact this
  ·obtain ⟨g,hg,rfl⟩:=List.mem_map.1 hf
   rw [z6p (g:=λf=>{ f with b:=f.b.take k.toNat,kept:=min f.kept k.toNat }) (λ_=>rfl)]
   exact hok.names g hg
 refine ⟨by simpa using h1,z9r hup,by rw [z93],by rw [z3m];exact List.length_map ..,λm=>?_⟩
 rw [z3m]
 show z06 (A.fs.map _) m=_
 rw [zd0 n (λf=>{ f with b:=f.b.take k.toNat,kept:=min f.kept k.toNat }) (λf=>rfl)]
theorem zw9 {A:DiskA} {n:ByteArray} {k:Int} {p:List UInt8 × Nat} (hf:z06 A.fs n=some p) (hk:0<=k/\k<=p.1.length):((cutA' A n k).1=0/\A.gone=false)\/((cutA' A n k).1=9/\A.gone=true/\(cutA' A n k).2=A):=by
 unfold cutA'
 split
 ·exact .inr ⟨rfl,by assumption,rfl⟩
 ·rename_i h
  rw [if_neg (by rw [z3v,hf];simp),if_neg (by rw [zss hf];omega)]
  exact .inl ⟨rfl,by simpa using h⟩
def z4f (e:EntA):List Value:=[.int .i64 e.offset,.int .i64 e.place,.int .i64 e.before]
instance:EncA z4f [.int .i64,.int .i64,.int .i64] (λe=>(e.offset,e.place,e.before,())):=⟨λ_=>rfl⟩
instance:EncN z4f 3:=⟨λ_=>rfl,by decide,by simp [z4f,Value.oneCell']⟩
instance:EncF z4f 0 (.int .i64) (λe=>e.offset):=⟨λ_=>rfl⟩
instance:EncF z4f 1 (.int .i64) (λe=>e.place):=⟨λ_=>rfl⟩
instance:EncF z4f 2 (.int .i64) (λe=>e.before):=⟨λ_=>rfl⟩
structure okX (X:IdxA):Prop where
 gap:1<=X.gap/\X.gap<=4194304
 place : -1<=X.place/\X.place<=4194304
 ent:∀ e ∈ X.l,0<=e.place/\e.place<=X.place
 len:(X.l.length:Int)<=X.place+1
def z2j (b:Nat) (X:IdxA):HP:=HP.ex λz:Sl=>HP.and (okX X) (HP.star (pt b (.cells #[.int .i64 X.offset,.int .i64 X.place,.int .i64 X.late,.int .i64 X.gap,.slice z.a z.len z.cap] T.a11)) (slc T.a10 3 z (X.l.flatMap z4f)))
section
variable {w:World} {l r:List HP} {b:Nat} {X:IdxA}
theorem zfz (hs:Sat w (z2j b X::l)):∃ z:Sl,okX X/\Sat w (pt b (.cells #[.int .i64 X.offset,.int .i64 X.place,.int .i64 X.late,.int .i64 X.gap,.slice z.a z.len z.cap] T.a11)::slc T.a10 3 z (X.l.flatMap z4f)::l):=by
 obtain ⟨z,hs⟩:=hs.ex
 obtain ⟨h,hs⟩:=hs.and
 exact ⟨z,h,hs.star⟩
theorem z8p (X:IdxA) {z:Sl} (h:okX X) (hs:Sat w (pt b (.cells #[.int .i64 X.offset,.int .i64 X.place,.int .i64 X.late,.int .i64 X.gap,.slice z.a z.len z.cap] T.a11)::slc T.a10 3 z (X.l.flatMap z4f)::l)):Sat w (z2j b X::l) :=
 .ex_mk z (.and_mk h (.star_mk hs))
theorem z0ag {gap:Int} (h:1<=gap/\gap<=4194304):okX (zda gap):=⟨h,by show -1<=(-1:Int)/\(-1:Int)<=4194304;omega,(λ_ h=>by cases h),by show (0:Int) <= -1+1;omega⟩
theorem z06g (gap:Int) (h:1<=gap/\gap<=4194304) (hs:Sat w l):Ret P F.a50 #[.int .i64 gap] w λvs w'=>∃ b,vs=[.pointer (some ⟨b,0,none⟩),.int .i64 0]/\Sat w' (z2j b (zda gap)::l) :=
 zup gap <| by
  delta z08q Aa Ah Ai Aj Ak Ar
  refine z03 ?_
  refine zr hs λa w' hs=>?_
  refine ⟨rfl,a,rfl,?_⟩
  have h0:Sat w' (slc T.a10 3 ⟨none,0,0⟩ ((zda gap).l.flatMap z4f)::_):=hs.slc_nil
  exact z8p (zda gap) (z:=⟨none,0,0⟩) (z0ag h) (h0.pick [1])
theorem z06f (o p t:Int) (hs:Sat w l):Ret P F.a51 #[.int .i64 o,.int .i64 p,.int .i64 t] w λvs w'=>vs=[.bool (decide (zc2 o p t))]/\Sat w' l :=
 zuq o p t <| by
  delta z08r Ak Ax
  refine wp_lt ?_
  refine ⟨rfl,?_,hs⟩
  congr 2
  rw [Bool.eq_iff_iff,decide_eq_true_iff (p:=zc2 o p t)]
  unfold zc2
  simp only [Bool.and_eq_true,decide_eq_true_eq]
  constructor
  ·rintro ⟨⟨⟨⟨⟨h1,h2⟩,h3⟩,h4⟩,h5⟩,h6⟩
   exact ⟨⟨h1,h2⟩,⟨h3,h4⟩,h5,h6⟩
  ·rintro ⟨⟨h1,h2⟩,⟨h3,h4⟩,h5,h6⟩
   exact ⟨⟨⟨⟨⟨h1,h2⟩,h3⟩,h4⟩,h5⟩,h6⟩
theorem zzu {X:IdxA} (h:okX X) {o p t:Int} (hm:zc2 o p t) (h2:¬ (o<=X.offset\/p<=X.place)):okX ⟨o,p,max X.late t,X.gap,z4u X o p⟩:=by
 obtain ⟨h3,h4,h5,h6⟩:=h
 obtain ⟨-,hp,-⟩:=hm
 refine ⟨h3,by show -1<=p/\p<=4194304;omega,λe he=>?_,?_⟩
 ·show 0<=e.place/\e.place<=p
  have he:e ∈ z4u X o p:=he
  unfold z4u at he
  split at he
  ·rcases List.mem_append.1 he with he|he
   ·have:=h5 e he;omega
   ·simp at he;subst he;simp only;omega
  ·have:=h5 e he;omega
 ·show ((z4u X o p).length:Int)<=p+1
  unfold z4u
  split
  ·rw [List.length_append];simp only [List.length_cons,List.length_nil];omega
  ·omega
theorem z06p (o p t:Int) (ho : -9223372036854775808<=o/\o<9223372036854775808) (hp : -9223372036854775808<=p/\p<9223372036854775808) [hf:Fo l z2j b X r] (hs:Sat w l) :
  Ret P F.a48 #[.pointer (some ⟨b,0,none⟩),.int .i64 o,.int .i64 p,.int .i64 t] w λvs w'=>vs=[.int .i64 (zai X o p t).1]/\Sat w' (z2j b (zai X o p t).2::r) :=
 zun _ o p t <| by
  delta z08o AC AG AH AI AJ AO AP AS AY Aa Ad Af Aj Ak Al An Ao Av Aw B1 Bk Br
  have hs:=hs.perm hf.perm
  refine wp_lt ?_
  refine z03 ?_ (by simp)
  refine z8 (z06f o p t hs) λ_ w' hs=>?_
  obtain ⟨rfl,hs⟩:=hs
  refine zd ?_
  refine wp_lt ?_
  unfold zai
  refine zf (λh=>?_) λh=>?_
  ·have h:¬ zc2 o p t:=by simpa using h
   rw [if_pos h]
   exact ⟨rfl,rfl,hs⟩
  have h:zc2 o p t:=by simpa using h
  rw [if_neg (λhh=>hh h)]
  obtain ⟨z,hok,hs⟩:=zfz hs
  have hl:=hs.slen z (xs:=X.l) (enc:=z4f)
  refine zi ?_
  refine zb hs ?_
  refine z0n ?_
  refine zb hs ?_
  refine wp_lt ?_
  refine zf (λh2=>?_) λh2=>?_
  ·rw [if_pos h2]
   exact ⟨rfl,rfl,z8p X hok hs⟩
  rw [if_neg h2]
  have hok2:=zzu hok h h2
  have hlen:=hok.len
  have hpl:=hok.place
  refine zi ?_
  refine zb hs ?_
  refine wp_lt ?_
  refine z02 hs λw' hs=>?_
  refine z0n ?_
  refine zb hs ?_
  have hgl:∀ (h0:X.l≠[]),X.l.getLast? = some (X.l[X.l.length-1]'(by have:=List.length_pos_iff.2 h0;omega)):=λh0=>by
   have:=List.length_pos_iff.2 h0
   rw [List.getLast?_eq_getElem?,List.getElem?_eq_getElem (by omega)]
  refine z7h (xs:=X.l) (enc:=z4f) hs (match X.l.getLast? with|none=>0|some e=>e.place) (λhg=>?_) ?_
  ·have h0:X.l≠[]:=by
    rintro h0
    rw [h0] at hl
    rw [hl] at hg
    cases hg
   have:=List.length_pos_iff.2 h0
   refine ⟨X.l.length-1,by omega,?_,?_⟩
   ·rw [w64 (by omega) (by omega)];omega
   ·rw [hgl h0]
  refine z0n ?_
  refine zb hs ?_
  refine ze ?_
  refine zm (λ_ w'=>∃ z':Sl,Sat w' (pt b (.cells #[.int .i64 X.offset,.int .i64 X.place,.int .i64 X.late,.int .i64 X.gap,.slice z'.a z'.len z'.cap] T.a11)::slc T.a10 3 z' ((z4u X o p).flatMap z4f)::r)) ?_ ?_
  ·have hnew:zzn X p=true↔(((z.len:Nat):Int)=0\/IntKind.wrap .i64 (p-match X.l.getLast? with|none=>0|some e=>e.place)>=X.gap):=by
    unfold zzn
    by_cases h0:X.l=[]
    ·rw [h0]
     simp only [List.getLast?_nil,true_iff]
     left
     rw [hl,h0];rfl
    ·rw [hgl h0]
     have hlp:=List.length_pos_iff.2 h0
     have hb:=hok.ent _ (List.getElem_mem (show X.l.length-1<X.l.length by omega))
     simp only [decide_eq_true_eq]
     rw [w64 (by omega) (by omega)]
     omega
   unfold z4u
   refine zf (λh3=>?_) λh3=>?_
   ·rw [if_pos (hnew.2 h3)]
    refine zm (λq w'=>∃ z':Sl,q=(z',())/\Sat w' (slc T.a10 3 z' ((X.l++[(⟨o,p,X.late⟩:EntA)]).flatMap z4f)::pt b (.cells #[.int .i64 X.offset,.int .i64 X.place,.int .i64 X.late,.int .i64 X.gap,.slice z.a z.len z.cap] T.a11)::r)) ?_ ?_
    ·refine z02 hs λw' hs=>?_
     refine zi ?_
     refine z0s hs ?_
     refine zi ?_
     refine zb hs ?_
     refine z61 hs (enc:=z4f) [(⟨o,p,X.late⟩:EntA)] λy w' hs=>⟨(by first|trivial|(repeat (first|exact trivial|exact λ_=>z07 hs|exact λ_=>z0d hs|refine And.intro ?_ ?_))),?_⟩
     refine ze ?_
     refine wp_app' (xs:=X.l) (ys:=[(⟨o,p,X.late⟩:EntA)]) (enc:=z4f) hs (λz' w' hs=>?_) (by simp only [List.length_cons,List.length_nil];omega)
     refine ze ?_
     exact zg ⟨z',rfl,hs.sub⟩
    ·rintro _ w2 ⟨z',rfl,hs⟩
     refine zi ?_
     refine z08 hs λw' hs=>?_
     exact zg ⟨z',hs.sub⟩
   ·rw [if_neg λhh=>h3 (hnew.1 hh)]
    exact zg ⟨z,hs⟩
  rintro _ w2 ⟨z',hs⟩
  refine zi ?_
  refine zb hs ?_
  refine zi ?_
  have e:(if t>X.late then t else X.late)=max X.late t:=by split <;> omega
  rw [e]
  have hA:(Addr.add ⟨b,0,none⟩ 0)=⟨b,0,none⟩:=rfl
  rw [hA]
  refine z07m hs (by rfl) (by rfl) (by simp [Value.oneCell']) λw' hs=>⟨trivial,?_⟩
  refine ⟨rfl,rfl,?_⟩
  exact z8p ⟨o,p,max X.late t,X.gap,z4u X o p⟩ (z:=z') hok2 hs
theorem z03x (i:Int) (hi:i<X.l.length) [hf:Fo l z2j b X r] (hs:Sat w l) :
  Ret P F.a49 #[.pointer (some ⟨b,0,none⟩),.int .i64 i] w λvs w'=>vs=[.agg (z4f (if i<0 then ⟨0,0,0⟩ else X.l.getD i.toNat ⟨0,0,0⟩)).toArray,.bool (decide (0<=i))]/\Sat w' (z2j b X::r) :=
 zuo _ i <| by
  delta z08p AI AY Ab Ac Ad Ag Aj Ak An
  have hs:=hs.perm hf.perm
  refine zt hs λa w' hs=>?_
  refine zf (λh=>?_) λh=>?_
  ·refine zv hs λw' hs=>?_
   refine zj hs ?_
   rw [if_pos h]
   refine ⟨rfl,?_,hs.tail⟩
   rw [decide_eq_false (by omega)]
   rfl
  ·refine zi ?_
   obtain ⟨z,hok,hs⟩:=zfz (hs.pick [1])
   refine zb hs ?_
   refine z2v hs (xs:=X.l) (enc:=z4f) i.toNat (by omega) ?_
   refine zv hs λw' hs=>?_
   refine zj hs ?_
   rw [if_neg h]
   refine ⟨rfl,?_,z8p X (z:=z) hok hs.sub⟩
   rw [decide_eq_true (by omega),List.getD_eq_getElem?_getD,List.getElem?_eq_getElem (by omega)]
   rfl
theorem zgd (n : Nat) (hn : n < 4611686018427387904) (f : FuncId) (cap : Array Value) (p : Nat → Bool) (hok : (P.funcs[f]?).any (fun fn => fn.body.isSome && fn.name != "runtime.NumGoroutine") = true)
  (hp:∀ (i:Nat) (w:World),i<n->Sat w l->Ret P f (#[.int .i64 (i:Int)]++cap) w λvs w'=>vs=[.bool (p i)]/\Sat w' l) (hs:Sat w l) :
  Ret P F.a151 #[.int .i64 (n:Int),.func (.func f) #[] cap] w λvs w'=>∃ i:Nat,i<=n/\(0<i->p (i-1)=false)/\(i<n->p i=true)/\vs=[.int .i64 (i:Int)]/\Sat w' l :=
 zp5 _ _ <| by
  delta z02o AQ Aa Af Aj Ak Aw Ay Bd
  refine wp_lt ?_
  refine zm (λq w'=>∃ i:Nat,i<=n/\(0<i->p (i-1)=false)/\(i<n->p i=true)/\q=((i:Int),())/\Sat w' l) ?_ ?_
  rotate_left
  ·rintro _ w' ⟨i,h1,h2,h3,rfl,hs⟩
   refine wp_lt ?_
   exact ⟨rfl,i,h1,h2,h3,rfl,hs⟩
  refine z0c (λm v w=>∃ i j:Nat,v=((i:Int),((j:Int),()))/\i<=j/\j<=n/\j-i=m/\(0<i->p (i-1)=false)/\(j<n->p j=true)/\Sat w l) n ⟨0,n,rfl,by omega,by omega,rfl,(λh=>by omega),(λh=>by omega),hs⟩ ?_
  clear hs
  rintro m _ w ⟨i,j,rfl,hij,hjn,hm,h1,h2,hs⟩
  refine zl ?_
  refine zf (λhc=>?_) λhc=>?_
  rotate_left
  ·have:i=j:=by omega
   subst this
   exact zn (zg ⟨i,hjn,h1,h2,rfl,hs⟩)
  have hc:i<j:=by omega
  have e:IntKind.wrap .i64 (Int.fdiv (IntKind.wrap .u64 (IntKind.wrap .i64 ((i:Int)+j))) 2)=(((i+j) / 2:Nat):Int):=by
   rw [w64 (x:=(i:Int)+j) (by omega) (by omega),ziv (by omega) (by omega)]
   have:Int.fdiv ((i:Int)+j) 2=(((i+j) / 2:Nat):Int):=by
    rw [Int.fdiv_eq_ediv_of_nonneg _ (by omega)]
    omega
   rw [this,w64 (by omega) (by omega)]
  refine z2a (y:=(((i+j) / 2:Nat):Int)) ?_ e
  refine zxy hok (p ((i+j) / 2),()) (hp ((i+j) / 2) w (by omega) hs) rfl λw' hs=>⟨trivial,?_⟩
  refine zl ?_
  refine z44 ?_
  refine zf (λh3=>?_) λh3=>?_
  ·have h3:p ((i+j) / 2)=false:=by simpa using h3
   refine z2a (y:=(((i+j) / 2+1:Nat):Int)) ?_ (by rw [w64 (by omega) (by omega)];omega)
   refine z5a ?_
   refine z0z (j-((i+j) / 2+1)) ⟨(i+j) / 2+1,j,rfl,by omega,hjn,rfl,λ_=>by rw [Nat.add_sub_cancel];exact h3,h2,hs⟩
  ·have h3:p ((i+j) / 2)=true:=by simpa using h3
   refine wp_lt ?_
   refine z5a ?_
   refine z0z ((i+j) / 2-i) ⟨i,(i+j) / 2,rfl,by omega,by omega,rfl,h1,λ_=>h3,hs⟩
theorem z041 (i:Nat) (a0 a1:Nat) (o:Int) {r1 r2:List HP} {z:Sl} (hi:i<X.l.length) [h0:FocB l a0 (.cells [.pointer (some ⟨b,0,none⟩)].toArray T.a28) r1] [h1:FocB l a1 (.cells [.int .i64 o].toArray T.a14) r2]
  [h2:FocB l b (.cells [.int .i64 X.offset,.int .i64 X.place,.int .i64 X.late,.int .i64 X.gap,.slice z.a z.len z.cap].toArray T.a11) r] [h3:FocR l z 3 (X.l.flatMap z4f)] (hs:Sat w l) :
  Ret P F.a47 #[.int .i64 (i:Int),.pointer (some ⟨a0,0,none⟩),.pointer (some ⟨a1,0,none⟩)] w λvs w'=>vs=[.bool (decide (X.l[i].offset>o))]/\Sat w' l :=
 zum _ _ _ <| by
  delta z08n AC AG AI AP AY Ak An Ax BB BQ
  refine z02 hs λw' hs=>?_
  refine zb hs ?_
  refine zi ?_
  refine zb hs ?_
  refine zdx hs (xs:=X.l) (enc:=z4f) i hi ?_
  refine zb hs ?_
  refine wp_lt ?_
  refine ze ?_
  exact ⟨rfl,rfl,hs⟩
def orE (o:Option EntA):EntA:=o.getD ⟨0,0,0⟩
theorem zwa {l:List EntA} {i:Nat} (hi:i<=l.length):(if ((i:Int)-1)<0 then (⟨0,0,0⟩:EntA) else l.getD ((i:Int)-1).toNat ⟨0,0,0⟩)=orE (l.take i).getLast? /\ decide (0<=(i:Int)-1)=(l.take i).getLast?.isSome:=by
 rw [zxt hi]
 by_cases h:i=0
 ·subst h;exact ⟨rfl,rfl⟩
 ·rw [if_neg h,if_neg (by omega),List.getD_eq_getElem?_getD,show ((i:Int)-1).toNat=i-1 by omega,List.getElem?_eq_getElem (by omega)]
  exact ⟨rfl,decide_eq_true (by omega)⟩
theorem z066 (o:Int) (hm:X.l.Pairwise λa b=>a.offset<b.offset) [hf:Fo l z2j b X r] (hs:Sat w l) :
  Ret P F.a46 #[.pointer (some ⟨b,0,none⟩),.int .i64 o] w λvs w'=>vs=[.agg (z4f (orE (z3b X.l o))).toArray,.bool (z3b X.l o).isSome]/\Sat w' (z2j b X::r) :=
 zul _ o <| by
  delta z08m AA AC AG AI AY Aa Ab Ac Ad Ag Ah Ai Aj Ak An Ar Au Aw Ax B2
  have hs:=hs.perm hf.perm
  refine zr hs λa0 w' hs=>?_
  refine zr hs λa1 w' hs=>?_
  refine zt hs λa2 w' hs=>?_
  refine zb hs ?_
  refine z03 ?_ (by simp)
  refine zm (λq w'=>q=((z3b X.l o).isSome,())/\Sat w' (pt a2 (.cells [.int .i64 (orE (z3b X.l o)).offset,.int .i64 (orE (z3b X.l o)).place,.int .i64 (orE (z3b X.l o)).before].toArray T.a10)::z2j b X::r)) ?_ ?_
  rotate_left
  ·rintro _ w2 ⟨rfl,hs⟩
   refine zj hs ?_
   exact ⟨rfl,rfl,hs.tail⟩
  obtain ⟨z,hok,hs⟩:=zfz (hs.pick [3])
  have hl:=hs.slen z (xs:=X.l) (enc:=z4f)
  have hlen:=hok.len
  have hpl:=hok.place
  refine z02 hs λw' hs=>?_
  refine z0s hs ?_
  refine zb hs ?_
  refine zi ?_
  refine zb hs ?_
  rw [hl]
  refine z8 (zgd X.l.length (by omega) F.a47 #[.pointer (some ⟨a0,0,none⟩),.pointer (some ⟨a1,0,none⟩)] (λi=>decide ((X.l.getD i ⟨0,0,0⟩).offset>o)) (by kernel_rfl) (λi w hi hs=>?_) hs) λ_ w' hs=>?_
  ·have e:X.l.getD i ⟨0,0,0⟩=X.l[i]:=by rw [List.getD_eq_getElem?_getD,List.getElem?_eq_getElem hi];rfl
   simp only [e]
   exact z041 (X:=X) i a0 a1 o hi hs
  obtain ⟨i,hi,h1,h2,rfl,hs⟩:=hs
  refine zd ?_ (by first|trivial|(repeat (first|exact trivial|exact λ_=>z07 hs|exact λ_=>z0d hs|refine And.intro ?_ ?_)))
  refine ze ?_
  rw [w64 (by omega) (by omega)]
  replace hs:Sat _ (z2j b X::pt a2 (.cells [.int .i64 0,.int .i64 0,.int .i64 0].toArray T.a10)::pt a0 (.cells [.pointer (some ⟨b,0,none⟩)].toArray T.a28)::r):=z8p X (z:=z) hok hs.sub
  refine z8 (z03x (b:=b) ((i:Int)-1) (by omega) hs) λ_ w' hs=>?_
  obtain ⟨rfl,hs⟩:=hs
  have hcut:z3b X.l o=(X.l.take i).getLast? := by
   unfold z3b
   rw [zhm hi (hm.imp λ{a b} hab=>by simp only [decide_eq_true_eq];omega)]
   ·intro h h0
    have:=h1 h0
    rw [List.getD_eq_getElem?_getD,List.getElem?_eq_getElem h] at this
    have:decide (X.l[i-1].offset>o)=false:=this
    simpa using this
   ·intro h
    have:=h2 h
    rw [List.getD_eq_getElem?_getD,List.getElem?_eq_getElem h] at this
    have:decide (X.l[i].offset>o)=true:=this
    simpa using this
  obtain ⟨c1_,c2_⟩:=zwa (l:=X.l) hi
  rw [c1_,c2_,<- hcut]
  refine ⟨((orE (z3b X.l o)).offset,(orE (z3b X.l o)).place,(orE (z3b X.l o)).before,(z3b X.l o).isSome,()),rfl,(by first|trivial|(repeat (first|exact trivial|exact λ_=>z07 hs|exact λ_=>z0d hs|refine And.intro ?_ ?_))),z01f _ _ _ _ ?_⟩
  refine zv hs λw' hs=>?_
  refine wp_lt ?_
  refine ze ?_
  exact zg ⟨rfl,hs.sub⟩
end
structure SegM where
 ix:Nat
 s:SegA
structure LogM where
 d:Nat
 pre:ByteArray
 seg:Int
 gap:Int
 z:Sl
 SM:List (Nat × SegM)
structure LogA where
 d:Nat
 pre:ByteArray
 seg:Int
 gap:Int
 l:List SegA
def LogM.l (M:LogM):List SegA:=M.SM.map λt=>t.2.s
def LogM.A (M:LogM):LogA:=⟨M.d,M.pre,M.seg,M.gap,M.l⟩
def z1w (b:Nat):List Value:=[.pointer (some ⟨b,0,none⟩)]
instance:Enc1 z1w .ptr (λb=>some ⟨b,0,none⟩):=⟨λ_=>rfl⟩
instance:EncN z1w 1:=⟨λ_=>rfl,by decide,by simp [z1w,Value.oneCell']⟩
def z0q (gap:Int) (a:Nat) (t:SegM):HP:=HP.star (pt a (.cells #[.pointer (some ⟨t.ix,0,none⟩),.int .i64 t.s.base,.int .i64 t.s.fin,.int .i64 (z0i t.s.bs),.int .i64 (z1i (-1) t.s.bs),.int .i64 (t.s.file.length:Nat)] T.a48)) (z2j t.ix (t.s.idx gap))
structure okM (gap seg:Int) (pre:ByteArray):Prop where
 gap:1<=gap/\gap<=4194304
 seg:64<=seg/\seg<=4194304
 pre:z17 pre=true
def lgQ (lg:Nat) (M:LogM):HP:=HP.and (okM M.gap M.seg M.pre) (HP.star (pt lg (.cells #[.pointer (some ⟨M.d,0,none⟩),.string M.pre,.int .i64 M.seg,.int .i64 M.gap,.slice M.z.a M.z.len M.z.cap] T.a47))
 (HP.star (slc T.a32 1 M.z ((M.SM.map Prod.fst).flatMap z1w)) (HP.all (M.SM.map λt=>z0q M.gap t.1 t.2))))
def lgP (lg:Nat) (A:LogA):HP:=HP.ex λM:LogM=>HP.and (M.A=A) (lgQ lg M)
def z007:Option Nat->Option Addr
 | none=>none
 | some b=>some ⟨b,0,none⟩
section
variable {w:World} {l r:List HP} {lg:Nat} {M:LogM} {A:LogA} {gap:Int} {a:Nat} {t:SegM}
theorem z47 (hs:Sat w (z0q gap a t::l)):Sat w (pt a (.cells #[.pointer (some ⟨t.ix,0,none⟩),.int .i64 t.s.base,.int .i64 t.s.fin,.int .i64 (z0i t.s.bs),.int .i64 (z1i (-1) t.s.bs),.int .i64 (t.s.file.length:Nat)] T.a48)::z2j t.ix (t.s.idx gap)::l):=hs.star
theorem z2u (t:SegM) (hs:Sat w (pt a (.cells #[.pointer (some ⟨t.ix,0,none⟩),.int .i64 t.s.base,.int .i64 t.s.fin,.int .i64 (z0i t.s.bs),.int .i64 (z1i (-1) t.s.bs),.int .i64 (t.s.file.length:Nat)] T.a48)::z2j t.ix (t.s.idx gap)::l)):Sat w (z0q gap a t::l):=.star_mk hs
theorem z2y (hs:Sat w (lgQ lg M::l)):okM M.gap M.seg M.pre/\Sat w (pt lg (.cells #[.pointer (some ⟨M.d,0,none⟩),.string M.pre,.int .i64 M.seg,.int .i64 M.gap,.slice M.z.a M.z.len M.z.cap] T.a47)::slc T.a32 1 M.z ((M.SM.map Prod.fst).flatMap z1w)::HP.all (M.SM.map λt=>z0q M.gap t.1 t.2)::l):=by
 obtain ⟨h,hs⟩:=hs.and
 have hs:=hs.star
 exact ⟨h,((hs.pick [1]).star).pick [2]⟩
theorem z1r (M:LogM) (h:okM M.gap M.seg M.pre) (hs:Sat w (pt lg (.cells #[.pointer (some ⟨M.d,0,none⟩),.string M.pre,.int .i64 M.seg,.int .i64 M.gap,.slice M.z.a M.z.len M.z.cap] T.a47)::slc T.a32 1 M.z ((M.SM.map Prod.fst).flatMap z1w)::HP.all (M.SM.map λt=>z0q M.gap t.1 t.2)::l)):Sat w (lgQ lg M::l):=by
 refine .and_mk h (.star_mk ?_)
 exact ((hs.pick [1,1]).star_mk).pick [1]
theorem z86 (hs:Sat w (lgP lg A::l)):∃ M:LogM,M.A=A/\Sat w (lgQ lg M::l):=by
 obtain ⟨M,hs⟩:=hs.ex
 obtain ⟨h,hs⟩:=hs.and
 exact ⟨M,h,hs⟩
theorem z4p (M:LogM) (hs:Sat w (lgQ lg M::l)):Sat w (lgP lg M.A::l):=.ex_mk M (.and_mk rfl hs)
theorem zjk:∀ (j n:Nat),z2w (j+1) n=z5s (n / 16 ^ j % 16)::z2w j n
 | 0,n=>by simp [z2w]
 | j+1,n=>by
  show z2w (j+1) (n / 16)++[z5s (n % 16)]=_
  rw [zjk j (n / 16)]
  have e:n / 16 / 16 ^ j=n / 16 ^ (j+1):=by rw [Nat.div_div_eq_div_mul,Nat.pow_succ,Nat.mul_comm]
  rw [e]
  rfl
theorem z057 (k:Nat) (c:UInt8):∀ (xs:List UInt8),(List.replicate (k+1) (0:UInt8)++xs).set k c=List.replicate k 0++c::xs:=by
 induction k with
 | zero=>intro xs;rfl
 | succ k ih=>intro xs;rw [List.replicate_succ,List.cons_append,List.set_cons_succ,ih,List.replicate_succ,List.cons_append]
theorem z09y (n:Nat) (h:n<18446744073709551616):BitVec.toNat (BitVec.ofInt 64 (n:Int) &&& BitVec.ofInt 64 15)=n % 16:=by
 rw [BitVec.ofInt_natCast,BitVec.toNat_and,BitVec.toNat_ofNat,Nat.mod_eq_of_lt h]
 show n &&& 15=n % 16
 exact Nat.and_two_pow_sub_one_eq_mod n 4
theorem z05v {k:Nat} (h:k<16):bt (ByteArray.mk #[48,49,50,51,52,53,54,55,56,57,97,98,99,100,101,102]) (k:Int)=(((z5s k).toNat:Nat):Int):=by
 have:∀ k:Fin 16,bt (ByteArray.mk #[48,49,50,51,52,53,54,55,56,57,97,98,99,100,101,102]) (k.val:Int)=(((z5s k.val).toNat:Nat):Int):=by decide +kernel
 exact this ⟨k,h⟩
theorem z07l {P:Program} {t el:TypeId} {bytes:Nat} {Q:Post} {S:World->Prop} {k:Sl->Prog} [ht:SlT P t el 1 bytes] [hz:Zer P el (.int .u8 0)] (n:Nat) (hs:Sat w l) (h:∀ x w',Sat w' (slc el 1 x ((List.replicate n (0:UInt8)).flatMap zk)::l)->(k x).wp P S w' Q) (hb:n*bytes<=281474976710656/\n<=9223372036854775807) (hS:∀ w',S w':=by exact λ_=>trivial) :
  (Prog.act (Instr.makeSlice t (.int .i64 (n:Int)) (.int .i64 (n:Int))) sL (u1 k)).wp P S w Q:=by
 obtain ⟨i,z,hi,h2,h3,h4,h5⟩:=ht.parts
 have hz':z=.int .u8 0:=by
  have:=hz.ok
  unfold za4 at this
  rw [hi] at this
  simp only at this
  rw [h4] at this
  exact Option.some.inj this
 have hrun:=run_make (P:=P) w t el i z ht.ok.1 hi h4 .i64 .i64 n n (by omega) (Int.le_refl _) (by rw [h3,<- Int.natCast_mul,Nat.mul_comm];omega) (by omega)
 simp only [Int.toNat_natCast] at hrun
 have hp:=hs.push (o:=.cells (madeCells z.cells (n*i.size)) el) (w':=w.alloc (.cells (madeCells z.cells (n*i.size)) el)) rfl
 refine ⟨(⟨some ⟨w.heap.size,0,none⟩,n,n⟩,()),_,hrun,hS _,h ⟨some ⟨w.heap.size,0,none⟩,n,n⟩ _ ?_⟩
 refine hp.imp λp hp=>.inr ⟨w.heap.size,0,_,_,rfl,hp,by rw [z3n,List.length_replicate],Nat.le_refl _,by rw [size_madeCells,h2];simp,λj hj=>?_,z2o _ _⟩
 rw [z3n,List.length_replicate,Nat.mul_one] at hj
 rw [h2,Nat.mul_one,Nat.zero_add,zac,hz']
 have e1:(madeCells (Value.int .u8 0).cells n)[j]? = some (.int .u8 0):=by
  rw [Array.getElem?_eq_getElem (by rw [size_madeCells];exact hj)]
  simp [madeCells,Value.cells,Nat.mod_one]
 rw [e1,List.getElem?_map,List.getElem?_replicate,if_pos hj]
 rfl
theorem z89 (base:Int) (h:0<=base/\base<17592186044416) (x:ByteArray) (hx:x.size<=100) {d_:Value} {seg gp:Value} {zz:Value} (pre:ByteArray) (hp:pre.size<=100) [hf:FocB l lg (.cells [d_,.string pre,seg,gp,zz].toArray T.a47) r] (hs:Sat w l) :
  Ret P F.a122 #[.pointer (some ⟨lg,0,none⟩),.int .i64 base,.string x] w λvs w'=>vs=[.string (zo pre base (bl x))]/\Sat w' l :=
 zol _ base x <| by
  delta z024 AC AD AG AH AO AU AY Aa Af Aj Ak Al An Aw Bd
  refine z07l 11 hs (λz w' hs=>?_) (by omega)
  refine zm (λ_ w'=>Sat w' (slc T.a52 1 z ((z2w 11 base.toNat).flatMap zk)::l)) ?_ ?_
  ·refine z0c (λm v w=>∃ j:Nat,v=(((base.toNat / 16 ^ j:Nat):Int),((10-(j:Int)),()))/\j<=11/\11-j=m/\Sat w (slc T.a52 1 z ((List.replicate (11-j) 0++z2w j base.toNat).flatMap zk)::l)) 11 ⟨0,by rw [Nat.pow_zero,Nat.div_one,Int.toNat_of_nonneg h.1];rfl,by omega,rfl,by simpa [z2w] using hs⟩ ?_
   clear hs
   rintro m _ w ⟨j,rfl,hj,hm,hs⟩
   refine zl ?_
   refine zf (λhc=>?_) λhc=>?_
   rotate_left
   ·have:j=11:=by omega
    subst this
    exact zn (zg (by simpa using hs))
   have hj2:j<=10:=by omega
   have hb:base.toNat / 16 ^ j<18446744073709551616:=by
    have:=Nat.div_le_self base.toNat (16 ^ j)
    omega
   have hmod:=Nat.mod_lt (base.toNat / 16 ^ j) (show 0<16 by omega)
   rw [z09y _ hb,w64 (by omega) (by omega)]
   refine wp_must (by omega) ?_
   rw [z05v hmod]
   refine z07k hs (xs:=List.replicate (11-j) 0++z2w j base.toNat) (enc:=zk) (10-j) (by rw [List.length_append,List.length_replicate];omega) (z5s (base.toNat / 16 ^ j % 16)) λw' hs=>?_
   refine z2a (y:=((base.toNat / 16 ^ (j+1):Nat):Int)) ?_ ?_
   ·refine z2a (y:=10-((j+1:Nat):Int)) ?_ (by rw [w64 (by omega) (by omega)];omega)
    refine z0z (11-(j+1)) ⟨j+1,rfl,by omega,rfl,?_⟩
    have e:=z057 (10-j) (z5s (base.toNat / 16 ^ j % 16)) (z2w j base.toNat)
    rw [show 10-j+1=11-j by omega] at e
    rw [e,<- zjk] at hs
    rw [show 11-(j+1)=10-j by omega]
    exact hs
   ·rw [z85 _ (by omega)]
    show ((base.toNat / 16 ^ j / 16:Nat):Int)=_
    rw [Nat.div_div_eq_div_mul,<- Nat.pow_succ]
  clear hs
  rintro _ w hs
  refine zl ?_
  refine z02 hs λw' hs=>?_
  refine zi ?_
  refine zb hs ?_
  refine wp_must (by omega) ?_
  refine zy1 (bs:=z2w 11 base.toNat) hs ?_
  have h11:=z6h 11 base.toNat
  have s1:(pre++ByteArray.mk #[45]).size=pre.size+1:=ByteArray.size_append ..
  have s2:(ByteArray.mk (z2w 11 base.toNat).toArray).size=11:=h11
  refine wp_must (by omega) ?_
  have s3:(pre++ByteArray.mk #[45]++ByteArray.mk (z2w 11 base.toNat).toArray).size=pre.size+12:=by rw [ByteArray.size_append,s1,s2]
  refine wp_must (by omega) ?_
  refine wp_lt ?_
  refine ze ?_
  refine ⟨rfl,?_,hs.tail⟩
  congr 2
  apply zcv
  rw [z69]
  unfold bl
  simp only [ByteArray.data_append,Array.toList_append,List.append_assoc]
  rfl
theorem z0ah {a d:Nat} (hd:d<16) (ha:a<576460752303423488):BitVec.toNat (BitVec.ofInt 64 ((a:Int)*16) ||| BitVec.ofInt 64 (d:Int))=16*a+d:=by
 have e:(a:Int)*16=((16*a:Nat):Int):=by omega
 rw [e,BitVec.ofInt_natCast,BitVec.ofInt_natCast,BitVec.toNat_or,BitVec.toNat_ofNat,BitVec.toNat_ofNat,Nat.mod_eq_of_lt (show 16*a<2 ^ 64 by omega),Nat.mod_eq_of_lt (show d<2 ^ 64 by omega)]
 exact (Nat.two_pow_add_eq_or_of_lt (i:=4) hd a).symm
theorem zi7:∀ {r:List UInt8} {x v k:Nat},z3w x r=some v->x<16 ^ k->v<16 ^ (k+r.length)
 | [],x,v,k,h,hx=>by simp [z3w] at h;subst h;simpa using hx
 | c::r,x,v,k,h,hx=>by
  unfold z3w at h
  cases hd:z6g c with
  | none=>rw [hd] at h;cases h
  | some d =>
   rw [hd] at h
   have hd:=(z06d hd).2
   have:=zi7 (k:=k+1) h (by rw [Nat.pow_succ];omega)
   rw [List.length_cons,show k+(r.length+1)=k+1+r.length by omega]
   exact this
theorem zbq (s:ByteArray) (i j:Nat):bl (s.extract i j)=((bl s).drop i).take (j-i):=by
 unfold bl
 rw [ByteArray.data_extract,Array.toList_extract,List.extract_eq_take_drop]
theorem zq5 (n x:ByteArray) (hn:n.size<=1000) (hx:x.size<=100) {d_:Value} {seg gp:Value} {zz:Value} (pre:ByteArray) (hp:pre.size<=100) [hf:FocB l lg (.cells [d_,.string pre,seg,gp,zz].toArray T.a47) r] (hs:Sat w l) :
  Ret P F.a117 #[.pointer (some ⟨lg,0,none⟩),.string n,.string x] w λvs w'=>vs=[.int .i64 (((z1h pre n (bl x)).getD 0:Nat):Int),.bool (z1h pre n (bl x)).isSome]/\Sat w' l :=
 zog _ n x <| by
  delta z01z AD AO AS AY Aa Af Aj Ak An Aw Ax Ay BK BL Bd
  refine zi ?_
  refine zb hs ?_
  have e1:IntKind.wrap .i64 (((ByteArray.size pre:Nat):Int)+1)=((pre.size+1:Nat):Int):=by rw [w64 (by omega) (by omega)];omega
  have e2:IntKind.wrap .i64 (((pre.size+1:Nat):Int)+11)=((pre.size+12:Nat):Int):=by rw [w64 (by omega) (by omega)];omega
  have e3:IntKind.wrap .i64 (((pre.size+12:Nat):Int)+((ByteArray.size x:Nat):Int))=((pre.size+12+x.size:Nat):Int):=by rw [w64 (by omega) (by omega)];omega
  rw [e1]
  refine wp_lt ?_
  rw [e2,e3]
  refine wp_must ?_ ?_
  ·intro h
   have h:((n.size:Nat):Int)=((pre.size+12+x.size:Nat):Int):=by simpa using h
   omega
  have hb:z1h pre n (bl x)=if n.size=pre.size+12+x.size/\(bl n).drop (pre.size+12)=bl x then z3w 0 (((bl n).drop (pre.size+1)).take 11) else none:=by
   unfold z1h
   rw [z1e,z1e,z1e]
  refine zf (λh=>?_) λh=>?_
  ·have:z1h pre n (bl x)=none:=by
    rw [hb,if_neg]
    rintro ⟨h1,h2⟩
    rcases h with h|h
    ·apply h;rw [h1]
    ·apply h
     rw [Int.toNat_natCast]
     apply zcv
     rw [zbq,h2,List.take_of_length_le]
     rw [z1e];omega
   rw [this]
   exact ⟨rfl,rfl,hs⟩
  have h1:n.size=pre.size+12+x.size:=by
   have:¬ (((n.size:Nat):Int)≠((pre.size+12+x.size:Nat):Int)):=λhh=>h (.inl hh)
   omega
  have h2:(bl n).drop (pre.size+12)=bl x:=by
   have h3:ByteArray.extract n (pre.size+12) n.size=x:=by
    apply Decidable.byContradiction
    intro hh
    exact h (.inr (by rw [Int.toNat_natCast];exact hh))
   rw [<- h3,zbq,List.take_of_length_le]
   rw [List.length_drop,z1e];omega
  rw [if_pos ⟨h1,h2⟩] at hb
  refine wp_must (by omega) ?_
  rw [Int.toNat_natCast,Int.toNat_natCast]
  have h4:(ByteArray.extract n (pre.size+1) (pre.size+12)).data.toList=((bl n).drop (pre.size+1)).take 11:=by
   have:=zbq n (pre.size+1) (pre.size+12)
   rw [show pre.size+12-(pre.size+1)=11 by omega] at this
   exact this
  refine znh hs λy w' hs=>?_
  rw [h4] at hs
  generalize hcs:((bl n).drop (pre.size+1)).take 11=cs at *
  have hcl:cs.length=11:=by rw [<- hcs,List.length_take,List.length_drop,z1e];omega
  have hl:=hs.slen y (xs:=cs) (enc:=zk)
  rw [hb]
  refine zm (λq w'=>∃ v:Nat,z3w 0 cs=some v/\q=((v:Int),())/\Sat w' l) ?_ ?_
  rotate_left
  ·rintro _ w2 ⟨v,hv,rfl,hs⟩
   refine wp_lt ?_
   rw [hv]
   exact ⟨rfl,rfl,hs⟩
  refine z0c (λm q w=>∃ i v:Nat,q=((v:Int),((i:Int),()))/\i<=11/\11-i=m/\z3w 0 (cs.take i)=some v/\Sat w (slc T.a52 1 y (cs.flatMap zk)::l)) 11 ⟨0,0,rfl,by omega,rfl,rfl,hs⟩ ?_
  clear hs
  rintro m _ w ⟨i,v,rfl,hi,hm,hv,hs⟩
  refine zl ?_
  refine zf (λhc=>?_) λhc=>?_
  rotate_left
  ·refine zn (zg ⟨v,?_,rfl,hs.tail⟩)
   rwa [List.take_of_length_le (by omega)] at hv
  have hil:i<cs.length:=by omega
  have hvl:=zi7 (k:=0) hv (by omega)
  rw [List.length_take] at hvl
  have hvl2:v<1152921504606846976 / 16:=by
   have h5:16 ^ (0+min i cs.length)<=16 ^ 10:=Nat.pow_le_pow_right (by omega) (by omega)
   omega
  have hstep:z3w 0 (cs.take (i+1))=(z6g cs[i]).map λd=>16*v+d:=by
   rw [List.take_succ_eq_append_getElem hil,zfy,hv]
   show z3w v [cs[i]]=_
   unfold z3w
   cases z6g cs[i] <;> rfl
  have hcut:∀ j,z3w 0 (cs.take j)=none->z3w 0 cs=none:=λj hj=>by
   rw [<- List.take_append_drop j cs,zfy,hj];rfl
  refine z27 hs (xs:=cs) (enc:=zk) i hil ?_
  refine wp_lt ?_
  refine wp_lt ?_
  have hgo:∀ {w:World} (d:Nat),z6g cs[i]=some d->Sat w (slc T.a52 1 y (cs.flatMap zk)::l)->∃ i' v':Nat,((((16*v+d:Nat):Int),(((i+1:Nat):Int),())):Int × Int × Unit)=((v':Int),((i':Int),()))/\i'<=11/\11-i'=11-(i+1)/\z3w 0 (cs.take i')=some v'/\Sat w (slc T.a52 1 y (cs.flatMap zk)::l):=λd hd hs =>
   ⟨i+1,16*v+d,rfl,by omega,rfl,by rw [hstep,hd];rfl,hs⟩
  have hcb:=(cs[i]).toNat_lt
  have ei:IntKind.wrap .i64 ((i:Int)+1)=((i+1:Nat):Int):=by rw [w64 (by omega) (by omega)];omega
  refine zm (λq w'=>∃ d:Nat,z6g cs[i]=some d/\q=(((16*v+d:Nat):Int),())/\Sat w' (slc T.a52 1 y (cs.flatMap zk)::l)) ?_ ?_
  rotate_left
  ·rintro _ w2 ⟨d,hd,rfl,hs⟩
   rw [ei]
   exact z0z (11-(i+1)) (hgo d hd hs)
  have hor:∀ d:Nat,d<16->IntKind.wrap .i64 (((BitVec.toNat (BitVec.ofInt 64 (IntKind.wrap .i64 ((v:Int)*16)) ||| BitVec.ofInt 64 (d:Int)):Nat):Int))=((16*v+d:Nat):Int):=λd hd=>by
   rw [w64 (x:=(v:Int)*16) (by omega) (by omega),z0ah hd (by omega),w64 (by omega) (by omega)]
  refine zf (λh5=>?_) λh5=>?_
  ·have hd:z6g cs[i]=some ((cs[i]).toNat-48):=by unfold z6g;rw [if_pos (by omega)]
   have e5:IntKind.wrap .i64 (IntKind.wrap .u8 ((((cs[i]).toNat:Nat):Int)-48))=(((cs[i]).toNat-48:Nat):Int):=by
    rw [wu8 (by omega) (by omega),w64 (by omega) (by omega)];omega
   rw [e5]
   refine z2a (y:=((16*v+((cs[i]).toNat-48):Nat):Int)) ?_ (hor _ (by omega))
   exact zg ⟨_,hd,rfl,hs⟩
  refine wp_lt ?_
  refine zf (λh6=>?_) λh6=>?_
  ·have hd:z6g cs[i]=some ((cs[i]).toNat-87):=by unfold z6g;rw [if_neg (by omega),if_pos (by omega)]
   have e5:IntKind.wrap .i64 (IntKind.wrap .u8 (IntKind.wrap .u8 ((((cs[i]).toNat:Nat):Int)-97)+10))=(((cs[i]).toNat-87:Nat):Int):=by
    rw [wu8 (x:=(((cs[i]).toNat:Nat):Int)-97) (by omega) (by omega),wu8 (by omega) (by omega),w64 (by omega) (by omega)];omega
   rw [e5]
   refine z2a (y:=((16*v+((cs[i]).toNat-87):Nat):Int)) ?_ (hor _ (by omega))
   exact zg ⟨_,hd,rfl,hs⟩
  ·have hd:z6g cs[i]=none:=by unfold z6g;rw [if_neg (by omega),if_neg (by omega)]
   have hno:z3w 0 cs=none:=hcut (i+1) (by rw [hstep,hd];rfl)
   rw [hno]
   exact zn (zn (zn ⟨rfl,rfl,hs.tail⟩))
theorem zlx (base fin:Int) (hb:0<=base/\base<9223372036854775808) (hf:0<=fin/\fin<9223372036854775808) (hs:Sat w l):Ret P F.a130 #[.int .i64 base,.int .i64 fin] w λvs w'=>∃ z:Sl,vs=[z.v]/\Sat w' (slc T.a52 1 z ((shL base fin).flatMap zk)::l) :=
 zot base fin <| by
  delta z02c AO AT Ak
  refine z9h hs (enc:=zk) [(83:UInt8)] λz1 w' hs=>?_
  refine z8 (z5i base hb hs) λ_ w' hs=>?_
  obtain ⟨z2,rfl,hs⟩:=hs
  refine zd ?_
  refine z8 (z5i fin hf hs) λ_ w' hs=>?_
  obtain ⟨z3,rfl,hs⟩:=hs
  refine zd ?_
  refine z9h hs (enc:=z0k) [z1,z2,z3] λz4 w' hs=>?_
  have u1_:=z22 base
  have u2_:=z22 fin
  have f1:FocR (slc T.a45 1 z4 ([z1,z2,z3].flatMap z0k)::slc T.a52 1 z3 ((uI fin).flatMap zk)::slc T.a52 1 z2 ((uI base).flatMap zk)::slc T.a52 1 z1 (([83]:List UInt8).flatMap zk)::l) z1 1 (([83]:List UInt8).flatMap zk):=inferInstance
  have f2:FocR (slc T.a45 1 z4 ([z1,z2,z3].flatMap z0k)::slc T.a52 1 z3 ((uI fin).flatMap zk)::slc T.a52 1 z2 ((uI base).flatMap zk)::slc T.a52 1 z1 (([83]:List UInt8).flatMap zk)::l) z2 1 ((uI base).flatMap zk):=inferInstance
  have f3:FocR (slc T.a45 1 z4 ([z1,z2,z3].flatMap z0k)::slc T.a52 1 z3 ((uI fin).flatMap zk)::slc T.a52 1 z2 ((uI base).flatMap zk)::slc T.a52 1 z1 (([83]:List UInt8).flatMap zk)::l) z3 1 ((uI fin).flatMap zk):=inferInstance
  refine z8 (zqh z4 [(z1,[83]),(z2,uI base),(z3,uI fin)] (λp hp=>?_) (by show 3<=1000000;omega) hs) λ_ w' hs=>?_
  ·simp only [List.mem_cons,List.not_mem_nil,or_false] at hp
   rcases hp with rfl|rfl|rfl
   ·exact ⟨f1,by show (1:Nat)<=_;omega⟩
   ·exact ⟨f2,by show (uI base).length<=_;omega⟩
   ·exact ⟨f3,by show (uI fin).length<=_;omega⟩
  obtain ⟨z5,rfl,hs⟩:=hs
  refine zd ?_
  refine ⟨rfl,z5,rfl,?_⟩
  have e:([(z1,[83]),(z2,uI base),(z3,uI fin)]:List (Sl × List UInt8)).flatMap Prod.snd=shB base fin:=by simp [shB]
  rw [e] at hs
  have hs:Sat _ (slc T.a52 1 z5 ((shL base fin).flatMap zk)::_):=hs
  exact hs.sub
theorem zz4 (x:Sl) (body:List UInt8) (base:Int) (hb:0<=base/\base<9223372036854775808) [hx:FocR l x 1 (body.flatMap zk)] (hn:body.length<=1000000000) (hs:Sat w l) :
  Ret P F.a131 #[x.v,.int .i64 base] w λvs w'=>∃ v:Int,vs=[.int .i64 v,.bool (z64 base body).isSome]/\(∀ f,z64 base body=some f->v=f)/\Sat w' l :=
 zou x base <| by
  delta z02d AA Aa Af Ah Aj Ak Aw Ax Az Bs Bt
  refine z8 (zx2 x body hn hs) λ_ w' hs=>?_
  obtain ⟨p,rfl,hs⟩:=hs
  refine zd ?_
  refine z8 (zi1 (p:=p) hs) λ_ _ hs=>?_
  obtain ⟨rfl,hs⟩:=hs
  refine zd ?_
  refine z8 (zir (p:=p) hs) λ_ _ hs=>?_
  obtain ⟨rfl,hs⟩:=hs
  refine zd ?_
  refine z8 (zir (p:=p) hs) λ_ _ hs=>?_
  obtain ⟨rfl,hs⟩:=hs
  refine zd ?_
  refine wp_lt ?_
  refine wp_lt ?_
  refine wp_lt ?_
  refine z8 (zwe (p:=p) hs) λ_ w' hs=>?_
  obtain ⟨e,rfl,he,hs⟩:=hs
  refine zd ?_
  have eh:z64 base body=if (z0o (z0o (z11 (some body)).2).2).2=some []/\(z11 (some body)).1=83/\((z0o (z11 (some body)).2).1:Int)=base/\base<=1099511627776/\(z0o (z0o (z11 (some body)).2).2).1<=1099511627776/\((z0o (z0o (z11 (some body)).2).2).1=0\/base<(z0o (z0o (z11 (some body)).2).2).1) then some ((z0o (z0o (z11 (some body)).2).2).1:Int) else none:=rfl
  generalize z64 base body=HS at eh he ⊢
  generalize z11 (some body)=k at eh he ⊢
  generalize z0o k.2=m at eh he ⊢
  generalize z0o m.2=q at eh he ⊢
  have ew:IntKind.wrap .u64 base=base:=ziv (by omega) (by omega)
  rw [ew]
  refine zf (λh=>?_) λh=>?_
  ·have:HS=none:=by
    rw [eh,if_neg]
    rintro ⟨h1,h2,h3,h4,h5,-⟩
    have h6:=he.2 h1
    rcases h with (((h|h)|h)|h)|h
    ·exact h h6
    ·apply h;rw [h2];rfl
    ·exact h h3
    ·omega
    ·omega
   rw [this]
   exact ⟨rfl,0,rfl,(λf hf=>by cases hf),hs⟩
  have h1:q.2=some []:=he.1 (Decidable.byContradiction λhh=>h (.inl (.inl (.inl (.inl hh)))))
  have h2:k.1=83:=by
   have:((k.1:Nat):Int)=83:=Decidable.byContradiction λhh=>h (.inl (.inl (.inl (.inr hh))))
   omega
  have h3:((m.1:Nat):Int)=base:=Decidable.byContradiction λhh=>h (.inl (.inl (.inr hh)))
  have h4:base<=1099511627776:=by
   apply Decidable.byContradiction;intro hh;exact h (.inl (.inr (by omega)))
  have h5:q.1<=1099511627776:=by
   apply Decidable.byContradiction;intro hh;exact h (.inr (by omega))
  rw [w64 (by omega) (by omega)]
  refine wp_lt ?_
  refine wp_lt ?_
  refine ⟨rfl,((q.1:Nat):Int),?_,?_,hs⟩
  ·congr 2
   rw [eh]
   by_cases h6:q.1=0\/base<q.1
   ·rw [if_pos ⟨h1,h2,h3,h4,h5,h6⟩]
    have:(((q.1:Nat):Int) == 0 || decide (((q.1:Nat):Int)>base))=true:=by
     rw [Bool.or_eq_true,beq_iff_eq,decide_eq_true_eq];omega
    rw [this];rfl
   ·rw [if_neg λhh=>h6 hh.2.2.2.2.2]
    have:(((q.1:Nat):Int) == 0 || decide (((q.1:Nat):Int)>base))=false:=by
     rw [Bool.or_eq_false_iff,beq_eq_false_iff_ne,decide_eq_false_iff_not];omega
    rw [this];rfl
  ·intro f hf
   rw [eh] at hf
   split at hf
   ·exact Option.some.inj hf
   ·cases hf
theorem ztd (x:Int) (rs:List RecM) (i:Nat) (hi:i<rs.length):z67 x (rs.take (i+1))=max (z67 x (rs.take i)) rs[i].time:=by
 rw [List.take_succ_eq_append_getElem hi]
 unfold z67
 rw [List.foldl_append]
 rfl
theorem zze (b:BatM) [hb:FocR l b.x 4 (b.rs.flatMap zu)] (hlen:b.rs.length<=1000000000) (hs:Sat w l):Ret P F.a132 #[.agg (z00 b).toArray] w λvs w'=>vs=[.int .i64 (z3d b)]/\Sat w' l :=
 zov b.base b.pid b.epoch b.seq b.kind b.time b.x <| by
  delta z02e AI AL AM AP Aa Ab Ac Af Ai Aj Ak An Aw Ay Ba Bd
  have hl:=hs.slen b.x (xs:=b.rs) (enc:=zu)
  refine zr hs λa0 w' hs=>?_
  refine zb hs ?_
  refine zm (λq w'=>q=(z67 (-1) b.rs,())/\Sat w' (pt a0 (.cells (cB b) T.a0)::l)) ?_ ?_
  ·refine z0c (λm v w=>∃ i:Nat,v=(z67 (-1) (b.rs.take i),((i:Int),()))/\i<=b.rs.length/\b.rs.length-i=m/\Sat w (pt a0 (.cells (cB b) T.a0)::l)) b.rs.length ⟨0,rfl,by omega,rfl,hs⟩ ?_
   clear hs
   rintro m _ w ⟨i,rfl,hi,hm,hs⟩
   refine zl ?_
   refine zf (λhc=>?_) λhc=>?_
   rotate_left
   ·refine zn (zg ⟨?_,hs⟩)
    rw [List.take_of_length_le (by omega)]
   have hil:i<b.rs.length:=by omega
   refine z2v hs (xs:=b.rs) (enc:=zu) i hil ?_
   refine zt hs λc w' hs=>?_
   refine zv hs λw' hs=>?_
   refine zb hs ?_
   refine z2a (y:=z67 (-1) (b.rs.take (i+1))) ?_ (by rw [ztd _ _ _ hil];split <;> omega)
   rw [wS (i:=i) (by omega)]
   exact z0z (b.rs.length-(i+1)) ⟨i+1,rfl,by omega,rfl,hs.sub⟩
  clear hs
  rintro _ w ⟨rfl,hs⟩
  refine zl ?_
  refine zb hs ?_
  refine zm (λq w'=>q=(z3d b,())/\Sat w' (pt a0 (.cells (cB b) T.a0)::l)) ?_ ?_
  ·unfold z3d
   refine zf (λh=>?_) λh=>?_
   ·refine zb hs ?_
    refine wp_lt ?_
    refine zg ⟨?_,hs⟩
    rw [if_pos (List.length_eq_zero_iff.1 (by omega))]
   ·refine zg ⟨?_,hs⟩
    rw [if_neg (by rintro h0;rw [h0] at hl;simp at hl;omega)]
  rintro _ w2 ⟨rfl,hs⟩
  refine wp_lt ?_
  exact ⟨rfl,rfl,hs.tail⟩
theorem z06l (seg gap:Int) (hs:Sat w l):Ret P F.a133 #[.agg #[.int .i64 seg,.int .i64 gap]] w λvs w'=>vs=[.bool (decide ((64<=seg/\seg<=4194304)/\(1<=gap/\gap<=4194304)))]/\Sat w' l :=
 zow seg gap <| by
  delta z02f AP Ai Ak Ao Ax Bg
  refine zr hs λa0 w' hs=>?_
  refine zb hs ?_
  refine zb hs ?_
  refine zb hs ?_
  refine zb hs ?_
  refine wp_lt ?_
  refine ⟨rfl,?_,hs.tail⟩
  congr 2
  rw [Bool.eq_iff_iff,decide_eq_true_iff]
  simp only [Bool.and_eq_true,decide_eq_true_eq]
  omega
theorem z006 (s:ByteArray) (hs:Sat w l):Ret P F.a129 #[.string s] w λvs w'=>vs=[.bool (z17 s)]/\Sat w' l :=
 zos s <| by
  delta z02b AO Aa Aj Ak Al Am An Aw BK BL
  unfold z17
  refine zf (λh=>?_) λh=>?_
  ·rw [decide_eq_false (by omega),Bool.false_and]
   exact ⟨rfl,rfl,hs⟩
  rw [decide_eq_true (by omega),Bool.true_and]
  refine znh hs λx w' hs=>?_
  have hl:=hs.slen x (xs:=bl s) (enc:=zk)
  have hsz:=z1e s
  refine zm (λ_ w'=>((bl s).all λc=>(97<=c.toNat && c.toNat<=122) || (48<=c.toNat && c.toNat<=57))=true/\Sat w' l) ?_ ?_
  rotate_left
  ·rintro _ w2 ⟨h2,hs⟩
   rw [h2]
   exact ⟨rfl,rfl,hs⟩
  refine z0c (λm v w=>∃ i:Nat,v=((i:Int),())/\i<=(bl s).length/\(bl s).length-i=m/\(((bl s).take i).all λc=>(97<=c.toNat && c.toNat<=122) || (48<=c.toNat && c.toNat<=57))=true/\Sat w (slc T.a52 1 x ((bl s).flatMap zk)::l)) (bl s).length ⟨0,rfl,by omega,rfl,rfl,hs⟩ ?_
  clear hs
  rintro m _ w ⟨i,rfl,hi,hm,hall,hs⟩
  refine zl ?_
  refine zf (λhc=>?_) λhc=>?_
  rotate_left
  ·refine zn (zg ⟨?_,hs.tail⟩)
   rwa [List.take_of_length_le (by omega)] at hall
  have hil:i<(bl s).length:=by omega
  refine z27 hs (xs:=bl s) (enc:=zk) i hil ?_
  refine wp_lt ?_
  have hstep:(((bl s).take (i+1)).all λc=>(97<=c.toNat && c.toNat<=122) || (48<=c.toNat && c.toNat<=57))=((97<=(bl s)[i].toNat && (bl s)[i].toNat<=122) || (48<=(bl s)[i].toNat && (bl s)[i].toNat<=57)):=by
   rw [List.take_succ_eq_append_getElem hil,List.all_append,hall]
   simp
  refine zdw (λh3=>?_) λh3=>?_
  ·refine zn (zn ⟨rfl,?_,hs.tail⟩)
   have hf:((97<=(bl s)[i].toNat && (bl s)[i].toNat<=122) || (48<=(bl s)[i].toNat && (bl s)[i].toNat<=57))=false:=by
    rw [Bool.eq_false_iff]
    intro hh
    simp only [Bool.not_eq_true',Bool.or_eq_false_iff,Bool.and_eq_false_iff,decide_eq_false_iff_not] at h3
    simp only [Bool.or_eq_true,Bool.and_eq_true,decide_eq_true_eq] at hh
    omega
   have:((bl s).all λc=>(97<=c.toNat && c.toNat<=122) || (48<=c.toNat && c.toNat<=57))=false:=by
    rw [<- List.take_append_drop (i+1) (bl s),List.all_append,hstep,hf]
    rfl
   rw [this]
  ·rw [wS (i:=i) (by omega)]
   refine z0z ((bl s).length-(i+1)) ⟨i+1,rfl,by omega,rfl,?_,hs⟩
   rw [hstep]
   simp only [Bool.not_eq_false',Bool.or_eq_true,Bool.and_eq_true,decide_eq_true_eq] at h3
   simp only [Bool.or_eq_true,Bool.and_eq_true,decide_eq_true_eq]
   omega
end
instance (priority:=low) AddrIs.adds {a:Addr} {b off n:Nat} [h:AddrIs a b off]:AddrIs (a.add n) b (off+n):=⟨by rw [h.ok,z23]⟩
section
variable {P:Program} {w:World} {Q:Post} {S:World->Prop}
theorem zti {g:Prop} {o:Option Addr} {f:Addr->Prog} (h:(f ⟨0,0,none⟩).wp P S w Q) (hg:¬ g):(Prog.ex [.adr] (c1 λx=>g->o=some x) (u1 f)).wp P S w Q:=⟨(⟨0,0,none⟩,()),λh=>absurd h hg,h⟩
theorem zth {g:Prop} {m:Sem Value} {p:Pr} {f:p.D->Prog} (x:p.D) (hg:¬ g) (h:(f x).wp P S w Q):(Prog.read g m (.one (.one p)) (u1 f)).wp P S w Q:=⟨(x,()),λh=>absurd h hg,h⟩
end
def SegA.add (s:SegA) (bs:List BatM):SegA:=⟨s.base,s.fin,s.bs++bs.map BatM.p⟩
theorem zhz (s:SegA):s.add []=s:=by unfold SegA.add;simp
theorem add_add (s:SegA) (a b:List BatM):(s.add a).add b=s.add (a++b):=by unfold SegA.add;simp
theorem zlv (bs:List BatM):(bs.map BatM.p).flatMap frL=bs.flatMap frL:=by
 rw [List.flatMap_map];rfl
theorem z7b (s:SegA) (bs:List BatM):(s.add bs).file=s.file++bs.flatMap frL:=by
 unfold SegA.file SegA.add
 simp only [List.flatMap_append,zlv,List.append_assoc]
theorem z049 (gap:Int) (s:SegA) (b:BatM):(s.add [b]).idx gap=(zai (s.idx gap) b.base (s.file.length:Nat) (z3d b)).2:=by
 unfold SegA.idx SegA.add
 show zbw (zda gap) _ (s.bs++[b.p])=_
 rw [zdb,z2r]
 rw [show ((((shL s.base s.fin).length+(s.bs.flatMap frL).length:Nat)):Int)=((shL s.base s.fin).length:Int)+((s.bs.flatMap frL).length:Int) by omega]
 rfl
theorem zav {α β:Type} (f:α->β) (l:List α):(l.map f).getLast? = l.getLast?.map f:=by simp
section
variable {w:World} {l r:List HP} {lg:Nat} {M:LogM} {A:LogA} {gap:Int} {a:Nat} {t:SegM}
theorem z04y [hf:Fo l (z0q gap) a t r] (hs:Sat w l):Ret P F.a135 #[.pointer (some ⟨a,0,none⟩)] w λvs w'=>vs=[.int .i64 t.s.reach]/\Sat w' (z0q gap a t::r) :=
 zoy _ <| by
  delta z02h AC AG AP AY Aa Af Ak
  have hs:=z47 (hs.perm hf.perm)
  refine z02 hs λw' hs=>?_
  refine zi ?_
  refine zb hs ?_
  refine zi ?_
  refine zb hs ?_
  refine zi ?_
  refine zb hs ?_
  refine z2a (y:=t.s.reach) ?_ (by unfold SegA.reach;split <;> split <;> omega)
  refine ze ?_
  exact ⟨rfl,rfl,z2u t hs⟩
theorem zmb (base fin:Int) (hb:0<=base/\base<9223372036854775808) (hf':0<=fin/\fin<9223372036854775808) [hf:Fo l lgQ lg M r] (hs:Sat w l) :
  Ret P F.a126 #[.pointer (some ⟨lg,0,none⟩),.int .i64 base,.int .i64 fin] w λvs w'=>∃ a ix,vs=[.pointer (some ⟨a,0,none⟩)]/\Sat w' (z0q M.gap a ⟨ix,⟨base,fin,[]⟩⟩::lgQ lg M::r) :=
 zop _ base fin <| by
  delta z028 AP AT AY Aa Ae Af Ah Ai Ak An Ar
  obtain ⟨hok,hs⟩:=z2y (hs.perm hf.perm)
  refine zi ?_
  refine zb hs ?_
  refine z8 (z06g M.gap hok.gap hs) λ_ w' hs=>?_
  obtain ⟨ix,rfl,hs⟩:=hs
  refine zd ?_
  refine wp_lt ?_
  refine z8 (zlx base fin hb hf' hs) λ_ w' hs=>?_
  obtain ⟨z,rfl,hs⟩:=hs
  refine zd ?_
  have hl:=hs.slen z (xs:=shL base fin) (enc:=zk)
  refine zr hs λa w' hs=>?_
  refine ⟨rfl,a,ix,rfl,?_⟩
  have hs:Sat w' (pt a (.cells #[.pointer (some ⟨ix,0,none⟩),.int .i64 base,.int .i64 fin,.int .i64 (z0i []),.int .i64 (z1i (-1) []),.int .i64 ((SegA.file ⟨base,fin,[]⟩).length:Nat)] T.a48)::slc T.a52 1 z ((shL base fin).flatMap zk)::z2j ix ((SegA.mk base fin []).idx M.gap)::pt lg (.cells #[.pointer (some ⟨M.d,0,none⟩),.string M.pre,.int .i64 M.seg,.int .i64 M.gap,.slice M.z.a M.z.len M.z.cap] T.a47)::slc T.a32 1 M.z ((M.SM.map Prod.fst).flatMap z1w)::HP.all (M.SM.map λt=>z0q M.gap t.1 t.2)::r):=by
   have e:(SegA.file ⟨base,fin,[]⟩).length=z.len:=by rw [z2r,hl];simp
   rw [e]
   exact hs
  have hs:=z1r M hok (hs.pick [3,3,3])
  exact z2u ⟨ix,⟨base,fin,[]⟩⟩ (hs.sub)
theorem zxs (b:BatM) (hv:zy b=0) [hf:Fo l (z0q gap) a t r] [hb:FocR r b.x 4 (b.rs.flatMap zu)] (hlen:t.s.file.length+(frL b).length<=1000000000) (hs:Sat w l) :
  Ret P F.a136 #[.pointer (some ⟨a,0,none⟩),.agg (z00 b).toArray,.int .i64 ((frL b).length:Nat)] w λvs w'=>vs=[]/\Sat w' (z0q gap a ⟨t.ix,t.s.add [b]⟩::r) :=
 zoz _ b.base b.pid b.epoch b.seq b.kind b.time b.x _ <| by
  delta z02i AA AB AC AG AH AP AY Aa Af Ah Ai Ak Aw Ba Bb
  obtain ⟨h64,-⟩:=z2e hv
  obtain ⟨-,-,⟨-,hba,-⟩,-,-⟩:=z15 b hv
  have hs:=z47 (hs.perm hf.perm)
  refine zr hs λa0 w' hs=>?_
  refine zj hs ?_
  refine z8 (zze b (by omega) hs) λ_ w' hs=>?_
  obtain ⟨rfl,hs⟩:=hs
  refine zd ?_
  refine wp_lt ?_
  refine z02 hs λw' hs=>?_
  refine zi ?_
  refine zb hs ?_
  refine zb hs ?_
  refine zi ?_
  refine zb hs ?_
  refine z8 (z06p (b:=t.ix) b.base ((t.s.file.length:Nat):Int) (z3d b) (by omega) (by omega) hs) λ_ w' hs=>?_
  obtain ⟨rfl,hs⟩:=hs
  refine zd ?_
  refine ze ?_
  refine zj hs ?_
  refine z8 (z9d b hs) λ_ w' hs=>?_
  obtain ⟨rfl,hs⟩:=hs
  refine zd ?_
  refine zi ?_
  refine z08 hs λw' hs=>?_
  refine zi ?_
  refine zb hs ?_
  refine zi ?_
  refine z08 hs λw' hs=>?_
  refine zi ?_
  refine zb hs ?_
  refine zi ?_
  rw [w64 (by omega) (by omega)]
  refine z08 hs λw' hs=>?_
  refine ⟨rfl,rfl,?_⟩
  have e1:z1s b=z0i (t.s.add [b]).bs:=by
   show _=z0i (t.s.bs++[b.p])
   rw [z3x]
   unfold z1s
   rw [if_neg (by rw [hv];simp)]
   rfl
  have e2:(if z3d b>z1i (-1) t.s.bs then z3d b else z1i (-1) t.s.bs)=z1i (-1) (t.s.add [b]).bs:=by
   show _=z1i (-1) (t.s.bs++[b.p])
   rw [zh6]
   show _=max _ (z3d b)
   split <;> omega
  have e3:((t.s.file.length:Nat):Int)+((frL b).length:Nat)=(((t.s.add [b]).file.length:Nat):Int):=by
   rw [z7b,List.length_append];simp
  rw [e1,e2,e3,<- z049] at hs
  have hs:Sat w' (pt a (.cells #[.pointer (some ⟨t.ix,0,none⟩),.int .i64 (t.s.add [b]).base,.int .i64 (t.s.add [b]).fin,.int .i64 (z0i (t.s.add [b]).bs),.int .i64 (z1i (-1) (t.s.add [b]).bs),.int .i64 ((t.s.add [b]).file.length:Nat)] T.a48)::_):=hs
  refine z2u ⟨t.ix,t.s.add [b]⟩ ?_
  exact hs.sub
theorem zh5 [hf:Fo l lgQ lg M r] (hlen:M.SM.length<=1000000000) (hs:Sat w l):Ret P F.a121 #[.pointer (some ⟨lg,0,none⟩)] w λvs w'=>vs=[.pointer (z007 (M.SM.getLast?.map Prod.fst))]/\Sat w' (lgQ lg M::r) :=
 zok _ <| by
  delta z023 AB AC AG AI AY Ah Aj Ak An Aw
  obtain ⟨hok,hs⟩:=z2y (hs.perm hf.perm)
  have hl:=hs.slen M.z (xs:=M.SM.map Prod.fst) (enc:=z1w)
  rw [List.length_map] at hl
  refine zi ?_
  refine zb hs ?_
  refine zf (λh=>?_) λh=>?_
  ·have:M.SM=[]:=List.length_eq_zero_iff.1 (by omega)
   rw [this]
   rw [this] at hs
   have hs:=z1r M hok (by rw [this];exact hs)
   exact ⟨rfl,rfl,hs⟩
  have h0:0<M.SM.length:=by omega
  refine z02 hs λw' hs=>?_
  refine zi ?_
  refine zb hs ?_
  refine zi ?_
  refine zb hs ?_
  rw [w64 (by omega) (by omega)]
  refine z27 hs (xs:=M.SM.map Prod.fst) (enc:=z1w) (M.SM.length-1) (by rw [List.length_map];omega) ?_
  refine ze ?_
  refine ⟨rfl,?_,z1r M hok hs⟩
  have e:M.SM.getLast?.map Prod.fst=some ((M.SM.map Prod.fst)[M.SM.length-1]'(by rw [List.length_map];omega)):=by
   rw [List.getLast?_eq_getElem?,List.getElem?_eq_getElem (by omega)]
   simp
  rw [e]
  rfl
theorem z9w {SM:List (Nat × SegM)} (hs:Sat w (HP.all (SM.map λt=>z0q gap t.1 t.2)::l)) {i:Nat} (hi:i<SM.length) :
  Sat w (z0q gap SM[i].1 SM[i].2::HP.all ((SM.eraseIdx i).map λt=>z0q gap t.1 t.2)::l):=by
 exact ((hs.all_perm ((z76 hi).map _))).all_cons
theorem z7f {SM:List (Nat × SegM)} {i:Nat} (hi:i<SM.length) (hs:Sat w (z0q gap SM[i].1 SM[i].2::HP.all ((SM.eraseIdx i).map λt=>z0q gap t.1 t.2)::l)) :
  Sat w (HP.all (SM.map λt=>z0q gap t.1 t.2)::l):=by
 have h1:Sat w (HP.all ((SM[i]::SM.eraseIdx i).map λt=>z0q gap t.1 t.2)::l):=hs.all_put
 exact h1.all_perm ((z76 hi).symm.map _)
theorem zi4 [hf:Fo l lgQ lg M r] (hs:Sat w l):Ret P F.a111 #[.pointer (some ⟨lg,0,none⟩)] w λvs w'=>vs=[.int .i64 (z14 M.l)]/\Sat w' (lgQ lg M::r) :=
 zoa _ <| by
  delta z01t AB AI AP AY Aa Af Aj Ak An B1 Bk
  obtain ⟨hok,hs⟩:=z2y (hs.perm hf.perm)
  have hl:=hs.slen M.z (xs:=M.SM.map Prod.fst) (enc:=z1w)
  rw [List.length_map] at hl
  refine z0n ?_
  refine zb hs ?_
  refine zf (λh=>?_) λh=>?_
  ·have h:M.SM=[]:=by
    rcases h with h|h
    ·cases h
    ·exact List.length_eq_zero_iff.1 (by omega)
   have e:z14 M.l=0:=by unfold LogM.l;rw [h];rfl
   rw [e]
   exact ⟨rfl,rfl,z1r M hok hs⟩
  have h0:0<M.SM.length:=by
   apply Nat.pos_of_ne_zero
   intro h1
   exact h (.inr (by omega))
  refine zi ?_
  refine zb hs ?_
  refine z8g hs (xs:=M.SM.map Prod.fst) (enc:=z1w) 0 (by rw [List.length_map];exact h0) ?_ rfl rfl
  have e0:(M.SM.map Prod.fst)[0]'(by rw [List.length_map];exact h0)=M.SM[0].1:=by simp
  rw [e0]
  refine zi ?_
  have hs:=z47 (z9w (hs.pick [2]) h0)
  refine zb hs ?_
  refine wp_lt ?_
  have e:z14 M.l=M.SM[0].2.s.base:=by
   obtain ⟨x,xs,hx⟩:=List.exists_cons_of_length_pos h0
   simp only [LogM.l,hx,List.map_cons,z14,List.getElem_cons_zero]
  rw [e]
  refine ⟨rfl,rfl,?_⟩
  have hs:=z7f h0 (z2u M.SM[0].2 hs)
  exact z1r M hok (hs.pick [1,1])
theorem zbf [hf:Fo l lgQ lg M r] (hlen:M.SM.length<=1000000000) (hs:Sat w l):Ret P F.a112 #[.pointer (some ⟨lg,0,none⟩)] w λvs w'=>vs=[.int .i64 (zh M.l)]/\Sat w' (lgQ lg M::r) :=
 zob _ <| by
  delta z01u AA Aa Af Ah Aj Ak An Az B1 Bk
  obtain ⟨hok,hs⟩:=z2y (hs.perm hf.perm)
  have hl:=hs.slen M.z (xs:=M.SM.map Prod.fst) (enc:=z1w)
  rw [List.length_map] at hl
  refine z0n ?_
  refine zb hs ?_
  refine zf (λh=>?_) λh=>?_
  ·have h:M.SM=[]:=by
    rcases h with h|h
    ·cases h
    ·exact List.length_eq_zero_iff.1 (by omega)
   have e:zh M.l=0:=by unfold LogM.l;rw [h];rfl
   rw [e]
   exact ⟨rfl,rfl,z1r M hok hs⟩
  have h0:0<M.SM.length:=by
   apply Nat.pos_of_ne_zero
   intro h1
   exact h (.inr (by omega))
  have hs:=z1r M hok hs
  refine z8 (zh5 (lg:=lg) hlen hs) λ_ w' hs=>?_
  obtain ⟨rfl,hs⟩:=hs
  refine zd ?_
  have e1:M.SM.getLast? = some (M.SM[M.SM.length-1]'(by omega)):=by
   rw [List.getLast?_eq_getElem?,List.getElem?_eq_getElem (by omega)]
  rw [e1]
  obtain ⟨-,hs⟩:=z2y hs
  have hs:=z9w (hs.pick [2]) (show M.SM.length-1<M.SM.length by omega)
  refine z8 (z04y (gap:=M.gap) (a:=M.SM[M.SM.length-1].1) hs) λ_ w' hs=>?_
  obtain ⟨rfl,hs⟩:=hs
  refine zd ?_
  refine wp_lt ?_
  have e:zh M.l=(M.SM[M.SM.length-1]'(by omega)).2.s.reach:=by
   unfold LogM.l zh
   rw [zav,e1]
   rfl
  rw [e]
  have hs:=z7f (show M.SM.length-1<M.SM.length by omega) hs
  exact ⟨rfl,rfl,z1r M hok (hs.pick [1,1])⟩
def z77 (seg:Int) (l:List SegA) (n:Nat):Bool:=match l.getLast? with
 | none=>false
 | some s=>decide (z0i s.bs=0) || decide (((s.file.length+n:Nat):Int)<=seg)
theorem z068 (n:Nat) (hn:n<=1000000000) [hf:Fo l lgQ lg M r] (hlen:M.SM.length<=1000000000) (hfl:∀ s ∈ M.l,s.file.length<=1000000000) (hs:Sat w l):Ret P F.a120 #[.pointer (some ⟨lg,0,none⟩),.int .i64 (n:Int)] w λvs w'=>vs=[.bool (z77 M.seg M.l n)]/\Sat w' (lgQ lg M::r) :=
 zoj _ _ <| by
  delta z022 AC AG Ah Ak Ao Aw Ax Az Bk
  refine z8 (zh5 (lg:=lg) hlen hs) λ_ w' hs=>?_
  obtain ⟨rfl,hs⟩:=hs
  refine zd ?_
  refine z02 hs λw' hs=>?_
  by_cases h0:M.SM=[]
  ·have e:z77 M.seg M.l n=false:=by unfold LogM.l z77;rw [h0];rfl
   rw [e,h0]
   refine zti ?_ (λh=>by cases h)
   refine zth (0:Int) (λh=>by cases h) ?_
   refine zti ?_ (λh=>by cases h.1)
   refine zth (0:Int) (λh=>by cases h.1) ?_
   refine zti ?_ (λh=>by cases h.1)
   refine zth (0:Int) (λh=>by cases h.1) ?_
   refine wp_lt ?_
   refine ze ?_
   exact ⟨rfl,rfl,hs⟩
  have hp:=List.length_pos_iff.2 h0
  have e1:M.SM.getLast? = some (M.SM[M.SM.length-1]'(by omega)):=by
   rw [List.getLast?_eq_getElem?,List.getElem?_eq_getElem (by omega)]
  have e:z77 M.seg M.l n=(decide (z0i (M.SM[M.SM.length-1]'(by omega)).2.s.bs=0) || decide ((((M.SM[M.SM.length-1]'(by omega)).2.s.file.length+n:Nat):Int)<=M.seg)):=by
   unfold LogM.l z77
   rw [zav,e1]
   rfl
  have hfl':=hfl _ (List.mem_map.2 ⟨_,List.getElem_mem (show M.SM.length-1<M.SM.length by omega),rfl⟩)
  rw [e,e1]
  obtain ⟨hok,hs⟩:=z2y hs
  have hs:=z47 (z9w (hs.pick [2]) (show M.SM.length-1<M.SM.length by omega))
  refine z0n ?_
  refine zb hs ?_
  refine z0n ?_
  refine zb hs ?_
  refine z0n ?_
  refine zb hs ?_
  rw [w64 (by omega) (by omega)]
  refine wp_lt ?_
  refine ze ?_
  have hs:=z7f (show M.SM.length-1<M.SM.length by omega) (z2u (M.SM[M.SM.length-1]'(by omega)).2 hs)
  refine ⟨rfl,?_,z1r M hok (hs.pick [1,1])⟩
  rfl
theorem z01c (a:Nat) (t:SegM) {r0:List HP} [hf:Fo l lgQ lg M r0] [hf2:Fo r0 (z0q M.gap) a t r] (hlen:M.SM.length<=1000000000) (hs:Sat w l) :
  Ret P F.a124 #[.pointer (some ⟨lg,0,none⟩),.pointer (some ⟨a,0,none⟩)] w λvs w'=>∃ z:Sl,vs=[]/\Sat w' (lgQ lg { M with z:=z,SM:=M.SM++[(a,t)] }::r) :=
 zon _ _ <| by
  delta z026 AH AI AO AY Ah Ak
  obtain ⟨hok,hs⟩:=z2y (hs.perm (hf.perm.trans (.cons _ hf2.perm)))
  have hl:=hs.slen M.z (xs:=M.SM.map Prod.fst) (enc:=z1w)
  refine zi ?_
  refine zb hs ?_
  refine z5j (xs:=M.SM.map Prod.fst) (enc:=z1w) (y:=a) hs (λz w' hs=>?_) rfl (by rw [List.length_map];omega)
  refine zi ?_
  refine z08 hs λw' hs=>?_
  refine ⟨rfl,z,rfl,?_⟩
  have hs:Sat w' (pt lg (.cells #[.pointer (some ⟨M.d,0,none⟩),.string M.pre,.int .i64 M.seg,.int .i64 M.gap,.slice z.a z.len z.cap] T.a47)::slc T.a32 1 z ((M.SM.map Prod.fst++[a]).flatMap z1w)::HP.all (M.SM.map λt=>z0q M.gap t.1 t.2)::z0q M.gap a t::r):=hs
  have h1:Sat w' (HP.all (((a,t)::M.SM).map λt=>z0q M.gap t.1 t.2)::pt lg (.cells #[.pointer (some ⟨M.d,0,none⟩),.string M.pre,.int .i64 M.seg,.int .i64 M.gap,.slice z.a z.len z.cap] T.a47)::slc T.a32 1 z ((M.SM.map Prod.fst++[a]).flatMap z1w)::r):=(hs.pick [3,2]).all_put
  have h2:=h1.all_perm ((List.perm_append_comm (l₁:=[(a,t)]) (l₂:=M.SM)).map λt=>z0q M.gap t.1 t.2)
  refine z1r { M with z:=z,SM:=M.SM++[(a,t)] } hok ?_
  have e:(M.SM++[(a,t)]).map Prod.fst=M.SM.map Prod.fst++[a]:=by simp
  show Sat w' (pt lg _::slc T.a32 1 z (((M.SM++[(a,t)]).map Prod.fst).flatMap z1w)::HP.all ((M.SM++[(a,t)]).map λt=>z0q M.gap t.1 t.2)::r)
  rw [e]
  exact h2.pick [1,1]
end
theorem z0h.mem:∀ {n:Int} {l:List SegA},z0h n l->∀ s ∈ l,SegOk s/\n<=s.base
 | _,a::l,⟨h1,h2,h3⟩,s,hs=>by
  rcases List.mem_cons.1 hs with rfl|hs
  ·exact ⟨h2,h1⟩
  ·have:=h3.mem s hs
   exact ⟨this.1,by omega⟩
def z0f (pre:ByteArray) (l:List SegA) (D:DiskA):Int × DiskA:=match l.getLast? with
 | none=>(0,D)
 | some s=>z1z D [zo pre s.base zw]
def BatM.to (b:BatM) (n:Int):BatM:=⟨n,b.pid,b.epoch,b.seq,b.kind,b.time,b.x,b.rs⟩
def zx:Int->List BatM->Int × List BatM
 | _,[]=>(0,[])
 | n,b::bs=>if zy (b.to n)≠0 then (zy (b.to n),[]) else if (zx (n+zp b) bs).1≠0 then ((zx (n+zp b) bs).1,[]) else (0,b.to n::(zx (n+zp b) bs).2)
def frP (p:Sl × List UInt8):HP:=slc T.a52 1 p.1 (p.2.flatMap zk)
theorem zdk:∀ {bs:List BatM} {n:Int},(zx n bs).1=0->(zx n bs).2.length=bs.length/\(∀ b ∈ (zx n bs).2,zy b=0/\∃ c ∈ bs,b.x=c.x/\b.rs=c.rs)/\∀ b,(zx n bs).2.head? = some b->b.base=n
 | [],n,_=>⟨rfl,(λ_ h=>by cases h),(λ_ h=>by cases h)⟩
 | b::bs,n,h=>by
  unfold zx at h ⊢
  by_cases h1:zy (b.to n)≠0
  ·rw [if_pos h1] at h;exact absurd h h1
  rw [if_neg h1] at h ⊢
  by_cases h2:(zx (n+zp b) bs).1≠0
  ·rw [if_pos h2] at h;exact absurd h h2
  rw [if_neg h2]
  obtain ⟨i1,i2,-⟩:=zdk (Decidable.not_not.1 h2)
  refine ⟨by simp [i1],λc hc=>?_,λc hc=>?_⟩
  ·rcases List.mem_cons.1 hc with rfl|hc
   ·exact ⟨Decidable.not_not.1 h1,b,List.mem_cons_self ..,rfl,rfl⟩
   ·obtain ⟨v,d,hd,e⟩:=i2 c hc
    exact ⟨v,d,List.mem_cons_of_mem _ hd,e⟩
  ·simp at hc;subst hc;rfl
theorem zq8:∀ {bs:List BatM},(∀ b ∈ bs,zy b=0)->(bs.flatMap frL).length<=bs.length*262152
 | [],_=>by simp
 | b::bs,h=>by
  have h1:=z5b (h b (List.mem_cons_self ..))
  have h2:=z68 (h b (List.mem_cons_self ..))
  have h3:=zq8 λx hx=>h x (List.mem_cons_of_mem _ hx)
  rw [List.flatMap_cons,List.length_append,List.length_cons]
  omega
section
variable {w:World} {l r:List HP} {lg:Nat} {M:LogM} {D:DiskA} {gap:Int} {a:Nat} {t:SegM}
theorem zgm {fs:List (Sl × List UInt8)} {p:Sl × List UInt8} (hp:p ∈ fs) [hf:Foc l (HP.all (fs.map frP)) r]:FocR l p.1 1 (p.2.flatMap zk):=⟨λw hs=>by
 obtain ⟨L,hs⟩:=(hs.perm hf.perm).all_mem hp
 exact Sat.rd hs⟩
theorem zmp:∀ {fs gs:List (Sl × List UInt8)},(∀ p ∈ gs,FocR l p.1 1 (p.2.flatMap zk))->za5 l (gs.map Prod.fst) (gs.map Prod.snd)
 | _,[],_=>trivial
 | fs,p::gs,h=>⟨(h p (List.mem_cons_self ..)).rd,zmp (fs:=fs) λq hq=>h q (List.mem_cons_of_mem _ hq)⟩
theorem zqt {r1:List HP} [hf:Fo l lgQ lg M r1] [hf2:Fo r1 dk M.d D r] (hlen:M.SM.length<=1000000000) (hok:z0h 0 M.l) (hs:Sat w l) :
  Ret P F.a116 #[.pointer (some ⟨lg,0,none⟩)] w λvs w'=>vs=[.int .i64 (z0f M.pre M.l D).1]/\Sat w' (lgQ lg M::dk M.d (z0f M.pre M.l D).2::r) :=
 zof _ <| by
  delta z01y AA AC AF AG AO AP AY Aa Af Ah Aj Ak Ay Az Bc
  have hs:=hs.perm (hf.perm.trans (.cons _ hf2.perm))
  refine z03 ?_ (by simp)
  refine z8 (zh5 (lg:=lg) hlen hs) λ_ w' hs=>?_
  obtain ⟨rfl,hs⟩:=hs
  refine zd ?_
  by_cases h0:M.SM=[]
  ·have e:z0f M.pre M.l D=(0,D):=by unfold LogM.l z0f;rw [h0];rfl
   rw [e,h0]
   refine z03 ?_ (by simp [z007])
   exact ⟨rfl,rfl,hs⟩
  have hp:=List.length_pos_iff.2 h0
  have hsz:M.SM.length-1<M.SM.length:=by omega
  have e1:M.SM.getLast? = some (M.SM[M.SM.length-1]'hsz):=by
   rw [List.getLast?_eq_getElem?,List.getElem?_eq_getElem (by omega)]
  have e:z0f M.pre M.l D=z1z D [zo M.pre (M.SM[M.SM.length-1]'hsz).2.s.base zw]:=by
   unfold LogM.l z0f
   rw [zav,e1]
   rfl
  have hmem:(M.SM[M.SM.length-1]'hsz).2.s ∈ M.l:=List.mem_map.2 ⟨_,List.getElem_mem hsz,rfl⟩
  have hbase:=(hok.mem _ hmem).1.base
  rw [e,e1]
  obtain ⟨hokm,hs⟩:=z2y hs
  have hpre:M.pre.size<=100:=by
   have:=hokm.pre
   unfold z17 at this
   rw [Bool.and_eq_true,decide_eq_true_eq] at this
   omega
  refine z0u ?_ (by simp [z007])
  have hs:=z47 (z9w (hs.pick [2]) hsz)
  refine zm (λq w'=>q=((z1z D [zo M.pre (M.SM[M.SM.length-1]'hsz).2.s.base zw]).1,())/\Sat w' (lgQ lg M::dk M.d (z1z D [zo M.pre (M.SM[M.SM.length-1]'hsz).2.s.base zw]).2::r)) ?_ ?_
  rotate_left
  ·rintro _ w2 ⟨rfl,hs⟩
   exact ⟨rfl,rfl,hs⟩
  refine z02 hs λw' hs=>?_
  refine zi ?_
  refine z0s hs ?_
  refine zi ?_
  refine zb hs ?_
  refine z8 (z89 (lg:=lg) _ (by omega) (ByteArray.mk #[46,108,111,103]) (by decide) M.pre hpre hs) λ_ w' hs=>?_
  obtain ⟨rfl,hs⟩:=hs
  refine zd ?_ (by first|trivial|(repeat (first|exact trivial|exact λ_=>z07 hs|exact λ_=>z0d hs|refine And.intro ?_ ?_)))
  refine z61 hs (enc:=z1k) [zo M.pre (M.SM[M.SM.length-1]'hsz).2.s.base zw] λy w' hs=>⟨(by first|trivial|(repeat (first|exact trivial|exact λ_=>z07 hs|exact λ_=>z0d hs|refine And.intro ?_ ?_))),?_⟩
  refine ze ?_
  refine z8 (z078 (d:=M.d) y [zo M.pre (M.SM[M.SM.length-1]'hsz).2.s.base zw] (by show 1<=100000;omega) hs) λ_ w' hs=>?_
  obtain ⟨rfl,hs⟩:=hs
  refine zd ?_
  refine wp_lt ?_
  refine ze ?_
  refine zg ⟨rfl,?_⟩
  replace hs:Sat _ (z0q M.gap _ _::_):=z2u (M.SM[M.SM.length-1]'hsz).2 (hs.pick [2,2])
  have hs:=z7f hsz (hs.pick [0,2])
  exact (z1r M hokm (hs.pick [3,3])).sub
theorem zzy (x:Sl) (bs:List BatM) [hf:Fo l lgQ lg M r] (hlen:M.SM.length<=1000000000) (hbl:bs.length<=100000) (hx:FocR r x 7 (bs.flatMap z00)) (hbs:∀ b ∈ bs,FocR r b.x 4 (b.rs.flatMap zu)) (hs:Sat w l) :
  Ret P F.a123 #[.pointer (some ⟨lg,0,none⟩),x.v] w λvs w' =>
   ((zx (zh M.l) bs).1≠0/\vs=[.slice none 0 0,.slice none 0 0,.int .i64 (zx (zh M.l) bs).1]/\Sat w' (lgQ lg M::r)) \/
   ((zx (zh M.l) bs).1=0/\∃ (z1 z2:Sl) (fs:List (Sl × List UInt8)),vs=[z1.v,z2.v,.int .i64 0]/\fs.map Prod.snd=(zx (zh M.l) bs).2.map frL /\
    Sat w' (slc T.a0 7 z1 ((zx (zh M.l) bs).2.flatMap z00)::slc T.a45 1 z2 ((fs.map Prod.fst).flatMap z0k)::HP.all (fs.map frP)::lgQ lg M::r)) :=
 zom _ x <| by
  delta z025 AA AH AO AT Aa Ab Ac Af Ah Aj Ak An Aw Ba Bb Be Bi
  have hs:=hs.perm hf.perm
  have hl:=hs.slen x (xs:=bs) (enc:=z00)
  refine z8 (zbf (lg:=lg) hlen hs) λ_ w' hs=>?_
  obtain ⟨rfl,hs⟩:=hs
  refine zd ?_
  refine wp_lt ?_
  generalize zh M.l=n0
  refine zm (λq w'=>∃ (z1 z2:Sl) (fs:List (Sl × List UInt8)),(zx n0 bs).1=0/\q=(z1,z2,())/\fs.map Prod.snd=(zx n0 bs).2.map frL /\
    Sat w' (slc T.a0 7 z1 ((zx n0 bs).2.flatMap z00)::slc T.a45 1 z2 ((fs.map Prod.fst).flatMap z0k)::HP.all (fs.map frP)::lgQ lg M::r)) ?_ ?_
  rotate_left
  ·rintro _ w2 ⟨z1,z2,fs,h1,rfl,h2,hs⟩
   exact ⟨rfl,.inr ⟨h1,z1,z2,fs,rfl,h2,hs⟩⟩
  have h0:Sat w' (slc T.a0 7 ⟨none,0,0⟩ (([]:List BatM).flatMap z00)::slc T.a45 1 ⟨none,0,0⟩ (((([]:List (Sl × List UInt8))).map Prod.fst).flatMap z0k)::HP.all ((([]:List (Sl × List UInt8))).map frP)::lgQ lg M::r):=(Sat.all_nil hs).slc_nil.slc_nil
  refine z0c (λm v w=>∃ (i:Nat) (n:Int) (done:List BatM) (z1 z2:Sl) (fs:List (Sl × List UInt8)),v=(n,z1,z2,(i:Int),())/\i<=bs.length/\bs.length-i=m/\done.length=i/\fs.length=i /\
   zx n0 bs=(if (zx n (bs.drop i)).1≠0 then ((zx n (bs.drop i)).1,[]) else (0,done++(zx n (bs.drop i)).2))/\fs.map Prod.snd=done.map frL /\
   Sat w (slc T.a0 7 z1 (done.flatMap z00)::slc T.a45 1 z2 ((fs.map Prod.fst).flatMap z0k)::HP.all (fs.map frP)::lgQ lg M::r)) bs.length
   ⟨0,n0,[],⟨none,0,0⟩,⟨none,0,0⟩,[],rfl,by omega,rfl,rfl,rfl,?_,rfl,h0⟩ ?_
  ·rw [List.drop_zero,List.nil_append]
   by_cases h:(zx n0 bs).1≠0
   ·rw [if_pos h]
    have:∀ {bs:List BatM} {n:Int},(zx n bs).1≠0->(zx n bs).2=[]:=by
     intro bs
     induction bs with
     | nil=>intro n h;exact absurd rfl h
     | cons b bs ih =>
      intro n h
      unfold zx at h ⊢
      split
      ·rfl
      ·split
       ·rfl
       ·rename_i h1 h2
        rw [if_neg h1,if_neg h2] at h
        exact absurd rfl h
    rw [<- this h]
   ·rw [if_neg h]
    have h:=Decidable.not_not.1 h
    rw [<- h]
  clear hs h0
  rintro m _ w ⟨i,n,done,z1,z2,fs,rfl,hi,hm,hdl,hfl,hpl,hfs,hs⟩
  refine zl ?_
  refine zf (λhc=>?_) λhc=>?_
  rotate_left
  ·have e:bs.drop i=[]:=List.drop_eq_nil_of_le (by omega)
   rw [e] at hpl
   simp only [zx,List.append_nil] at hpl
   have hpl:zx n0 bs=(0,done):=by rw [hpl];rfl
   refine zn (zg ⟨z1,z2,fs,by rw [hpl],rfl,by rw [hpl];exact hfs,?_⟩)
   rw [hpl]
   exact hs
  have hil:i<bs.length:=by omega
  have hdrop:bs.drop i=bs[i]::bs.drop (i+1):=List.drop_eq_getElem_cons hil
  rw [hdrop] at hpl
  have hR:=hbs bs[i] (List.getElem_mem hil)
  refine z2v hs (xs:=bs) (enc:=z00) i hil ?_
  refine zt hs λa w' hs=>?_
  refine zv hs λw' hs=>?_
  refine z08 hs λw' hs=>?_
  refine zj hs ?_
  have hRt:FocR r (bs[i].to n).x 4 ((bs[i].to n).rs.flatMap zu):=hR
  refine z8 (zyv (bs[i].to n) hs) λ_ w' hs=>?_
  have hunf:zx n (bs[i]::bs.drop (i+1))=if zy (bs[i].to n)≠0 then (zy (bs[i].to n),[]) else if (zx (n+zp bs[i]) (bs.drop (i+1))).1≠0 then ((zx (n+zp bs[i]) (bs.drop (i+1))).1,[]) else (0,bs[i].to n::(zx (n+zp bs[i]) (bs.drop (i+1))).2):=rfl
  rcases hs with ⟨hv,rfl,hs⟩|⟨hv,y,rfl,hs⟩
  ·refine zd ?_
   refine wp_lt ?_
   refine z0u ?_ hv
   refine wp_lt ?_
   rw [if_pos hv] at hunf
   have hpl:zx n0 bs=(zy (bs[i].to n),[]):=by rw [hpl,hunf,if_pos hv]
   refine zn (zn ⟨rfl,.inl ⟨by rw [hpl];exact hv,by rw [hpl],hs.sub⟩⟩)
  ·refine zd ?_
   refine wp_lt ?_
   refine z03 ?_ (by simp)
   rw [if_neg (by rw [hv];simp)] at hunf
   have hbl2:=z68 hv
   have hfrl:=z5b hv
   refine zj hs ?_
   refine z5j (xs:=done) (enc:=z00) (y:=bs[i].to n) hs (λz1' w' hs=>?_) rfl (by omega)
   refine z9h hs (enc:=z0k) [y] λy2 w' hs=>?_
   refine z8 (zz1 y2 y (z2p (bs[i].to n)) (by omega) hs) λ_ w' hs=>?_
   obtain ⟨y3,rfl,hs⟩:=hs
   refine zd ?_
   refine z5j (xs:=fs.map Prod.fst) (enc:=z0k) (y:=y3) hs (λz2' w' hs=>?_) rfl (by rw [List.length_map];omega)
   refine zj hs ?_
   refine z8 (z9d (bs[i].to n) hs) λ_ w' hs=>?_
   obtain ⟨rfl,hs⟩:=hs
   refine zd ?_
   refine wp_lt ?_
   rw [wS (i:=i) (by omega)]
   have en:z1s (bs[i].to n)=n+zp bs[i]:=by
    unfold z1s
    rw [if_neg (by rw [hv];simp)]
    rfl
   rw [en]
   refine z0z (bs.length-(i+1)) ⟨i+1,n+zp bs[i],done++[bs[i].to n],z1',z2',fs++[(y3,frL (bs[i].to n))],rfl,by omega,rfl,by simp [hdl],by simp [hfl],?_,by simp [hfs],?_⟩
   ·rw [hpl,hunf]
    by_cases h2:(zx (n+zp bs[i]) (bs.drop (i+1))).1≠0
    ·rw [if_pos h2,if_pos h2,if_pos h2]
    ·rw [if_neg h2,if_neg h2,if_neg (by simp),List.append_assoc]
     rfl
   ·have e2:(fs++[(y3,frL (bs[i].to n))]).map Prod.fst=fs.map Prod.fst++[y3]:=by simp
    rw [e2]
    have hs:Sat w' (slc T.a45 1 z2' ((fs.map Prod.fst++[y3]).flatMap z0k)::slc T.a52 1 y3 ((frL (bs[i].to n)).flatMap zk)::slc T.a45 1 y2 (([y]:List Sl).flatMap z0k)::slc T.a0 7 z1' ((done++[bs[i].to n]).flatMap z00)::_):=hs
    have hs:Sat w' (frP (y3,frL (bs[i].to n))::HP.all (fs.map frP)::slc T.a0 7 z1' ((done++[bs[i].to n]).flatMap z00)::slc T.a45 1 z2' ((fs.map Prod.fst++[y3]).flatMap z0k)::lgQ lg M::r):=by
     have h3:Sat w' (slc T.a52 1 y3 ((frL (bs[i].to n)).flatMap zk)::HP.all (fs.map frP)::slc T.a0 7 z1' ((done++[bs[i].to n]).flatMap z00)::slc T.a45 1 z2' ((fs.map Prod.fst++[y3]).flatMap z0k)::lgQ lg M::r):=hs.sub
     exact h3
    have h4:Sat w' (HP.all (((y3,frL (bs[i].to n))::fs).map frP)::_):=hs.all_put
    have h5:=h4.all_perm ((List.perm_append_comm (l₁:=[(y3,frL (bs[i].to n))]) (l₂:=fs)).map frP)
    exact h5.pick [1,1]
end
end Go.Dec
