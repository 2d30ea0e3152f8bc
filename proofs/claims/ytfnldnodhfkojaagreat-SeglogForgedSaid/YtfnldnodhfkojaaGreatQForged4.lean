/- What the claim of this folder leans on: our own texts, joined, without what it does not use. -/
import Derived.Test.YtfnldnodhfkojaaGreatRows
import Derived.WalkKit
import Derived.ProofKit
import Derived.OpenShut
import Derived.RowKit3
import Derived.OrdersHeld
import Derived.Scope
import Derived.KernelRfl
import Derived.Laws.Sem
import Derived.Laws.StructEq
import Derived.Deep.AppendSrc
import Derived.Laws.BytesArg
import Derived.Laws.RangeString
import Derived.Maps.RangeRun
import Derived.Lib.ConvBytes
import Derived.Lib.SlBytesConst
import Derived.ChangeSlices
import Derived.ChangeMaps5
import Derived.ChangeSame
import Derived.Deep.Slices
import Derived.Deep.Fields
import Derived.Test.YtfnldnodhfkojaaGreatProg
import Derived.Laws.MakeOwn
import Derived.Sort.MapsRangeIn
import Derived.Sort.KeysCollected
import Derived.RangeFuncNested
import Derived.RangeFuncBound
import Derived.RangeFuncCalls
import Derived.RangeFuncLeaves
import Derived.RangeFuncBox
import Derived.OwnWalkIn
import Derived.TacticsInMore
import Derived.RegionIn
import Derived.LoopNIn
import Derived.LoopIn
import Derived.Maps.AppendAt
import Derived.Shelf.Abstract
import Derived.Shelf.Sort.Plain
import Derived.Shelf.Slices.In.SortNone
import Derived.Test.YtfnldnodhfkojaaGreatQForged1
import Derived.Test.YtfnldnodhfkojaaGreatQForged2
import Derived.Test.YtfnldnodhfkojaaGreatQForged3
set_option linter.unusedVariables false
set_option linter.unusedSimpArgs false
namespace Go.Dec
instance:ByE P T.a27 T.a38:=⟨by kernel_rfl,by kernel_rfl,by kernel_rfl⟩
instance:StT P T.a32:=⟨by kernel_rfl⟩
theorem z74 (m:Nat) {k:Int} (hk:0<=k):Int.fdiv (m:Int) k=((m / k.toNat:Nat):Int):=by
 obtain ⟨k,rfl⟩:=Int.eq_ofNat_of_zero_le hk
 rw [Int.fdiv_eq_ediv_of_nonneg _ hk];rfl
theorem zk4 (m:Nat) {k:Int} (hk:0<=k):Int.tdiv (m:Int) k=((m / k.toNat:Nat):Int):=by
 obtain ⟨k,rfl⟩:=Int.eq_ofNat_of_zero_le hk
 rfl
theorem zbk (m:Nat) {k:Int} (hk:0<=k):Int.tmod (m:Int) k=((m % k.toNat:Nat):Int):=by
 obtain ⟨k,rfl⟩:=Int.eq_ofNat_of_zero_le hk
 rfl
theorem z8h (m:Nat):IntKind.wrap .u8 (m:Int)=((m % 256:Nat):Int):=by simp [IntKind.wrap,IntKind.bits,IntKind.signed]
theorem z9y (m:Nat):IntKind.wrap .u32 (m:Int)=((m % 4294967296:Nat):Int):=by simp [IntKind.wrap,IntKind.bits,IntKind.signed]
theorem z60 (m:Nat):IntKind.wrap .u64 (m:Int)=((m % 18446744073709551616:Nat):Int):=by simp [IntKind.wrap,IntKind.bits,IntKind.signed]
theorem z03q (m:Nat):(BitVec.toNat (BitVec.ofInt 8 (IntKind.wrap .u8 (m:Int)) ||| BitVec.ofInt 8 128))=m % 128+128:=by
 rw [z8h,BitVec.ofInt_natCast]
 have h:∀ k:Fin 256,(BitVec.ofNat 8 k.val ||| BitVec.ofInt 8 128).toNat=k.val % 128+128:=by decide +kernel
 have:=h ⟨m % 256,by omega⟩
 rw [this]
 show m % 256 % 128+128=_
 omega
theorem z00d (m:Nat) (hm:m<256):(BitVec.toNat (BitVec.ofInt 8 (m:Int) &&& BitVec.ofInt 8 127))=m % 128:=by
 rw [BitVec.ofInt_natCast]
 have h:∀ k:Fin 256,(BitVec.ofNat 8 k.val &&& BitVec.ofInt 8 127).toNat=k.val % 128:=by decide +kernel
 exact h ⟨m,hm⟩
theorem z047 {n c i:Nat} (hn:n<128 ^ i) (hi:i<=9) (hc:c<256) (h9:i=9->c<=1) :
  IntKind.wrap .u64 (((BitVec.toNat (BitVec.ofInt 64 (n:Int) ||| BitVec.ofInt 64 (IntKind.wrap .u64 (IntKind.wrap .u64 (IntKind.wrap .u8 (((BitVec.toNat (BitVec.ofInt 8 (c:Int) &&& BitVec.ofInt 8 127):Nat):Int)))*2 ^ min (Int.toNat (IntKind.wrap .i64 (7*(i:Int)))) 64))):Nat):Int))=((n+128 ^ i*(c % 128):Nat):Int):=by
 have e1:min (Int.toNat (IntKind.wrap .i64 (7*(i:Int)))) 64=7*i:=by rw [w64 (by omega) (by omega)];omega
 have e2:(2:Nat) ^ (7*i)=128 ^ i:=by rw [Nat.pow_mul]
 have hle:128 ^ i*(c % 128)+128 ^ i<=18446744073709551616:=by
  have hcase:i=0\/i=1\/i=2\/i=3\/i=4\/i=5\/i=6\/i=7\/i=8\/i=9:=by omega
  rcases hcase with rfl|rfl|rfl|rfl|rfl|rfl|rfl|rfl|rfl|rfl <;> simp <;> omega
 rw [z00d c hc,e1,z8h,z60 (c % 128 % 256),show c % 128 % 256 % 18446744073709551616=c % 128 by omega]
 have e3:((c % 128:Nat):Int)*2 ^ (7*i)=((128 ^ i*(c % 128):Nat):Int):=by
  rw [<- e2,Nat.mul_comm (2 ^ (7*i)),Int.natCast_mul];simp
 rw [e3,z60 (128 ^ i*(c % 128)),BitVec.ofInt_natCast,BitVec.ofInt_natCast,BitVec.toNat_or,BitVec.toNat_ofNat,BitVec.toNat_ofNat,Nat.mod_eq_of_lt (show n<2 ^ 64 by omega),Nat.mod_mod,Nat.mod_eq_of_lt (show 128 ^ i*(c % 128)<2 ^ 64 by omega)]
 have h5:=Nat.two_pow_add_eq_or_of_lt (i:=7*i) (b:=n) (by rw [e2];exact hn) (c % 128)
 rw [e2] at h5
 rw [Nat.or_comm,<- h5,z60,Nat.mod_eq_of_lt (by omega),Nat.add_comm]
section
variable {w:World} {l r:List HP} {Q:Post} {S:World->Prop}
theorem zok (n:Nat) (hn:n<18446744073709551616) (hs:Sat w l):Ret P F.a159 #[.int .u64 (n:Int)] w λvs w'=>∃ z:Sl,vs=[z.v]/\Sat w' (slc T.a38 1 z ((z2i n).flatMap zg)::l) :=
 zni n <| by
  unfold zw4
  refine zx (λu w'=>∃ (m:Nat) (z:Sl) (acc:List UInt8),u=((m:Int),z,())/\m<128/\acc.length<=9/\z2i n=acc++[UInt8.ofNat m]/\Sat w' (slc T.a38 1 z (acc.flatMap zg)::l)) ?_ ?_
  ·refine z0e (λk u w=>∃ (z:Sl) (acc:List UInt8),u=((k:Int),z,())/\k<18446744073709551616/\z2i n=acc++z2i k/\Sat w (slc T.a38 1 z (acc.flatMap zg)::l)) n ⟨⟨none,0,0⟩,[],rfl,hn,rfl,hs.slc_nil⟩ ?_
   clear hs
   rintro k _ w ⟨z,acc,rfl,hk,he,hs⟩
   refine zt ?_
   have hal:acc.length<=9:=by
    have h1:=congrArg List.length he
    rw [List.length_append] at h1
    have h2:=z69 n
    have h3:=z69 k
    omega
   refine zk (λh=>?_) λh=>?_
   ·rw [zbm hk,if_neg (by omega)] at he
    refine z6s hs (xs:=acc) (enc:=zg) (UInt8.ofNat (k % 128+128)) (λz w' hs=>?_) ?_
    ·refine z1l (y:=((k / 128:Nat):Int)) ?_ (z74 k (by decide))
     refine z0q (k / 128) ?_
     exact ⟨z,acc++[UInt8.ofNat (k % 128+128)],rfl,by omega,by rw [he];simp,hs⟩
    ·unfold zg
     rw [z03q,z8h]
     simp
   ·rw [zbm hk,if_pos (by omega)] at he
    exact zv (zj ⟨k,z,acc,rfl,by omega,hal,he,hs⟩)
  clear hs
  rintro _ w ⟨m,z,acc,rfl,hm,hal,he,hs⟩
  refine zt ?_
  refine z6s hs (xs:=acc) (enc:=zg) (UInt8.ofNat m) (λz w' hs=>?_) ?_
  ·refine ⟨rfl,z,rfl,?_⟩
   rw [he];exact hs
  ·unfold zg
   rw [z8h]
   simp
theorem zax:∀ (k n:Nat) {w:World} {l:List HP},n<128 ^ (k+1)->n<18446744073709551616->Sat w l->Ret P F.a117 #[.int .u64 (n:Int)] w λvs w'=>∃ z:Sl,vs=[z.v]/\Sat w' (slc T.a38 1 z ((z2i n).flatMap zg)::l):=by
 intro k
 induction k with
 | zero =>
  intro n w l hn h64 hs
  refine ze1 n ?_
  unfold zpb
  rw [zbm h64,if_pos (by omega)]
  refine z1b ?_ (by omega)
  refine z1f hs (enc:=zg) (UInt8.ofNat n) (λz w' hs=>⟨rfl,z,rfl,hs⟩) ?_
  unfold zg
  rw [z8h];simp
 | succ k ih =>
  intro n w l hn h64 hs
  refine ze1 n ?_
  unfold zpb
  rw [zbm h64]
  refine zk (λh=>?_) λh=>?_
  ·rw [if_pos (by omega)]
   refine z1f hs (enc:=zg) (UInt8.ofNat n) (λz w' hs=>⟨rfl,z,rfl,hs⟩) ?_
   unfold zg
   rw [z8h];simp
  ·rw [if_neg (by omega)]
   have e1:IntKind.wrap .u64 (Int.tmod (n:Int) 128+128)=((n % 128+128:Nat):Int):=by
    rw [zbk n (by decide)]
    have:((n % Int.toNat 128:Nat):Int)+128=((n % 128+128:Nat):Int):=rfl
    rw [this,z60];omega
   have e2:IntKind.wrap .u64 (Int.tdiv (n:Int) 128)=((n / 128:Nat):Int):=by
    rw [zk4 n (by decide),z60]
    show ((n / 128 % _:Nat):Int)=_
    omega
   rw [e1,e2]
   refine z1f hs (enc:=zg) (UInt8.ofNat (n % 128+128)) (λy w' hs=>?_) ?_
   ·refine za (ih (n / 128) (by rw [Nat.pow_succ] at hn;omega) (by omega) hs) λ_ _ hs=>?_
    obtain ⟨z,rfl,hs⟩:=hs
    refine ze ?_
    have hl:=z69 (n / 128)
    have hs:=hs.pick [1,0]
    refine wp_app' (xs:=[UInt8.ofNat (n % 128+128)]) (ys:=z2i (n / 128)) (enc:=zg) hs (λz w' hs=>?_) (by simp;omega)
    have hs:Sat _ (slc T.a38 1 z ((UInt8.ofNat (n % 128+128)::z2i (n / 128)).flatMap zg)::_):=hs
    exact ⟨rfl,z,rfl,hs.sub⟩
   ·unfold zg
    rw [z8h];simp
theorem znt (x:Sl) (ps:List (Sl × List UInt8)) [hx:FocR l x 1 ((ps.map Prod.fst).flatMap z0r)] (hps:∀ p ∈ ps,FocR l p.1 1 (p.2.flatMap zg)) (hpl:ps.length<=1000000) (hn:(ps.flatMap Prod.snd).length<=1000000000) (hs:Sat w l) :
  Ret P F.a147 #[x.v] w λvs w'=>∃ z:Sl,vs=[z.v]/\Sat w' (slc T.a38 1 z ((ps.flatMap Prod.snd).flatMap zg)::l) :=
 zm8 x <| by
  unfold zxn
  have hl:=hs.slen x (xs:=ps.map Prod.fst) (enc:=z0r)
  rw [List.length_map] at hl
  have hstep:∀ i (hi:i<ps.length),(ps.take (i+1)).flatMap Prod.snd=(ps.take i).flatMap Prod.snd++ps[i].2:=λi hi=>by
   rw [List.take_add_one,List.getElem?_eq_getElem hi,Option.toList_some,List.flatMap_append,List.flatMap_singleton]
  have hmany:∀ i,((ps.take i).flatMap Prod.snd).length<=1000000000:=λi=>by
   have:ps.flatMap Prod.snd=(ps.take i).flatMap Prod.snd++(ps.drop i).flatMap Prod.snd:=by rw [<- List.flatMap_append,List.take_append_drop]
   rw [this,List.length_append] at hn
   omega
  refine zx (λu w'=>u=((((ps.flatMap Prod.snd).length:Nat):Int),())/\Sat w' l) ?_ ?_
  ·refine z0e (λk u w=>∃ i:Nat,u=(((((ps.take i).flatMap Prod.snd).length:Nat):Int),(i:Int),())/\i<=ps.length/\ps.length-i=k/\Sat w l) ps.length ⟨0,rfl,by omega,rfl,hs⟩ ?_
   clear hs
   rintro k _ w ⟨i,rfl,hi,hk,hs⟩
   refine zt ?_
   refine zk (λhc=>?_) λhc=>?_
   rotate_left
   ·refine zv (zj ⟨?_,hs⟩)
    rw [List.take_of_length_le (by omega)]
   have hil:i<ps.length:=by omega
   refine z24 hs (xs:=ps.map Prod.fst) (enc:=z0r) i (by rw [List.length_map];exact hil) ?_
   rw [List.getElem_map]
   have hF:=hps _ (List.getElem_mem hil)
   have hpi:=hs.slen ps[i].1 (xs:=ps[i].2) (enc:=zg)
   have h1:=hmany (i+1)
   have h2:=congrArg List.length (hstep i hil)
   rw [List.length_append] at h2
   have e:IntKind.wrap .i64 (((((ps.take i).flatMap Prod.snd).length:Nat):Int)+((ps[i].1.len:Nat):Int))=((((ps.take (i+1)).flatMap Prod.snd).length:Nat):Int):=by rw [w64 (by omega) (by omega)];omega
   refine zdt e ?_
   refine z57 (us':=[.int .i64 ((((ps.take (i+1)).flatMap Prod.snd).length:Nat):Int),.int .i64 ((i+1:Nat):Int)]) (by (try simp (disch:=omega) only [w64]);first|rfl|(congr;omega)) ?_
   refine z0q (ps.length-(i+1)) ?_
   exact ⟨i+1,rfl,by omega,rfl,hs⟩
  clear hs
  rintro _ w ⟨rfl,hs⟩
  refine zt ?_
  refine zoo (ps.flatMap Prod.snd).length hs λz w' hs=>?_
  refine zx (λu w'=>∃ z:Sl,u=(z,())/\Sat w' (slc T.a38 1 z ((ps.flatMap Prod.snd).flatMap zg)::l)) ?_ (by rintro _ w' ⟨z,rfl,hs⟩;refine zt ?_;exact ⟨rfl,z,rfl,hs⟩)
  refine z0e (λk u w=>∃ (i:Nat) (z:Sl),u=(z,(i:Int),())/\i<=ps.length/\ps.length-i=k/\Sat w (slc T.a38 1 z (((ps.take i).flatMap Prod.snd).flatMap zg)::l)) ps.length ⟨0,z,rfl,by omega,rfl,hs⟩ ?_
  clear hs
  rintro k _ w ⟨i,z,rfl,hi,hk,hs⟩
  refine zt ?_
  refine zk (λhc=>?_) λhc=>?_
  rotate_left
  ·refine zv (zj ⟨z,rfl,?_⟩)
   rw [List.take_of_length_le (by omega)] at hs
   exact hs
  have hil:i<ps.length:=by omega
  refine z24 hs (xs:=ps.map Prod.fst) (enc:=z0r) i (by rw [List.length_map];exact hil) ?_
  rw [List.getElem_map]
  have hF:=hps _ (List.getElem_mem hil)
  have h1:=hmany (i+1)
  rw [hstep i hil,List.length_append] at h1
  refine wp_app' (xs:=(ps.take i).flatMap Prod.snd) (ys:=ps[i].2) (enc:=zg) hs (λz w' hs=>?_)
  rw [<- hstep i hil] at hs
  refine z57 (us':=[z.v,.int .i64 ((i+1:Nat):Int)]) (by (try simp (disch:=omega) only [w64]);first|rfl|(congr;omega)) ?_
  refine z0q (ps.length-(i+1)) ?_
  exact ⟨i+1,z,rfl,by omega,rfl,hs⟩
theorem zku (x:Sl) (bs:List UInt8) [hx:FocR l x 1 (bs.flatMap zg)] (hn:bs.length<=1000000000) (hs:Sat w l) :
  Ret P F.a0 #[x.v] w λvs w'=>∃ z:Sl,vs=[z.v]/\Sat w' (slc T.a38 1 z (bs.flatMap zg)::l) :=
 zhq x <| by
  unfold zf0
  have hl:=hs.slen x (xs:=bs) (enc:=zg)
  refine zk (λh=>?_) λh=>?_
  ·have h:x.a=none:=by simpa using h
   have:bs=[]:=by
    obtain ⟨h1,h2|⟨b,off,arr,T',fr,ha,-⟩⟩:=hx.rd w hs
    ·exact List.length_eq_zero_iff.1 (by omega)
    ·rw [h] at ha;cases ha
   subst this
   exact ⟨rfl,⟨none,0,0⟩,rfl,hs.slc_nil⟩
  ·refine z90 hs (enc:=zg) [] bs0 (λb w' hs=>?_)
   refine wp_app' (xs:=[]) (ys:=bs) (enc:=zg) hs (λz w' hs=>?_) (by simp;omega)
   exact ⟨rfl,z,rfl,hs⟩
structure RdM where
 bs:List UInt8
 at_:Nat
 e:Int
def RdM.fail (R:RdM) (e:Int):RdM:=⟨R.bs,R.at_,if R.e=0 then e else R.e⟩
def RdM.uint (R:RdM):Nat × RdM:=if R.e≠0 then (0,R) else match z35 0 (R.bs.drop R.at_) with
 | some p=>(p.1,⟨R.bs,R.at_+p.2,R.e⟩)
 | none=>(0,⟨R.bs,R.at_,6⟩)
def RdM.done (R:RdM):RdM:=if R.at_<R.bs.length then R.fail 6 else R
def rdP (T':TypeId) (p:Nat) (R:RdM):HP:=HP.ex λx:Sl=>HP.and (R.at_<=R.bs.length/\R.bs.length<=1000000000) (HP.star (pt p (.cells #[.slice x.a x.len x.cap,.int .i64 R.at_,.int .i64 R.e] T')) (slc T.a38 1 x (R.bs.flatMap zg)))
theorem z2q {T':TypeId} {p:Nat} {R:RdM} (hs:Sat w (rdP T' p R::l)):∃ x:Sl,(R.at_<=R.bs.length/\R.bs.length<=1000000000)/\Sat w (pt p (.cells #[.slice x.a x.len x.cap,.int .i64 R.at_,.int .i64 R.e] T')::slc T.a38 1 x (R.bs.flatMap zg)::l):=by
 obtain ⟨x,hs⟩:=hs.ex
 obtain ⟨h,hs⟩:=hs.and
 exact ⟨x,h,hs.star⟩
theorem z1h {T':TypeId} {p:Nat} (R:RdM) {x:Sl} (h:R.at_<=R.bs.length/\R.bs.length<=1000000000) (hs:Sat w (pt p (.cells #[.slice x.a x.len x.cap,.int .i64 R.at_,.int .i64 R.e] T')::slc T.a38 1 x (R.bs.flatMap zg)::l)):Sat w (rdP T' p R::l) :=
 .ex_mk x (.and_mk h (.star_mk hs))
theorem znz (R:RdM):(R.uint.2).bs=R.bs:=by
 unfold RdM.uint
 split
 ·rfl
 ·split <;> rfl
variable {p:Nat} {R:RdM}
theorem zm6 (x:Sl) (bs:List UInt8) [hx:FocR l x 1 (bs.flatMap zg)] (hn:bs.length<=1000000000) (hs:Sat w l) :
  Ret P F.a148 #[x.v] w λvs w'=>∃ p:Nat,vs=[.pointer (some ⟨p,0,none⟩)]/\Sat w' (rdP T.a40 p ⟨bs,0,0⟩::l) :=
 zmv x <| by
  unfold zx6
  refine za (zku x bs hn hs) λ_ _ hs=>?_
  obtain ⟨z,rfl,hs⟩:=hs
  refine ze ?_
  refine z0b hs λp w' hs=>?_
  exact ⟨rfl,p,rfl,z1h ⟨bs,0,0⟩ ⟨Nat.zero_le _,hn⟩ hs⟩
theorem zcx [hf:Fo l (rdP T.a40) p R r] (hs:Sat w l):Ret P F.a161 #[.pointer (some ⟨p,0,none⟩)] w λvs w'=>vs=[.int .i64 ((R.bs.length-R.at_:Nat):Int)]/\Sat w' (rdP T.a40 p R::r) :=
 zli _ <| by
  unfold zxy
  obtain ⟨x,hb,hs⟩:=z2q (hs.perm hf.perm)
  have hl:=hs.slen x (xs:=R.bs) (enc:=zg)
  refine z0i hs λw' hs=>?_
  refine zy ?_
  refine zd hs ?_
  refine zy ?_
  refine zd hs ?_
  refine z1l (y:=((R.bs.length-R.at_:Nat):Int)) ?_ (by rw [w64 (by omega) (by omega)];omega)
  refine zm ?_
  exact ⟨rfl,rfl,z1h R hb hs⟩
theorem z7a (e:Int) [hf:Fo l (rdP T.a40) p R r] (hs:Sat w l):Ret P F.a160 #[.pointer (some ⟨p,0,none⟩),.int .i64 e] w λvs w'=>vs=[]/\Sat w' (rdP T.a40 p (R.fail e)::r) :=
 zm5 _ e <| by
  unfold zxr
  obtain ⟨x,hb,hs⟩:=z2q (hs.perm hf.perm)
  refine zy ?_
  refine zd hs ?_
  refine zx (λ_ w'=>Sat w' (rdP T.a40 p (R.fail e)::r)) ?_ (by rintro _ w' hs;refine zt ?_;exact ⟨rfl,rfl,hs⟩)
  refine zk (λh=>?_) λh=>?_
  ·refine zy ?_
   refine z0h hs λw' hs=>?_
   refine zj ?_
   have e1:R.fail e=⟨R.bs,R.at_,e⟩:=by unfold RdM.fail;rw [if_pos h]
   rw [e1]
   exact z1h ⟨R.bs,R.at_,e⟩ hb hs
  ·have e1:R.fail e=R:=by unfold RdM.fail;rw [if_neg h]
   rw [e1]
   exact zj (z1h R hb hs)
theorem zoe [hf:Fo l (rdP T.a40) p R r] (he:R.e=0) (hs:Sat w l):Ret P F.a163 #[.pointer (some ⟨p,0,none⟩)] w λvs w'=>vs=[.int .u64 ((R.uint.1:Nat):Int)]/\Sat w' (rdP T.a40 p R.uint.2::r) :=
 zlt _ <| by
  unfold zw6
  have hs:=hs.perm hf.perm
  refine zx (λ_ w'=>z35 0 (R.bs.drop R.at_)=none/\Sat w' (rdP T.a40 p R::r)) ?_ ?_
  rotate_left
  ·rintro _ w' ⟨hno,hs⟩
   refine zt ?_
   refine za (z7a (p:=p) 6 hs) λ_ _ hs=>?_
   obtain ⟨rfl,hs⟩:=hs
   refine ze ?_
   have e1:R.uint=(0,R.fail 6):=by unfold RdM.uint RdM.fail;rw [if_neg (by rw [he];simp),hno,if_pos he]
   rw [e1]
   exact ⟨rfl,rfl,hs⟩
  refine z0e (λk u w=>∃ i n:Nat,u=((n:Int),(i:Int),())/\i<=10/\10-i=k/\n<128 ^ i/\z35 0 (R.bs.drop R.at_)=(z35 i ((R.bs.drop R.at_).drop i)).map (λq=>(n+128 ^ i*q.1,i+q.2))/\Sat w (rdP T.a40 p R::r)) 10
   ⟨0,0,rfl,by omega,rfl,by simp,by simp,hs⟩ ?_
  clear hs
  rintro k _ w ⟨i,n,rfl,hi,hk,hn,hnum,hs⟩
  refine zt ?_
  refine zk (λhc=>?_) λhc=>?_
  rotate_left
  ·refine zv (zj ⟨?_,hs⟩)
   rw [hnum]
   have:z35 i ((R.bs.drop R.at_).drop i)=none:=by
    cases (R.bs.drop R.at_).drop i with
    | nil=>rfl
    | cons c q=>rw [z86,if_pos (by omega)]
   rw [this];rfl
  refine za (zcx (p:=p) hs) λ_ _ hs=>?_
  obtain ⟨rfl,hs⟩:=hs
  refine ze ?_
  refine zk (λhc2=>?_) λhc2=>?_
  ·refine zv (zj ⟨?_,hs⟩)
   rw [hnum,List.drop_drop,List.drop_eq_nil_of_le (by omega)];rfl
  obtain ⟨x,hb,hs⟩:=z2q hs
  have hl:=hs.slen x (xs:=R.bs) (enc:=zg)
  have hlt:R.at_+i<R.bs.length:=by omega
  refine z0i hs λw' hs=>?_
  refine zy ?_
  refine zd hs ?_
  refine zy ?_
  refine zd hs ?_
  refine z24 hs (xs:=R.bs) (enc:=zg) (R.at_+i) hlt ?_ (by rw [w64 (by omega) (by omega)];omega)
  rw [List.drop_drop,List.drop_eq_getElem_cons hlt] at hnum
  generalize R.bs[R.at_+i]=c at hnum
  have hc256:=c.toNat_lt
  refine wp_lt ?_
  refine zm ?_
  have hz:∀ {X:Option (Nat × Nat)},z35 i (c::R.bs.drop (R.at_+i+1))=X->z35 0 (R.bs.drop R.at_)=X.map (λq=>(n+128 ^ i*q.1,i+q.2)):=λ{X} h=>by rw [hnum,h]
  refine zk (λh9=>?_) λh9=>?_
  ·refine zv (zj ⟨?_,z1h R hb hs⟩)
   refine hz (X:=none) ?_
   rw [z86]
   rw [if_pos (by right;omega)]
  refine wp_must (by rw [w64 (by omega) (by omega)];omega) ?_
  have h91:i=9->c.toNat<=1:=λe=>by
   apply Nat.le_of_not_lt
   intro h
   exact h9 ⟨by omega,by omega⟩
  rw [z047 hn (by omega) (by omega) h91]
  refine wp_lt ?_
  refine zk (λh128=>?_) λh128=>?_
  ·refine z1l (y:=((i+1:Nat):Int)) ?_ (by rw [w64 (by omega) (by omega)];omega)
   refine z0q (10-(i+1)) ?_
   have hpos:0<128 ^ i:=Nat.pow_pos (by decide)
   have hmul:128 ^ i*(c.toNat % 128)<=128 ^ i*127:=Nat.mul_le_mul_left _ (by omega)
   refine ⟨i+1,_,rfl,by omega,rfl,by rw [Nat.pow_succ];omega,?_,z1h R hb hs⟩
   rw [hnum]
   rw [z86]
   rw [if_neg (by omega),if_pos (by omega),List.drop_drop,<- Nat.add_assoc]
   cases z35 (i+1) (R.bs.drop (R.at_+i+1)) with
   | none=>rfl
   | some q =>
    simp only [Option.map_some,Option.some.injEq,Prod.mk.injEq]
    refine ⟨?_,by omega⟩
    rw [Nat.pow_succ,Nat.mul_add,Nat.mul_assoc,Nat.add_assoc]
  refine zk (λh0=>?_) λh0=>?_
  ·refine zv (zj ⟨?_,z1h R hb hs⟩)
   refine hz (X:=none) ?_
   rw [z86]
   rw [if_neg (by omega),if_neg (by omega),if_pos (by omega)]
  have hsome:=hz (X:=some (c.toNat,1)) (by rw [z86,if_neg (by omega),if_neg (by omega),if_neg (by omega)])
  have e1:R.uint=(n+128 ^ i*c.toNat,⟨R.bs,R.at_+(i+1),R.e⟩):=by
   unfold RdM.uint
   rw [if_neg (by rw [he];simp),hsome];rfl
  rw [e1]
  refine zy ?_
  refine zd hs ?_
  refine zy ?_
  have e2:IntKind.wrap .i64 ((R.at_:Int)+IntKind.wrap .i64 ((i:Int)+1))=((R.at_+(i+1):Nat):Int):=by rw [w64 (x:=(i:Int)+1) (by omega) (by omega),w64 (by omega) (by omega)];omega
  rw [e2]
  refine z0h hs λw' hs=>?_
  refine wp_lt ?_
  refine zv (zv ⟨rfl,?_,z1h ⟨R.bs,R.at_+(i+1),R.e⟩ ⟨by show R.at_+(i+1)<=R.bs.length;omega,hb.2⟩ hs⟩)
  rw [show c.toNat % 128=c.toNat by omega]
theorem zcz [hf:Fo l (rdP T.a40) p R r] (hs:Sat w l):Ret P F.a157 #[.pointer (some ⟨p,0,none⟩)] w λvs w'=>vs=[.bool (decide (R.e=0))]/\Sat w' (rdP T.a40 p R::r) :=
 zna _ <| by
  unfold zwr
  obtain ⟨x,hb,hs⟩:=z2q (hs.perm hf.perm)
  refine z0p ?_
  refine zd hs ?_
  refine wp_lt ?_
  refine ⟨rfl,?_,z1h R hb hs⟩
  by_cases h:R.e=0 <;> simp [h]
theorem zno [hf:Fo l (rdP T.a40) p R r] (hs:Sat w l):Ret P F.a155 #[.pointer (some ⟨p,0,none⟩)] w λvs w'=>vs=[.int .u64 ((R.uint.1:Nat):Int)]/\Sat w' (rdP T.a40 p R.uint.2::r) :=
 zlg _ <| by
  unfold zwm
  refine za (zcz (p:=p) hs) λ_ _ hs=>?_
  obtain ⟨rfl,hs⟩:=hs
  refine ze ?_
  refine zk (λh=>?_) λh=>?_
  ·have h:R.e≠0:=by simpa using h
   have e1:R.uint=(0,R):=by unfold RdM.uint;rw [if_pos h]
   rw [e1]
   exact ⟨rfl,rfl,hs⟩
  ·have h:R.e=0:=by simpa using h
   refine zy ?_
   refine za (zoe (p:=p) h hs) λ_ _ hs=>?_
   obtain ⟨rfl,hs⟩:=hs
   refine ze ?_
   refine wp_lt ?_
   exact ⟨rfl,rfl,hs⟩
theorem z01o [hf:Fo l (rdP T.a40) p R r] (hs:Sat w l):Ret P F.a151 #[.pointer (some ⟨p,0,none⟩)] w λvs w'=>vs=[.int .i64 R.e]/\Sat w' (rdP T.a40 p R::r) :=
 zmp _ <| by
  unfold zxw
  obtain ⟨x,hb,hs⟩:=z2q (hs.perm hf.perm)
  refine z0j ?_ (by simp)
  refine zy ?_
  refine zd hs ?_
  refine wp_lt ?_
  exact ⟨rfl,rfl,z1h R hb hs⟩
theorem z030 [hf:Fo l (rdP T.a40) p R r] (hs:Sat w l):Ret P F.a150 #[.pointer (some ⟨p,0,none⟩)] w λvs w'=>vs=[.int .i64 R.done.e]/\Sat w' (rdP T.a40 p R.done::r) :=
 zma _ <| by
  unfold zx1
  refine z0j ?_ (by simp)
  refine zy ?_
  refine za (zcx (p:=p) hs) λ_ _ hs=>?_
  obtain ⟨rfl,hs⟩:=hs
  refine ze ?_
  refine zx (λ_ w'=>Sat w' (rdP T.a40 p R.done::r)) ?_ ?_
  ·unfold RdM.done
   refine zk (λh=>?_) λh=>?_
   ·rw [if_pos (by omega)]
    refine zy ?_
    refine za (z7a (p:=p) 6 hs) λ_ _ hs=>?_
    obtain ⟨rfl,hs⟩:=hs
    refine ze ?_
    exact zj hs
   ·rw [if_neg (by omega)]
    exact zj hs
  clear hs
  rintro _ w hs
  refine zt ?_
  obtain ⟨x,hb,hs⟩:=z2q hs
  refine zy ?_
  refine zd hs ?_
  refine wp_lt ?_
  exact ⟨rfl,rfl,z1h R.done hb hs⟩
end
theorem zxb {n:Int} (h:0<=n/\n<9223372036854775808):IntKind.wrap .u64 n=((n.toNat:Nat):Int):=by
 obtain ⟨m,rfl⟩:=Int.eq_ofNat_of_zero_le h.1
 show IntKind.wrap .u64 ((m:Nat):Int)=_
 rw [z60];omega
def uI (n:Int):List UInt8:=z2i n.toNat
theorem z1c (n:Int):0<(uI n).length/\(uI n).length<=10:=z69 _
section
variable {w:World} {l r:List HP} {Q:Post} {S:World->Prop}
theorem z5j (n:Int) (hn:0<=n/\n<9223372036854775808) (hs:Sat w l):Ret P F.a159 #[.int .u64 (IntKind.wrap .u64 n)] w λvs w'=>∃ z:Sl,vs=[z.v]/\Sat w' (slc T.a38 1 z ((uI n).flatMap zg)::l):=by
 rw [zxb hn]
 exact zok n.toNat (by omega) hs
theorem z6v (n:Int) (hn:0<=n/\n<9223372036854775808) (hs:Sat w l):Ret P F.a117 #[.int .u64 (IntKind.wrap .u64 n)] w λvs w'=>∃ z:Sl,vs=[z.v]/\Sat w' (slc T.a38 1 z ((uI n).flatMap zg)::l):=by
 rw [zxb hn]
 exact zax 9 n.toNat (by omega) (by omega) hs
theorem zvk (x a b c:Sl) (aa bs cs:List UInt8) [hx:FocR l x 1 ([a,b,c].flatMap z0r)] [ha:FocR l a 1 (aa.flatMap zg)] [hb:FocR l b 1 (bs.flatMap zg)] [hc:FocR l c 1 (cs.flatMap zg)] (hn:aa.length+bs.length+cs.length<=1000000000) (hs:Sat w l) :
  Ret P F.a147 #[x.v] w λvs w'=>∃ z:Sl,vs=[z.v]/\Sat w' (slc T.a38 1 z ((aa++(bs++cs)).flatMap zg)::l):=by
 have:=@znt w l x [(a,aa),(b,bs),(c,cs)] hx (by
  intro p hp
  rcases List.mem_cons.1 hp with rfl|hp
  ·exact ha
  rcases List.mem_cons.1 hp with rfl|hp
  ·exact hb
  ·rw [List.mem_singleton.1 hp];exact hc) (by simp) (by simp;omega) hs
 simpa using this
theorem zua (x a b c d:Sl) (aa bs cs ds:List UInt8) [hx:FocR l x 1 ([a,b,c,d].flatMap z0r)] [ha:FocR l a 1 (aa.flatMap zg)] [hb:FocR l b 1 (bs.flatMap zg)] [hc:FocR l c 1 (cs.flatMap zg)] [hd:FocR l d 1 (ds.flatMap zg)]
  (hn:aa.length+bs.length+cs.length+ds.length<=1000000000) (hs:Sat w l) :
  Ret P F.a147 #[x.v] w λvs w'=>∃ z:Sl,vs=[z.v]/\Sat w' (slc T.a38 1 z ((aa++(bs++(cs++ds))).flatMap zg)::l):=by
 have:=@znt w l x [(a,aa),(b,bs),(c,cs),(d,ds)] hx (by
  intro p hp
  rcases List.mem_cons.1 hp with rfl|hp
  ·exact ha
  rcases List.mem_cons.1 hp with rfl|hp
  ·exact hb
  rcases List.mem_cons.1 hp with rfl|hp
  ·exact hc
  ·rw [List.mem_singleton.1 hp];exact hd) (by simp) (by simp;omega) hs
 simpa using this
theorem z8x {P:Program} {t:TypeId} {sz:Nat} {α:Type} {enc:α->List Value} {n:Nat} {ps:Array (Nat × Value)} {el:TypeId} {bytes:Nat} {k:Sl->Prog} (hs:Sat w l) [ht:SlT P t el sz bytes] [hE:EncN enc sz] (xs:List α)
  (h:∀ x w',Sat w' (slc el sz x (xs.flatMap enc)::l)->(k x).wp P S w' Q) (hc:z4d P t n ps=some (el,(xs.flatMap enc).toArray):=by kernel_rfl) (hn:xs.length=n:=by rfl) (hS:∀ w',S w':=by exact λ_=>trivial) :
  (Prog.act (Instr.buildSlice t n ps) sL (u1 k)).wp P S w Q:=z90 hs xs hc (λb w' hs=>h _ w' hs) (by simp) hn hS
end
def z27 (R:RdM):List UInt8:=R.bs.drop R.at_
theorem zqx {R:RdM} (hb:R.at_<=R.bs.length) :
  (R.e=0/\R.uint.1<18446744073709551616/\R.uint.2.e=0/\R.uint.2.at_<=R.uint.2.bs.length/\R.uint.2.bs=R.bs/\z27 R=z2i R.uint.1++z27 R.uint.2) \/
  (R.uint.1=0/\R.uint.2.e≠0/\R.uint.2.at_<=R.uint.2.bs.length/\(R.e=0->∀ m z,m<18446744073709551616->z27 R≠z2i m++z)):=by
 unfold RdM.uint z27
 by_cases h0:R.e=0
 ·rw [if_neg (by rw [h0];simp)]
  cases hn:z35 0 (R.bs.drop R.at_) with
  | none =>
   refine .inr ⟨rfl,(show (6:Int)≠0 by decide),hb,λ_ m z hm he=>?_⟩
   rw [he,zis hm] at hn
   cases hn
  | some p =>
   obtain ⟨v,k⟩:=p
   obtain ⟨h1,h2⟩:=zer hn
   have h3:=zem _ _ _ _ hn
   rw [List.length_drop] at h3
   refine .inl ⟨h0,h2,h0,by show R.at_+k<=R.bs.length;omega,rfl,?_⟩
   show R.bs.drop R.at_=z2i v++R.bs.drop (R.at_+k)
   rw [<- h1,<- List.drop_drop,List.take_append_drop]
 ·rw [if_pos h0]
  exact .inr ⟨rfl,h0,hb,λh=>absurd h h0⟩
theorem zkl {R:RdM}:(z27 R).length=R.bs.length-R.at_:=by unfold z27;rw [List.length_drop]
theorem z6h {w:World} {l:List HP} {T':TypeId} {p:Nat} {R:RdM} (hs:Sat w (rdP T' p R::l)):R.at_<=R.bs.length/\R.bs.length<=1000000000:=by
 obtain ⟨x,h,-⟩:=z2q hs
 exact h
theorem zpn {R:RdM} (hb:R.at_<=R.bs.length):R.done.e=0↔R.e=0/\z27 R=[]:=by
 have hl:=zkl (R:=R)
 unfold RdM.done RdM.fail
 by_cases h:R.at_<R.bs.length
 ·rw [if_pos h]
  constructor
  ·intro h2
   by_cases h3:R.e=0
   ·simp [h3] at h2
   ·simp [h3] at h2
  ·rintro ⟨-,h2⟩
   rw [h2] at hl;simp at hl;omega
 ·rw [if_neg h]
  exact ⟨λh2=>⟨h2,List.length_eq_zero_iff.1 (by omega)⟩,λh2=>h2.1⟩
def zig (n:Int):Nat:=if 0<=n then (2*n).toNat else (-2*n-1).toNat
def zag (m:Nat):Int:=if m % 2=1 then -((m / 2:Nat):Int)-1 else ((m / 2:Nat):Int)
def z3b (n:Int):List UInt8:=z2i (zig n)
theorem zo0 (n:Int):zag (zig n)=n:=by
 unfold zag zig
 split <;> split <;> omega
theorem zze (m:Nat):zig (zag m)=m:=by
 unfold zag zig
 split <;> split <;> omega
theorem zld {n:Int} (h : -9223372036854775808<=n/\n<9223372036854775808):zig n<18446744073709551616:=by
 unfold zig
 split <;> omega
theorem zcl (n:Int):0<(z3b n).length/\(z3b n).length<=10:=z69 _
theorem xor_zero (x:BitVec 64):x ^^^ BitVec.ofInt 64 0=x:=by
 have:BitVec.ofInt 64 0=0#64:=by decide
 rw [this,BitVec.xor_zero]
theorem zkw (x:BitVec 64) {n:Int} (hn:BitVec.ofInt 64 n=BitVec.allOnes 64):(x ^^^ BitVec.ofInt 64 n).toNat=18446744073709551615-x.toNat:=by
 rw [hn,BitVec.xor_allOnes,BitVec.toNat_not]
theorem toNat_ofInt (n:Int):(BitVec.ofInt 64 n).toNat=(n % 18446744073709551616).toNat:=by rw [BitVec.toNat_ofInt];rfl
theorem z4j (n:Int):IntKind.wrap .u64 n=n % 18446744073709551616:=by simp [IntKind.wrap,IntKind.bits,IntKind.signed]
theorem z02i {n:Int} (h : -9223372036854775808<=n/\n<9223372036854775808):Int.fdiv n 9223372036854775808=if 0<=n then 0 else -1:=by
 rw [Int.fdiv_eq_ediv_of_nonneg _ (by omega)]
 split <;> omega
theorem zuu {n:Int} (h : -9223372036854775808<=n/\n<9223372036854775808) :
  (BitVec.toNat (BitVec.ofInt 64 (IntKind.wrap .u64 (IntKind.wrap .u64 n*2)) ^^^ BitVec.ofInt 64 (IntKind.wrap .u64 (Int.fdiv n 9223372036854775808))))=zig n:=by
 rw [z02i h,z4j,z4j]
 unfold zig
 by_cases h0:0<=n
 ·rw [if_pos h0,if_pos h0,z4j,Int.zero_emod,xor_zero,toNat_ofInt];omega
 ·rw [if_neg h0,if_neg h0,zkw _ (by rw [z4j];decide),toNat_ofInt];omega
theorem zvd {m:Nat} (h:m<18446744073709551616) :
  IntKind.wrap .i64 (((BitVec.toNat (BitVec.ofInt 64 (IntKind.wrap .i64 (Int.fdiv (m:Int) 2)) ^^^ BitVec.ofInt 64 (IntKind.wrap .i64 (0-IntKind.wrap .i64 (IntKind.wrap .u64 (((BitVec.toNat (BitVec.ofInt 64 (m:Int) &&& BitVec.ofInt 64 1):Nat):Int)))))):Nat):Int))=zag m:=by
 have e1:(BitVec.toNat (BitVec.ofInt 64 (m:Int) &&& BitVec.ofInt 64 1))=m % 2:=by
  rw [BitVec.toNat_and,toNat_ofInt,toNat_ofInt]
  have h1:((m:Int) % 18446744073709551616).toNat=m:=by omega
  have h2:((1:Int) % 18446744073709551616).toNat=1:=by decide
  rw [h1,h2,Nat.and_one_is_mod]
 have e2:Int.fdiv (m:Int) 2=((m / 2:Nat):Int):=by rw [Int.fdiv_eq_ediv_of_nonneg _ (by omega)];omega
 rw [e1,e2,z4j,w64 (x:=((m / 2:Nat):Int)) (by omega) (by omega)]
 unfold zag
 by_cases h0:m % 2=1
 ·rw [if_pos h0,h0]
  have e3:IntKind.wrap .i64 (0-IntKind.wrap .i64 ((((1:Nat):Int)) % 18446744073709551616)) = -1:=by decide
  rw [e3,zkw _ (by decide),toNat_ofInt]
  have e4:((((m / 2:Nat):Int)) % 18446744073709551616).toNat=m / 2:=by omega
  rw [e4]
  have e5:IntKind.wrap .i64 ((18446744073709551615-m / 2:Nat):Int) = -((m / 2:Nat):Int)-1:=by
   rw [zo3];split <;> omega
  exact e5
 ·rw [if_neg h0]
  have h2:m % 2=0:=by omega
  rw [h2]
  have e3:IntKind.wrap .i64 (0-IntKind.wrap .i64 ((((0:Nat):Int)) % 18446744073709551616))=0:=by decide
  rw [e3,xor_zero,toNat_ofInt]
  have e4:((((m / 2:Nat):Int)) % 18446744073709551616).toNat=m / 2:=by omega
  rw [e4,w64 (by omega) (by omega)]
def RdM.within (R:RdM) (lo hi:Int):Int × RdM :=
 if R.uint.2.e≠0 then (0,R.uint.2) else if zag R.uint.1<lo\/zag R.uint.1>hi then (0,⟨R.bs,R.at_,8⟩) else (zag R.uint.1,R.uint.2)
theorem zjz {R:RdM} (h:R.e≠0):R.uint=(0,R):=by unfold RdM.uint;rw [if_pos h]
section
variable {w:World} {l r:List HP} {p:Nat} {R:RdM}
theorem zyd (n:Int) (hn : -9223372036854775808<=n/\n<9223372036854775808) (hs:Sat w l):Ret P F.a146 #[.int .i64 n] w λvs w'=>∃ z:Sl,vs=[z.v]/\Sat w' (slc T.a38 1 z ((z3b n).flatMap zg)::l) :=
 zmw n <| by
  unfold zwu z3b
  have hz:=zld hn
  rw [zuu hn]
  generalize zig n=m at hz ⊢
  rw [z60,Nat.mod_eq_of_lt hz]
  refine za (zok m hz hs) λ_ _ hs=>?_
  obtain ⟨z,rfl,hs⟩:=hs
  refine ze ?_
  exact ⟨rfl,z,rfl,hs⟩
theorem zzi (n:Int) (hn : -9223372036854775808<=n/\n<9223372036854775808) (hs:Sat w l):Ret P F.a107 #[.int .i64 n] w λvs w'=>∃ z:Sl,vs=[z.v]/\Sat w' (slc T.a38 1 z ((z3b n).flatMap zg)::l) :=
 zm9 n <| by
  unfold zxx
  have hz:=zld hn
  refine zk (λh=>?_) λh=>?_
  ·have e:IntKind.wrap .u64 (2*IntKind.wrap .u64 n)=((zig n:Nat):Int):=by
    rw [z4j,z4j];unfold zig;rw [if_pos (by omega)];omega
   rw [e]
   refine za (zax 9 (zig n) (by omega) hz hs) λ_ _ hs=>?_
   obtain ⟨z,rfl,hs⟩:=hs
   refine ze ?_
   exact ⟨rfl,z,rfl,hs⟩
  ·have e:IntKind.wrap .u64 (IntKind.wrap .u64 (2*IntKind.wrap .u64 (IntKind.wrap .i64 (0-IntKind.wrap .i64 (n+1))))+1)=((zig n:Nat):Int):=by
    rw [w64 (x:=n+1) (by omega) (by omega),w64 (by omega) (by omega),z4j,z4j,z4j];unfold zig;rw [if_neg (by omega)];omega
   rw [e]
   refine za (zax 9 (zig n) (by omega) hz hs) λ_ _ hs=>?_
   obtain ⟨z,rfl,hs⟩:=hs
   refine ze ?_
   exact ⟨rfl,z,rfl,hs⟩
theorem z03c [hf:Fo l (rdP T.a40) p R r] (hs:Sat w l):Ret P F.a153 #[.pointer (some ⟨p,0,none⟩)] w λvs w'=>vs=[.int .i64 (zag R.uint.1)]/\Sat w' (rdP T.a40 p R.uint.2::r) :=
 zlh _ <| by
  unfold zxo
  have hb:=(z6h (hs.perm hf.perm)).1
  have hlt:R.uint.1<18446744073709551616:=by rcases zqx hb with h|h <;> omega
  refine za (zno (p:=p) hs) λ_ _ hs=>?_
  obtain ⟨rfl,hs⟩:=hs
  refine ze ?_
  refine wp_lt ?_
  rw [zvd hlt]
  refine wp_lt ?_
  exact ⟨rfl,rfl,hs⟩
theorem zsa (lo hi:Int) [hf:Fo l (rdP T.a40) p R r] (hs:Sat w l):Ret P F.a156 #[.pointer (some ⟨p,0,none⟩),.int .i64 lo,.int .i64 hi] w λvs w'=>vs=[.int .i64 (R.within lo hi).1]/\Sat w' (rdP T.a40 p (R.within lo hi).2::r) :=
 zmx _ lo hi <| by
  unfold zww
  have hb0:=z6h (hs.perm hf.perm)
  refine za (zcz (p:=p) hs) λ_ _ hs=>?_
  obtain ⟨rfl,hs⟩:=hs
  refine ze ?_
  refine zk (λh=>?_) λh=>?_
  ·have h:R.e≠0:=by simpa using h
   unfold RdM.within
   rw [zjz h,if_pos h]
   exact ⟨rfl,rfl,hs⟩
  have h:R.e=0:=by simpa using h
  obtain ⟨x,hb,hs⟩:=z2q hs
  refine zy ?_
  refine zd hs ?_
  refine wp_lt ?_
  have hs:Sat _ (rdP T.a40 p R::r):=z1h R hb hs
  refine za (z03c (p:=p) hs) λ_ _ hs=>?_
  obtain ⟨rfl,hs⟩:=hs
  refine ze ?_
  refine wp_lt ?_
  have hbs:=znz R
  unfold RdM.within
  have hb2:=z6h hs
  generalize R.uint.1=m at *
  generalize R.uint.2=R1 at *
  obtain ⟨x,-,hs⟩:=z2q hs
  refine zy ?_
  refine zd hs ?_
  refine zx (λ_ w'=>Sat w' (rdP T.a40 p (if R1.e≠0 then R1 else if zag m<lo\/zag m>hi then ⟨R.bs,R.at_,8⟩ else R1)::r)) ?_ ?_
  ·refine zk (λh2=>?_) λh2=>?_
   ·obtain ⟨h3,h4⟩:=h2
    have e:(if R1.e≠0 then R1 else if zag m<lo\/zag m>hi then (⟨R.bs,R.at_,8⟩:RdM) else R1)=⟨R.bs,R.at_,8⟩:=by rw [if_neg (by rw [h3];simp),if_pos h4]
    refine zy ?_
    refine z0h hs λw' hs=>?_
    refine zy ?_
    have hs:Sat w' (rdP T.a40 p ⟨R.bs,R.at_,0⟩::r):=z1h (x:=x) ⟨R.bs,R.at_,0⟩ hb0 (by rw [hbs,h3] at hs;exact hs)
    refine za (z7a (p:=p) 8 hs) λ_ w' hs=>?_
    obtain ⟨rfl,hs⟩:=hs
    refine ze ?_
    refine zj ?_
    rw [e]
    exact hs
   ·refine zj ?_
    have e:(if R1.e≠0 then R1 else if zag m<lo\/zag m>hi then (⟨R.bs,R.at_,8⟩:RdM) else R1)=R1:=by
     by_cases h3:R1.e=0
     ·rw [if_neg (by rw [h3];simp),if_neg (λh4=>h2 ⟨h3,h4⟩)]
     ·rw [if_pos h3]
    rw [e]
    exact z1h R1 hb2 hs
  clear hs
  rintro _ w hs
  refine zt ?_
  by_cases h3:R1.e=0
  ·rw [if_neg (by rw [h3];simp)] at hs ⊢
   by_cases h4:zag m<lo\/zag m>hi
   ·rw [if_pos h4] at hs ⊢
    obtain ⟨x,-,hs⟩:=z2q hs
    refine zy ?_
    refine zd hs ?_
    refine z1b ?_ (by simp)
    exact ⟨rfl,rfl,z1h ⟨R.bs,R.at_,8⟩ hb0 hs⟩
   ·rw [if_neg h4] at hs ⊢
    obtain ⟨x,-,hs⟩:=z2q hs
    refine zy ?_
    refine zd hs ?_
    refine z0j ?_ (by rw [h3];simp)
    refine wp_lt ?_
    exact ⟨rfl,rfl,z1h R1 hb2 hs⟩
  ·rw [if_pos h3] at hs ⊢
   obtain ⟨x,-,hs⟩:=z2q hs
   refine zy ?_
   refine zd hs ?_
   refine z1b ?_ h3
   exact ⟨rfl,rfl,z1h R1 hb2 hs⟩
end
abbrev Lf:=Option (List UInt8)
def z08:Lf->Nat × Lf
 | none=>(0,none)
 | some bs=>match z35 0 bs with
  | none=>(0,none)
  | some p=>(p.1,some (bs.drop p.2))
def z1z (lo hi:Int) (s:Lf):Int × Lf:=match (z08 s).2 with
 | none=>(0,none)
 | some t=>if zag (z08 s).1<lo\/zag (z08 s).1>hi then (0,none) else (zag (z08 s).1,some t)
def z0m:Lf->Nat × Lf
 | some (c::t)=>(c.toNat,some t)
 | _=>(0,none)
def z2f:Lf->Bool × Lf
 | some (c::t)=>if c.toNat<=1 then (decide (c.toNat=1),some t) else (false,none)
 | _=>(false,none)
def z0x (most:Nat) (s:Lf):ByteArray × Lf:=match (z08 s).2 with
 | none=>(⟨#[]⟩,none)
 | some t=>if (z08 s).1<=most/\(z08 s).1<=t.length then (⟨(t.take (z08 s).1).toArray⟩,some (t.drop (z08 s).1)) else (⟨#[]⟩,none)
def z0f (most:Int) (s:Lf):Int × Lf:=(if ((z08 s).1:Int)>most then most+1 else (z08 s).1,(z08 s).2)
abbrev bl (s:ByteArray):List UInt8:=s.data.toList
theorem z5s {v:Nat} (h:v<18446744073709551616) (t:List UInt8):z08 (some (z2i v++t))=(v,some t):=by
 unfold z08
 simp only [zis h,List.drop_left]
theorem z63 {s:Lf} {t:List UInt8} (h:(z08 s).2=some t):(z08 s).1<18446744073709551616/\s=some (z2i (z08 s).1++t):=by
 cases s with
 | none=>cases h
 | some bs =>
  cases hn:z35 0 bs with
  | none =>
   have e:z08 (some bs)=(0,none):=by unfold z08;simp only [hn]
   rw [e] at h;cases h
  | some p =>
   obtain ⟨v,k⟩:=p
   have e:z08 (some bs)=(v,some (bs.drop k)):=by unfold z08;simp only [hn]
   rw [e] at h ⊢
   obtain ⟨h1,h2⟩:=zer hn
   simp only [Option.some.injEq] at h ⊢
   subst h
   exact ⟨h2,by rw [<- h1,List.take_append_drop]⟩
theorem zkr {lo hi n:Int} (h1:lo<=n) (h2:n<=hi) (hn : -9223372036854775808<=n/\n<9223372036854775808) (t:List UInt8):z1z lo hi (some (z3b n++t))=(n,some t):=by
 unfold z1z z3b
 simp only [z5s (zld hn),zo0]
 rw [if_neg (by omega)]
theorem znm {lo hi:Int} {s:Lf} {t:List UInt8} (h:(z1z lo hi s).2=some t):(lo<=(z1z lo hi s).1/\(z1z lo hi s).1<=hi)/\s=some (z3b (z1z lo hi s).1++t):=by
 unfold z1z at h ⊢
 cases hu:(z08 s).2 with
 | none=>rw [hu] at h;cases h
 | some t' =>
  have h2:=z63 hu
  rw [hu] at h
  simp only at h ⊢
  split at h
  ·cases h
  rename_i h3
  simp only [Option.some.injEq] at h
  subst h
  rw [if_neg h3]
  refine ⟨by omega,?_⟩
  unfold z3b
  rw [zze]
  exact h2.2
theorem zcu {s:Lf} {t:List UInt8} (h:(z0m s).2=some t):(z0m s).1<256/\s=some (UInt8.ofNat (z0m s).1::t):=by
 match s,h with
 | some (c::r),h =>
  have h:some r=some t:=h
  cases h
  refine ⟨c.toNat_lt,?_⟩
  show some (c::t)=some (UInt8.ofNat c.toNat::t)
  rw [UInt8.ofNat_toNat]
 | some [],h=>cases h
 | none,h=>cases h
def z4z (b:Bool):UInt8:=if b then 1 else 0
theorem zg3 (b:Bool) (t:List UInt8):z2f (some (z4z b::t))=(b,some t):=by
 cases b <;> rfl
theorem ztv {s:Lf} {t:List UInt8} (h:(z2f s).2=some t):s=some (z4z (z2f s).1::t):=by
 match s,h with
 | some (c::r),h =>
  unfold z2f at h ⊢
  simp only at h ⊢
  split at h
  ·rename_i h1
   simp only [Option.some.injEq] at h
   subst h
   rw [if_pos h1]
   congr 2
   by_cases h2:c.toNat=1
   ·rw [decide_eq_true h2];exact UInt8.toNat_inj.1 h2
   ·rw [decide_eq_false h2];exact UInt8.toNat_inj.1 (by show c.toNat=0;omega)
  ·cases h
 | some [],h=>cases h
 | none,h=>cases h
theorem z14 (s:ByteArray):(bl s).length=s.size:=rfl
theorem z7n (l:List UInt8):bl ⟨l.toArray⟩=l:=by simp [bl]
theorem z9j {a b:ByteArray} (h:bl a=bl b):a=b:=by
 cases a;cases b;exact congrArg ByteArray.mk (Array.ext' h)
theorem z8n {most:Nat} (x:ByteArray) (h:x.size<=most) (hm:most<4294967296) (t:List UInt8):z0x most (some (uI x.size++(bl x++t)))=(x,some t):=by
 unfold z0x uI
 have e:((x.size:Int)).toNat=x.size:=by omega
 rw [e]
 simp only [z5s (show x.size<18446744073709551616 by omega)]
 rw [if_pos ⟨h,by rw [List.length_append,z14];omega⟩,<- z14,List.take_left,List.drop_left]
theorem zhi {most:Nat} {s:Lf} {t:List UInt8} (h:(z0x most s).2=some t):(z0x most s).1.size<=most/\s=some (uI (z0x most s).1.size++(bl (z0x most s).1++t)):=by
 unfold z0x at h ⊢
 cases hu:(z08 s).2 with
 | none=>rw [hu] at h;cases h
 | some t' =>
  have h2:=z63 hu
  rw [hu] at h
  simp only at h ⊢
  split at h
  rotate_left
  ·cases h
  rename_i h3
  simp only [Option.some.injEq] at h
  subst h
  rw [if_pos h3]
  have e:(ByteArray.mk (t'.take (z08 s).1).toArray).size=(z08 s).1:=by
   show (t'.take (z08 s).1).length=_
   rw [List.length_take];omega
  refine ⟨by rw [e];exact h3.1,?_⟩
  rw [e,z7n,List.take_append_drop]
  unfold uI
  exact h2.2
theorem z5p {most n:Int} (h0:0<=n) (hn:n<=most) (hm:most<9223372036854775808) (t:List UInt8):z0f most (some (uI n++t))=(n,some t):=by
 unfold z0f uI
 rw [z5s (by omega),if_neg (by simp only;omega)]
 congr 1
 simp only;omega
theorem z6a {most:Int} (hm:0<=most) {s:Lf} {t:List UInt8} (h:(z0f most s).2=some t):(0<=(z0f most s).1/\(z0f most s).1<=most+1)/\((z0f most s).1<=most->s=some (uI (z0f most s).1++t)):=by
 have h2:=z63 (show (z08 s).2=some t from h)
 unfold z0f
 simp only
 split
 ·exact ⟨⟨by omega,by omega⟩,λh3=>absurd h3 (by omega)⟩
 ·refine ⟨⟨by omega,by omega⟩,λh3=>?_⟩
  unfold uI
  rw [Int.toNat_natCast]
  exact h2.2
def z07:List UInt8->List UInt8->Nat
 | a::x,b::y=>if a=b then z07 x y+1 else 0
 | _,_=>0
theorem z7e:∀ x y:List UInt8,z07 x y<=x.length/\z07 x y<=y.length
 | [],_=>by simp [z07]
 | _::_,[]=>by simp [z07]
 | a::x,b::y=>by
  have:=z7e x y
  unfold z07
  split <;> simp <;> omega
theorem za5:∀ x y:List UInt8,x.take (z07 x y)=y.take (z07 x y)
 | [],_=>by simp [z07]
 | _::_,[]=>by simp [z07]
 | a::x,b::y=>by
  unfold z07
  split
  ·rename_i h
   rw [List.take_succ_cons,List.take_succ_cons,h,za5 x y]
  ·rfl
theorem zd7:∀ {x y:List UInt8} {i:Nat} (h1:i<=x.length) (h2:i<=y.length),x.take i=y.take i->(i=x.length\/i=y.length\/x[i]? ≠ y[i]?)->z07 x y=i
 | [],y,i,h1,h2,_,_=>by simp at h1;simp [z07,h1]
 | _::_,[],i,h1,h2,_,_=>by simp at h2;simp [z07,h2]
 | a::x,b::y,0,_,_,_,h=>by
  unfold z07
  rw [if_neg]
  rintro rfl
  rcases h with h|h|h
  ·simp at h
  ·simp at h
  ·simp at h
 | a::x,b::y,i+1,h1,h2,ht,h=>by
  rw [List.take_succ_cons,List.take_succ_cons,List.cons.injEq] at ht
  unfold z07
  rw [if_pos ht.1,zd7 (by simpa using h1) (by simpa using h2) ht.2]
  rcases h with h|h|h
  ·left;simpa using h
  ·right;left;simpa using h
  ·right;right;simpa using h
def z40 (ahead key:ByteArray):List UInt8:=uI (key.size-z07 (bl ahead) (bl key):Nat)++(bl key).drop (z07 (bl ahead) (bl key))
def z3l (time:Int) (ahead:ByteArray) (r:RecM):List UInt8 :=
 z3b (r.time-time)++(z4z r.gone::(uI (z07 (bl ahead) (bl r.key):Nat)++(z40 ahead r.key++if r.gone then [] else uI r.value.size++bl r.value)))
def z1r (time:Int):ByteArray->List RecM->List UInt8
 | _,[]=>[]
 | ahead,r::rs=>z3l time ahead r++z1r time r.key rs
def z1p (b:BatM):List UInt8 :=
 1::UInt8.ofNat b.kind.toNat::(uI b.base++(uI b.pid++((if b.pid>0 then uI b.epoch++(if z0y b then [] else uI b.seq) else [])++(uI b.time++if z0y b then [] else uI b.rs.length++z1r b.time ⟨#[]⟩ b.rs))))
def BatM.p (b:BatM):BatM:={ b with x:=⟨none,0,0⟩ }
def z43 (ahead:ByteArray) (n:Int) (rest:ByteArray):ByteArray:=ahead.extract 0 n.toNat++rest
def z3n (time:Int) (ahead:ByteArray) (s:Lf):Option RecM × Lf :=
 if (z0f 1024 (z2f (z1z (-1099511627776) 1099511627776 s).2).2).1>ahead.size then (none,(z0x 1024 (z0f 1024 (z2f (z1z (-1099511627776) 1099511627776 s).2).2).2).2) else
 let a:=z1z (-1099511627776) 1099511627776 s
 let b:=z2f a.2
 let c:=z0f 1024 b.2
 let d:=z0x 1024 c.2
 let e:=if b.1 then (⟨#[]⟩,d.2) else z0x 1024 d.2
 if e.2.isSome=true/\(z07 (bl ahead) (bl (z43 ahead c.1 d.1)):Int)=c.1 then (some ⟨z43 ahead c.1 d.1,e.1,b.1,time+a.1⟩,e.2) else (none,e.2)
def z54 (time:Int):Nat->ByteArray->Lf->Option (List RecM × Lf)
 | 0,_,s=>some ([],s)
 | n+1,ahead,s=>match (z3n time ahead s).1 with
  | none=>none
  | some x=>(z54 time n x.key (z3n time ahead s).2).map λq=>(x::q.1,q.2)
theorem zo9 (ahead rest:ByteArray) (n:Int):bl (z43 ahead n rest)=(bl ahead).take n.toNat++bl rest:=by
 unfold z43 bl
 simp [List.extract_eq_take_drop]
theorem zii (ahead key:ByteArray):z43 ahead (z07 (bl ahead) (bl key):Nat) ⟨((bl key).drop (z07 (bl ahead) (bl key))).toArray⟩=key:=by
 apply z9j
 rw [zo9,z7n,Int.toNat_natCast,za5,List.take_append_drop]
theorem z3c {r:RecM} (h:z28 r=0):r.key.size<=1024/\r.value.size<=1024/\(0<=r.time/\r.time<=1099511627776)/\(r.gone=true->r.value=⟨#[]⟩):=by
 unfold z28 at h
 split at h
 ·cases h
 rename_i h1
 split at h
 ·cases h
 rename_i h2
 refine ⟨by omega,by omega,by omega,λhg=>?_⟩
 apply Decidable.byContradiction
 intro h3
 exact h2 (.inr ⟨hg,zjf.2 h3⟩)
theorem zqt {time:Int} (ht:0<=time/\time<=1099511627776) {r:RecM} (hr:z28 r=0) (ahead:ByteArray) (t:List UInt8):z3n time ahead (some (z3l time ahead r++t))=(some r,some t):=by
 obtain ⟨h1,h2,h3,h4⟩:=z3c hr
 have hle:=z7e (bl ahead) (bl r.key)
 rw [z14,z14] at hle
 have hd:(ByteArray.mk ((bl r.key).drop (z07 (bl ahead) (bl r.key))).toArray).size=r.key.size-z07 (bl ahead) (bl r.key):=by
  show ((bl r.key).drop _).length=_
  rw [List.length_drop,z14]
 have e0:z3l time ahead r++t=z3b (r.time-time)++(z4z r.gone::(uI (z07 (bl ahead) (bl r.key):Nat)++(uI ((ByteArray.mk ((bl r.key).drop (z07 (bl ahead) (bl r.key))).toArray).size:Nat)++(bl (ByteArray.mk ((bl r.key).drop (z07 (bl ahead) (bl r.key))).toArray)++((if r.gone then [] else uI r.value.size++bl r.value)++t))))):=by
  rw [hd,z7n]
  unfold z3l z40
  simp only [List.append_assoc,List.cons_append]
 rw [e0]
 generalize hZ:(if r.gone then [] else uI r.value.size++bl r.value)++t=Z
 have e1:=zkr (lo := -1099511627776) (hi:=1099511627776) (n:=r.time-time) (by omega) (by omega) (by omega)
 have e3:=z5p (most:=1024) (n:=(z07 (bl ahead) (bl r.key):Nat)) (by omega) (by omega) (by omega)
 have e4:=z8n (most:=1024) (ByteArray.mk ((bl r.key).drop (z07 (bl ahead) (bl r.key))).toArray) (by rw [hd];omega) (by omega)
 unfold z3n
 simp only [e1,zg3,e3,e4,zii]
 rw [if_neg (by omega)]
 have e5:(if r.gone=true then ((⟨#[]⟩:ByteArray),some Z) else z0x 1024 (some Z))=(r.value,some t):=by
  by_cases hg:r.gone=true
  ·rw [if_pos hg] at hZ ⊢
   rw [h4 hg,<- hZ];rfl
  ·rw [if_neg hg] at hZ ⊢
   rw [<- hZ,List.append_assoc]
   exact z8n _ h2 (by omega) t
 rw [e5]
 simp only [Option.isSome_some,true_and]
 rw [if_pos trivial,show time+(r.time-time)=r.time by omega]
theorem ztc {time:Int} {ahead:ByteArray} (hah:ahead.size<=1024) {s:Lf} {r:RecM} (h:(z3n time ahead s).1=some r):∃ t,(z3n time ahead s).2=some t/\s=some (z3l time ahead r++t):=by
 unfold z3n at h ⊢
 split at h
 ·cases h
 rename_i hc
 rw [if_neg hc]
 simp only at h ⊢
 generalize ha:z1z (-1099511627776) 1099511627776 s=a at *
 generalize hb:z2f a.2=b at *
 generalize hcc:z0f 1024 b.2=c at *
 generalize hd:z0x 1024 c.2=d at *
 generalize he:(if b.1=true then ((⟨#[]⟩:ByteArray),d.2) else z0x 1024 d.2)=e at *
 split at h
 rotate_left
 ·cases h
 rename_i h5
 rw [if_pos h5]
 obtain ⟨h5,h6⟩:=h5
 obtain ⟨t,ht⟩:=Option.isSome_iff_exists.1 h5
 refine ⟨t,ht,?_⟩
 simp only [Option.some.injEq] at h
 have hd2:d.2=some ((if b.1=true then [] else uI e.1.size++bl e.1)++t):=by
  by_cases hg:b.1=true
  ·rw [if_pos hg] at he ⊢
   rw [<- he] at ht
   exact ht
  ·rw [if_neg hg] at he ⊢
   rw [<- he] at ht ⊢
   rw [List.append_assoc]
   exact (zhi ht).2
 rw [<- hd] at hd2
 have h7:=zhi hd2
 rw [hd] at h7
 have hc2:c.2=_:=h7.2
 rw [<- hcc] at hc2
 have h8:=z6a (by omega) hc2
 rw [hcc] at h8
 have hle:=z7e (bl ahead) (bl (z43 ahead c.1 d.1))
 have hb2:=h8.2 (by omega)
 rw [<- hb] at hb2
 have ha2:=ztv hb2
 rw [hb,<- ha] at ha2
 have h9:=znm ha2
 rw [ha] at h9
 rw [h9.2,<- h]
 unfold z3l z40
 simp only
 have hn:c.1.toNat=z07 (bl ahead) (bl (z43 ahead c.1 d.1)):=by omega
 have hl1:((bl ahead).take c.1.toNat).length=c.1.toNat:=by rw [List.length_take,hn];omega
 have hdrop:(bl (z43 ahead c.1 d.1)).drop c.1.toNat=bl d.1:=by
  rw [zo9]
  exact List.drop_left' hl1
 have hsz:(z43 ahead c.1 d.1).size-c.1.toNat=d.1.size:=by
  rw [<- z14,<- z14,<- hdrop,List.length_drop]
 rw [<- hn,hdrop,hsz,show time+a.1-time=a.1 by omega,show ((c.1.toNat:Nat):Int)=c.1 by omega]
 simp only [List.append_assoc,List.cons_append]
theorem zfs {time:Int} (ht:0<=time/\time<=1099511627776):∀ {rs:List RecM} (hr:∀ r ∈ rs,z28 r=0) (ahead:ByteArray) (t:List UInt8),z54 time rs.length ahead (some (z1r time ahead rs++t))=some (rs,some t)
 | [],_,_,_=>rfl
 | r::rs,hr,ahead,t=>by
  have e:=zqt ht (hr r (List.mem_cons_self ..)) ahead (z1r time r.key rs++t)
  show z54 time (rs.length+1) ahead (some ((z3l time ahead r++z1r time r.key rs)++t))=_
  rw [List.append_assoc]
  unfold z54
  rw [e]
  simp only
  rw [zfs ht (λx hx=>hr x (List.mem_cons_of_mem _ hx)) r.key t]
  rfl
theorem zhr {time:Int}:∀ {n:Nat} {ahead:ByteArray} (hah:ahead.size<=1024) {s:Lf} {rs:List RecM} {t:List UInt8} (hk:∀ r ∈ rs,r.key.size<=1024) (h:z54 time n ahead s=some (rs,some t)),rs.length=n/\s=some (z1r time ahead rs++t)
 | 0,ahead,hah,s,rs,t,hk,h=>by
  simp only [z54,Option.some.injEq,Prod.mk.injEq] at h
  obtain ⟨rfl,rfl⟩:=h
  exact ⟨rfl,rfl⟩
 | n+1,ahead,hah,s,rs,t,hk,h=>by
  unfold z54 at h
  cases hx:(z3n time ahead s).1 with
  | none=>rw [hx] at h;cases h
  | some x =>
   rw [hx] at h
   simp only [Option.map_eq_some_iff,Prod.mk.injEq] at h
   obtain ⟨⟨rs',s'⟩,h1,rfl,rfl⟩:=h
   obtain ⟨t1,h2,h3⟩:=ztc hah hx
   rw [h2] at h1
   have hk1:x.key.size<=1024:=hk x (List.mem_cons_self ..)
   obtain ⟨h4,h5⟩:=zhr hk1 (λr hr=>hk r (List.mem_cons_of_mem _ hr)) h1
   simp only [Option.some.injEq] at h5
   refine ⟨by rw [List.length_cons,h4],?_⟩
   rw [h3,h5]
   show some (z3l time ahead x++(z1r time x.key rs'++t))=some ((z3l time ahead x++z1r time x.key rs')++t)
   rw [List.append_assoc]
def z7l:Sl:=⟨none,0,0⟩
structure HdS where
 k:Nat × Lf
 ba:Int × Lf
 pi:Int × Lf
 ep:Int × Lf
 sq:Int × Lf
 tm:Int × Lf
def z1y (k:Nat):Bool:=decide ((k:Int)=2) || decide ((k:Int)=3)
def hdS (s:Lf):HdS :=
 let k:=z0m s
 let ba:=z0f 1099511627776 k.2
 let pi:=z0f 1048576 ba.2
 let ep:=if pi.1>0 then z0f 32767 pi.2 else (0,pi.2)
 let sq:=if pi.1>0/\z1y k.1=false then z0f 2147483647 ep.2 else (0,ep.2)
 ⟨k,ba,pi,ep,sq,z0f 1099511627776 sq.2⟩
def HdS.b (h:HdS) (rs:List RecM):BatM:=⟨h.ba.1,h.pi.1,h.ep.1,h.sq.1,h.k.1,h.tm.1,z7l,rs⟩
def zjx (h:HdS):Option BatM :=
 if h.tm.2.isSome=false\/h.tm.1>1099511627776 then none else
 if z1y h.k.1=true then (if h.tm.2=some []/\z0c (h.b [])=0 then some (h.b []) else none) else
 if (z0f 64 h.tm.2).1>64 then none else
 match z54 h.tm.1 (z0f 64 h.tm.2).1.toNat ⟨#[]⟩ (z0f 64 h.tm.2).2 with
 | none=>none
 | some q=>if q.2=some []/\z0c (h.b q.1)=0 then some (h.b q.1) else none
def z3r (raw:List UInt8):Option BatM:=if (z0m (some raw)).1≠1 then none else zjx (hdS (z0m (some raw)).2)
theorem zjy:∀ {rs:List RecM},z5t rs=0->∀ r ∈ rs,z28 r=0
 | [],_,r,h=>by cases h
 | x::rs,h,r,hr=>by
  have h:(if z28 x≠0 then z28 x else z5t rs)=0:=h
  by_cases hx:z28 x≠0
  ·rw [if_pos hx] at h;exact absurd h hx
  rw [if_neg hx] at h
  rcases List.mem_cons.1 hr with rfl|hr
  ·exact Decidable.not_not.1 hx
  ·exact zjy h r hr
theorem z2p {b:BatM} (hv:z0c b=0):b.rs.length<=64/\∀ r ∈ b.rs,z28 r=0:=by
 unfold z0c at hv
 split at hv
 ·cases hv
 split at hv
 ·cases hv
 rename_i h2
 split at hv
 ·rename_i h3;exact absurd hv h3
 rename_i h3
 exact ⟨by omega,zjy (Decidable.not_not.1 h3)⟩
theorem zyk (b:BatM):z0c b.p=z0c b:=rfl
theorem z00y (b:BatM):z1p b.p=z1p b:=rfl
theorem zb4 {b:BatM} (h:0<=b.kind):z1y b.kind.toNat=z0y b:=by
 unfold z1y z0y
 rw [Int.toNat_of_nonneg h]
theorem zvg {b:BatM} (hv:z0c b=0):∃ s1 s2 s3 s4 s5,hdS (z0m (some (z1p b))).2=⟨(b.kind.toNat,s1),(b.base,s2),(b.pid,s3),(b.epoch,s4),(b.seq,s5),(b.time,some (if z0y b then [] else uI b.rs.length++z1r b.time ⟨#[]⟩ b.rs))⟩:=by
 obtain ⟨-,-,⟨hk,hba,hpi,hep,hsq,htm⟩,hfit,-⟩:=z1e b hv
 unfold z1p
 generalize hY:(if z0y b then [] else uI b.rs.length++z1r b.time ⟨#[]⟩ b.rs)=Y
 have e1:∀ t,z0m (some (UInt8.ofNat b.kind.toNat::t))=(b.kind.toNat,some t):=λt=>by
  show ((UInt8.ofNat b.kind.toNat).toNat,some t)=_
  rw [UInt8.toNat_ofNat']
  congr 1
  omega
 have e2:=z5p (most:=1099511627776) (n:=b.base) hba.1 hba.2 (by omega)
 have e3:=z5p (most:=1048576) (n:=b.pid) hpi.1 hpi.2 (by omega)
 have e4:=z5p (most:=32767) (n:=b.epoch) hep.1 hep.2 (by omega)
 have e5:=z5p (most:=2147483647) (n:=b.seq) hsq.1 hsq.2 (by omega)
 have e6:=z5p (most:=1099511627776) (n:=b.time) htm.1 htm.2 (by omega)
 show ∃ s1 s2 s3 s4 s5,hdS (some (UInt8.ofNat b.kind.toNat::_))=_
 unfold hdS
 simp only [e1,e2,e3,zb4 hk.1]
 by_cases hp:b.pid>0
 ·rw [if_pos hp,if_pos hp]
  by_cases hm:z0y b=true
  ·have hs0:b.seq=0:=by have:=hfit.2;rw [if_pos hm] at this;exact this.1
   simp only [hm,if_true,Bool.true_eq_false,and_false,if_false,List.append_nil,List.append_assoc,e4,e6]
   exact ⟨_,_,_,_,_,by rw [hs0]⟩
  ·have hm:z0y b=false:=by simpa using hm
   simp only [hm,hp,Bool.false_eq_true,and_self,if_true,if_false,List.append_assoc,e4,e5,e6]
   exact ⟨_,_,_,_,_,rfl⟩
 ·have h0:b.pid=0:=by omega
  have hz:b.kind=0/\b.epoch=0/\b.seq=0:=by
   have:=hfit.1
   refine ⟨?_,?_,?_⟩ <;> (apply Decidable.byContradiction;intro h;apply this;simp [h0,h])
  rw [if_neg hp,if_neg hp,if_neg (λh=>hp h.1)]
  simp only [List.nil_append,e6]
  exact ⟨_,_,_,_,_,by rw [hz.2.1,hz.2.2]⟩
theorem zck {b:BatM} (hv:z0c b=0):z3r (z1p b)=some b.p:=by
 obtain ⟨s1,s2,s3,s4,s5,h⟩:=zvg hv
 obtain ⟨-,-,⟨hk,hba,hpi,hep,hsq,htm⟩,hfit,-⟩:=z1e b hv
 obtain ⟨h64,hrs⟩:=z2p hv
 have hb:∀ rs,(HdS.mk (b.kind.toNat,s1) (b.base,s2) (b.pid,s3) (b.epoch,s4) (b.seq,s5) (b.time,some (if z0y b then [] else uI b.rs.length++z1r b.time ⟨#[]⟩ b.rs))).b rs={ b.p with rs:=rs }:=λrs=>by
  unfold HdS.b BatM.p
  simp only [Int.toNat_of_nonneg hk.1]
  rfl
 unfold z3r
 rw [h,if_neg (by show ¬ ((1:Nat)≠1);simp)]
 unfold zjx
 rw [if_neg (by simp only [Option.isSome_some];rintro (h|h);cases h;omega)]
 simp only [hb,zb4 hk.1]
 by_cases hm:z0y b=true
 ·have h0:b.rs=[]:=by have:=hfit.2;rw [if_pos hm] at this;exact List.length_eq_zero_iff.1 this.2
  rw [if_pos hm,if_pos hm]
  have e:{ b.p with rs:=[] }=b.p:=by rw [<- h0];rfl
  rw [e,if_pos ⟨rfl,hv⟩]
 ·have e1:=z5p (most:=64) (n:=(b.rs.length:Int)) (by omega) (by omega) (by omega) (z1r b.time ⟨#[]⟩ b.rs)
  have e2:=zfs htm hrs ⟨#[]⟩ []
  rw [List.append_nil] at e2
  rw [if_neg hm,if_neg hm]
  simp only [e1,Int.toNat_natCast,e2]
  rw [if_neg (by omega),if_pos (by first|exact ⟨rfl,hv⟩|exact ⟨trivial,hv⟩)]
  rfl
theorem zo2 {s:Lf} {t:List UInt8} (h:(hdS s).tm.2=some t) (htm:(hdS s).tm.1<=1099511627776) {rs:List RecM} (hv:z0c ((hdS s).b rs)=0) :
  s=some (UInt8.ofNat ((hdS s).b rs).kind.toNat::(uI ((hdS s).b rs).base++(uI ((hdS s).b rs).pid++((if ((hdS s).b rs).pid>0 then uI ((hdS s).b rs).epoch++(if z0y ((hdS s).b rs) then [] else uI ((hdS s).b rs).seq) else [])++(uI ((hdS s).b rs).time++t))))):=by
 obtain ⟨-,-,⟨hk,hba,hpi,hep,hsq,-⟩,hfit,-⟩:=z1e _ hv
 unfold hdS at *
 unfold HdS.b at *
 simp only at *
 generalize e1:z0m s=k at *
 generalize e2:z0f 1099511627776 k.2=ba at *
 generalize e3:z0f 1048576 ba.2=pi at *
 generalize e4:(if pi.1>0 then z0f 32767 pi.2 else (0,pi.2))=ep at *
 generalize e5:(if pi.1>0/\z1y k.1=false then z0f 2147483647 ep.2 else (0,ep.2))=sq at *
 have hmk:z0y (⟨ba.1,pi.1,ep.1,sq.1,k.1,(z0f 1099511627776 sq.2).1,z7l,rs⟩:BatM)=z1y k.1:=rfl
 have h6:=(z6a (by omega) h).2 htm
 have h5:ep.2=some ((if pi.1>0/\z1y k.1=false then uI sq.1 else [])++(uI (z0f 1099511627776 sq.2).1++t)):=by
  generalize (z0f 1099511627776 sq.2).1=tm at *
  by_cases hc:pi.1>0/\z1y k.1=false
  ·rw [if_pos hc] at e5 ⊢
   rw [<- e5] at h6 hsq ⊢
   exact (z6a (by omega) h6).2 hsq.2
  ·rw [if_neg hc] at e5 ⊢
   rw [<- e5] at h6
   exact h6
 generalize (z0f 1099511627776 sq.2).1=tm at *
 have h4:pi.2=some ((if pi.1>0 then uI ep.1 else [])++((if pi.1>0/\z1y k.1=false then uI sq.1 else [])++(uI tm++t))):=by
  by_cases hc:pi.1>0
  ·rw [if_pos hc] at e4 ⊢
   rw [<- e4] at h5 hep ⊢
   exact (z6a (by omega) h5).2 hep.2
  ·rw [if_neg hc] at e4 ⊢
   rw [<- e4] at h5
   exact h5
 rw [<- e3] at h4 hpi
 have h3:=(z6a (by omega) h4).2 hpi.2
 rw [e3] at h3
 rw [<- e2] at h3 hba
 have h2:=(z6a (by omega) h3).2 hba.2
 rw [e2] at h2
 rw [<- e1] at h2
 have h1:=(zcu h2).2
 rw [e1] at h1
 have e:(if pi.1>0 then uI ep.1 else [])++((if pi.1>0/\z1y k.1=false then uI sq.1 else [])++(uI tm++t))=(if pi.1>0 then uI ep.1++(if z1y k.1 then [] else uI sq.1) else [])++(uI tm++t):=by
  by_cases hp:pi.1>0
  ·by_cases hm:z1y k.1=true
   ·simp [hp,hm]
   ·simp [hp,hm]
  ·simp [hp]
 rw [h1,hmk,Int.toNat_natCast,e]
theorem zbn {raw:List UInt8} {b:BatM} (h:z3r raw=some b):z0c b=0/\z1p b=raw/\b.p=b:=by
 unfold z3r at h
 split at h
 ·cases h
 rename_i h1
 have h1:(z0m (some raw)).1=1:=Decidable.not_not.1 h1
 generalize hs:(z0m (some raw)).2=s at h
 have hraw:∀ t,s=some t->raw=1::t:=λt ht=>by
  rw [<- hs] at ht
  have:=(zcu ht).2
  rw [h1] at this
  exact Option.some.inj this
 unfold zjx at h
 split at h
 ·cases h
 rename_i h2
 have h3:(hdS s).tm.2.isSome=true:=by
  cases he:(hdS s).tm.2.isSome with
  | true=>rfl
  | false=>exact absurd (.inl he) h2
 have h4:(hdS s).tm.1<=1099511627776:=by omega
 obtain ⟨t,ht⟩:=Option.isSome_iff_exists.1 h3
 split at h
 ·rename_i hm
  split at h
  rotate_left
  ·cases h
  rename_i h5
  simp only [Option.some.injEq] at h
  subst h
  refine ⟨h5.2,?_,rfl⟩
  have h6:=hraw _ (zo2 h5.1 h4 h5.2)
  rw [h6]
  have hm:z0y ((hdS s).b [])=true:=hm
  unfold z1p
  rw [hm]
  rfl
 ·rename_i hm
  split at h
  ·cases h
  rename_i h7
  cases hr:z54 (hdS s).tm.1 (z0f 64 (hdS s).tm.2).1.toNat ⟨#[]⟩ (z0f 64 (hdS s).tm.2).2 with
  | none=>rw [hr] at h;cases h
  | some q =>
   rw [hr] at h
   simp only at h
   split at h
   rotate_left
   ·cases h
   rename_i h5
   simp only [Option.some.injEq] at h
   subst h
   refine ⟨h5.2,?_,rfl⟩
   obtain ⟨rs,q2⟩:=q
   obtain ⟨rfl,h5⟩:=h5
   have hrs:=(z2p h5).2
   obtain ⟨h8,h9⟩:=zhr (by decide) (λr hr=>(z3c (hrs r hr)).1) hr
   have h10:=z6a (by omega) h9
   have h11:=h10.2 (by omega)
   have h6:=hraw _ (zo2 h11 h4 h5)
   rw [h6]
   have hm:z0y ((hdS s).b rs)≠true:=hm
   unfold z1p
   rw [if_neg hm,if_neg hm]
   have e:((hdS s).b rs).rs.length=(z0f 64 (hdS s).tm.2).1:=by
    have h12:=h10.1
    have h13:rs.length=(z0f 64 (hdS s).tm.2).1.toNat:=h8
    show ((rs.length:Nat):Int)=_
    rw [h13,Int.toNat_of_nonneg h12.1]
   rw [e,List.append_nil]
   rfl
theorem Ret.mono {P:Program} {f:FuncId} {args:Array Value} {w:World} {R R':List Value->World->Prop} (h:Ret P f args w R) (hi:∀ vs w',R vs w'->R' vs w'):Ret P f args w R' :=
 Calls.mono h λe w' ⟨vs,he,hv⟩=>⟨vs,he,hi _ _ hv⟩
def stR (R:RdM):Lf:=if R.e=0 then some (z27 R) else none
theorem z3k {R:RdM} (h:R.e=0):stR R=some (z27 R):=if_pos h
theorem z4h {R:RdM} (h:R.e≠0):stR R=none:=if_neg h
theorem zlb {R:RdM}:(stR R).isSome=decide (R.e=0):=by
 unfold stR;split <;> simp [*]
theorem zb1 {R:RdM}:(R.uint).1=(z08 (stR R)).1/\stR R.uint.2=(z08 (stR R)).2:=by
 by_cases h:R.e=0
 ·rw [z3k h]
  cases hn:z35 0 (R.bs.drop R.at_) with
  | none =>
   have e1:R.uint=(0,⟨R.bs,R.at_,6⟩):=by unfold RdM.uint;rw [if_neg (by rw [h];simp)];simp only [hn]
   have e2:z08 (some (z27 R))=(0,none):=by unfold z08 z27;simp only [hn]
   rw [e1,e2]
   exact ⟨rfl,if_neg (show ¬ (6:Int)=0 by decide)⟩
  | some q =>
   have e1:R.uint=(q.1,⟨R.bs,R.at_+q.2,R.e⟩):=by unfold RdM.uint;rw [if_neg (by rw [h];simp)];simp only [hn]
   have e2:z08 (some (z27 R))=(q.1,some ((z27 R).drop q.2)):=by unfold z08 z27;simp only [hn]
   rw [e1,e2]
   refine ⟨rfl,?_⟩
   show (if R.e=0 then some (R.bs.drop (R.at_+q.2)) else none)=some ((R.bs.drop R.at_).drop q.2)
   rw [if_pos h,List.drop_drop]
 ·rw [zjz h]
  show 0=(z08 (stR R)).1/\stR R=(z08 (stR R)).2
  rw [z4h h]
  exact ⟨rfl,rfl⟩
theorem zhp {R:RdM} {lo hi:Int}:(R.within lo hi).1=(z1z lo hi (stR R)).1/\stR (R.within lo hi).2=(z1z lo hi (stR R)).2:=by
 obtain ⟨h1,h2⟩:=zb1 (R:=R)
 unfold RdM.within z1z
 rw [<- h1,<- h2]
 by_cases h:R.uint.2.e=0
 ·rw [if_neg (by rw [h];simp),z3k h]
  simp only
  by_cases hc:zag R.uint.1<lo\/zag R.uint.1>hi
  ·rw [if_pos hc,if_pos hc]
   exact ⟨rfl,if_neg (show ¬ (8:Int)=0 by decide)⟩
  ·rw [if_neg hc,if_neg hc]
   exact ⟨rfl,z3k h⟩
 ·rw [if_pos h]
  show 0=_/\stR R.uint.2=_
  rw [z4h h]
  exact ⟨rfl,rfl⟩
def rdS (T':TypeId) (p:Nat) (s:Lf):HP:=HP.ex λR:RdM=>HP.and (stR R=s) (rdP T' p R)
section
variable {w:World} {l r:List HP} {p:Nat} {s:Lf} {T':TypeId}
theorem z73 (hs:Sat w (rdS T' p s::l)):∃ R:RdM,stR R=s/\Sat w (rdP T' p R::l):=by
 obtain ⟨R,hs⟩:=hs.ex
 obtain ⟨h,hs⟩:=hs.and
 exact ⟨R,h,hs⟩
theorem z2w {R:RdM} (h:stR R=s) (hs:Sat w (rdP T' p R::l)):Sat w (rdS T' p s::l):=.ex_mk R (.and_mk h hs)
theorem zse (x:Sl) (bs:List UInt8) [hx:FocR l x 1 (bs.flatMap zg)] (hn:bs.length<=1000000000) (hs:Sat w l) :
  Ret P F.a148 #[x.v] w λvs w'=>∃ p:Nat,vs=[.pointer (some ⟨p,0,none⟩)]/\Sat w' (rdS T.a40 p (some bs)::l) :=
 (zm6 x bs hn hs).mono λ_ _ h=>by
  obtain ⟨p,rfl,hs⟩:=h
  exact ⟨p,rfl,z2w (R:=⟨bs,0,0⟩) rfl hs⟩
theorem zgx [hf:Fo l (rdS T.a40) p s r] (hs:Sat w l):Ret P F.a155 #[.pointer (some ⟨p,0,none⟩)] w λvs w'=>vs=[.int .u64 ((z08 s).1:Int)]/\Sat w' (rdS T.a40 p (z08 s).2::r):=by
 obtain ⟨R,rfl,hs⟩:=z73 (hs.perm hf.perm)
 refine (zno (p:=p) hs).mono λ_ _ h=>?_
 obtain ⟨rfl,hs⟩:=h
 exact ⟨by rw [zb1.1],z2w zb1.2 hs⟩
theorem zsc (lo hi:Int) [hf:Fo l (rdS T.a40) p s r] (hs:Sat w l):Ret P F.a156 #[.pointer (some ⟨p,0,none⟩),.int .i64 lo,.int .i64 hi] w λvs w'=>vs=[.int .i64 (z1z lo hi s).1]/\Sat w' (rdS T.a40 p (z1z lo hi s).2::r):=by
 obtain ⟨R,rfl,hs⟩:=z73 (hs.perm hf.perm)
 refine (zsa (p:=p) lo hi hs).mono λ_ _ h=>?_
 obtain ⟨rfl,hs⟩:=h
 exact ⟨by rw [zhp.1],z2w zhp.2 hs⟩
theorem zt0 [hf:Fo l (rdS T.a40) p s r] (hs:Sat w l):Ret P F.a151 #[.pointer (some ⟨p,0,none⟩)] w λvs w'=>∃ e:Int,vs=[.int .i64 e]/\(e=0↔s.isSome=true)/\Sat w' (rdS T.a40 p s::r):=by
 obtain ⟨R,rfl,hs⟩:=z73 (hs.perm hf.perm)
 refine (z01o (p:=p) hs).mono λ_ _ h=>?_
 obtain ⟨rfl,hs⟩:=h
 exact ⟨R.e,rfl,by rw [zlb,decide_eq_true_iff],z2w rfl hs⟩
theorem zsm [hf:Fo l (rdS T.a40) p s r] (hs:Sat w l):Ret P F.a150 #[.pointer (some ⟨p,0,none⟩)] w λvs w'=>∃ e:Int,vs=[.int .i64 e]/\(e=0↔s=some [])/\Sat w' r:=by
 obtain ⟨R,rfl,hs⟩:=z73 (hs.perm hf.perm)
 have hb:=(z6h hs).1
 refine (z030 (p:=p) hs).mono λ_ _ h=>?_
 obtain ⟨rfl,hs⟩:=h
 refine ⟨_,rfl,?_,hs.tail⟩
 rw [zpn hb]
 unfold stR
 by_cases h:R.e=0 <;> simp [h]
end
section
variable {w:World} {l r:List HP} {p:Nat} {R:RdM}
theorem ziv:∀ (l:List UInt8) (j:Nat),z6p (l.drop j)<=z6p l
 | [],j=>by simp
 | c::l,0=>Nat.le_refl _
 | c::l,j+1=>by
  have:=ziv l j
  rw [List.drop_succ_cons]
  show _<=c.toNat % 128+128*z6p l
  omega
theorem zsb (x:Sl) (bs:List UInt8) [hx:FocR l x 1 (bs.flatMap zg)] (hn:bs.length<=1000000000) (hs:Sat w l) :
  Ret P F.a118 #[x.v] w λvs w'=>vs=[.int .u64 ((((z35 0 bs).getD (0,0)).1:Nat):Int),.int .i64 ((((z35 0 bs).getD (0,0)).2:Nat):Int)]/\Sat w' l :=
 zmt x <| by
  unfold zxd
  have hl:=hs.slen x (xs:=bs) (enc:=zg)
  have hle:=zbp bs
  refine zx (λu w'=>u=(((min (z1a bs) 10:Nat):Int),())/\Sat w' l) ?_ ?_
  ·refine z0e (λk u w=>∃ i:Nat,u=((i:Int),())/\i<=z1a bs/\i<=10/\10-i=k/\Sat w l) 10 ⟨0,rfl,by omega,by omega,rfl,hs⟩ ?_
   clear hs
   rintro k _ w ⟨i,rfl,hi,hi10,hk,hs⟩
   refine zt ?_
   refine z8y hs (xs:=bs) (enc:=zg) (((bs.getD i 0).toNat:Nat):Int) (λhg=>?_) ?_
   ·simp only [Bool.and_eq_true,decide_eq_true_eq] at hg
    refine ⟨i,by omega,rfl,?_⟩
    rw [List.getD_eq_getElem?_getD,List.getElem?_eq_getElem (by omega)]
    rfl
   refine zk (λh=>?_) λh=>?_
   ·have hib:i<bs.length:=by omega
    have hgd:bs.getD i 0=bs[i]:=by rw [List.getD_eq_getElem?_getD,List.getElem?_eq_getElem hib];rfl
    rw [hgd] at h
    refine z1l (y:=((i+1:Nat):Int)) ?_ (by rw [w64 (by omega) (by omega)];omega)
    refine z0q (10-(i+1)) ?_
    refine ⟨i+1,rfl,?_,by omega,rfl,hs⟩
    apply Nat.lt_of_le_of_ne hi
    intro e
    have:=zde bs (by omega)
    simp only [<- e] at this
    omega
   ·refine zv (zj ⟨?_,hs⟩)
    have:i=min (z1a bs) 10:=by
     by_cases h10:i=10
     ·omega
     ·have:i=z1a bs:=by
       apply Nat.le_antisymm hi
       apply Nat.le_of_not_lt
       intro h2
       have h3:=zhk bs i h2
       have hib:i<bs.length:=by omega
       have hgd:bs.getD i 0=bs[i]:=by rw [List.getD_eq_getElem?_getD,List.getElem?_eq_getElem hib];rfl
       rw [hgd] at h
       exact h (by omega)
      omega
    rw [<- this]
  clear hs
  rintro _ w ⟨rfl,hs⟩
  refine zt ?_
  have hnum:=zjh bs 0
  refine zk (λh=>?_) λh=>?_
  ·rw [dif_neg (by omega)] at hnum
   rw [hnum]
   exact ⟨rfl,rfl,hs⟩
  have hL:z1a bs<bs.length:=by omega
  have hmin:min (z1a bs) 10=z1a bs:=by omega
  have hL10:z1a bs<10:=by omega
  rw [dif_pos ⟨hL,by omega⟩] at hnum
  rw [hmin]
  have hend:=zde bs hL
  refine z8y hs (xs:=bs) (enc:=zg) (((bs[z1a bs]).toNat:Nat):Int) (λ_=>⟨z1a bs,hL,rfl,rfl⟩) ?_
  refine z8y hs (xs:=bs) (enc:=zg) (((bs[z1a bs]).toNat:Nat):Int) (λ_=>⟨z1a bs,hL,rfl,rfl⟩) ?_
  refine zk (λh2=>?_) λh2=>?_
  ·rw [if_pos (by omega)] at hnum
   rw [hnum]
   exact ⟨rfl,rfl,hs⟩
  rw [if_neg (by omega)] at hnum
  have h64:=(zer hnum).2
  rw [hnum]
  refine wp_lt ?_
  refine zx (λu w'=>u=(((z6p (bs.take (z1a bs+1)):Nat):Int),())/\Sat w' l) ?_ ?_
  rotate_left
  ·rintro _ w' ⟨rfl,hs⟩
   refine zt ?_
   refine wp_lt ?_
   refine z1l (y:=((z1a bs+1:Nat):Int)) ?_ (by rw [w64 (by omega) (by omega)];omega)
   exact ⟨rfl,rfl,hs⟩
  have hpl:(bs.take (z1a bs+1)).length=z1a bs+1:=by rw [List.length_take];omega
  refine z0e (λk u w=>u=(((z6p ((bs.take (z1a bs+1)).drop k):Nat):Int),(k:Int)-1,())/\k<=z1a bs+1/\Sat w l) (z1a bs+1) ⟨?_,by omega,hs⟩ ?_
  ·rw [List.drop_eq_nil_of_le (by omega)]
   simp [z6p]
  clear hs
  rintro k _ w ⟨rfl,hk,hs⟩
  refine zt ?_
  refine zk (λhc=>?_) λhc=>?_
  rotate_left
  ·refine zv (zj ⟨?_,hs⟩)
   obtain rfl:k=0:=by omega
   rfl
  obtain ⟨j,rfl⟩:∃ j,k=j+1:=⟨k-1,by omega⟩
  have hjb:j<bs.length:=by omega
  have hd:z6p ((bs.take (z1a bs+1)).drop j)=bs[j].toNat % 128+128*z6p ((bs.take (z1a bs+1)).drop (j+1)):=by
   rw [List.drop_eq_getElem_cons (by omega),List.getElem_take];rfl
  have hv:=ziv (bs.take (z1a bs+1)) j
  refine z24 hs (xs:=bs) (enc:=zg) j hjb ?_
  have e1:IntKind.wrap .u64 (IntKind.wrap .u64 (((z6p ((bs.take (z1a bs+1)).drop (j+1)):Nat):Int)*128)+IntKind.wrap .u64 (Int.tmod ((bs[j].toNat:Nat):Int) 128))=((z6p ((bs.take (z1a bs+1)).drop j):Nat):Int):=by
   rw [zbk _ (by decide),z60]
   have:((bs[j].toNat % Int.toNat 128:Nat):Int)=((bs[j].toNat % 128:Nat):Int):=rfl
   have e2:((z6p ((bs.take (z1a bs+1)).drop (j+1)):Nat):Int)*128=((z6p ((bs.take (z1a bs+1)).drop (j+1))*128:Nat):Int):=rfl
   rw [e2,z60,<- Int.natCast_add,z60,hd]
   congr 1
   show (_ % _+bs[j].toNat % 128 % _) % _=_
   omega
  refine zdt e1 ?_
  refine z1l (y:=(j:Int)-1) ?_ (by rw [w64 (by omega) (by omega)];omega)
  refine z0q j ?_
  exact ⟨rfl,by omega,hs⟩
end
abbrev polyB:BitVec 32:=0xEDB88320#32
def zfg (s:BitVec 32):BitVec 32:=(s >>> 1) ^^^ (polyB &&& (0#32-(s &&& 1#32)))
def zeu:Nat->BitVec 32->BitVec 32
 | 0,s=>s
 | k+1,s=>zfg (zeu k s)
def zgy (s:BitVec 32) (c:UInt8):BitVec 32:=zeu 8 (s ^^^ BitVec.ofNat 32 c.toNat)
def z45 (s:BitVec 32) (bs:List UInt8):BitVec 32:=bs.foldl zgy s
def zj6 (x:BitVec 32) (bs:List UInt8):BitVec 32 := ~~~ (z45 (~~~ x) bs)
def z66 (bs:List UInt8):Nat:=(zj6 0#32 bs).toNat
def z2e (n:Nat):List UInt8:=[UInt8.ofNat n,UInt8.ofNat (n / 256),UInt8.ofNat (n / 65536),UInt8.ofNat (n / 16777216)]
def z0g:List UInt8->Nat
 | a::b::c::d::_=>a.toNat+256*b.toNat+65536*c.toNat+16777216*d.toNat
 | _=>0
def z2g (bs:List UInt8):List UInt8:=z2e bs.length++bs
def z21 (bs:List UInt8):List UInt8:=if bs.length>262144 then [] else z2g bs++z2e (z66 (z2g bs))
def z10 (b:List UInt8):Option (List UInt8 × Nat) :=
 if b.length<8\/z0g b>262144\/z0g b+8>b.length then none else if z0g (b.drop (z0g b+4))=z66 (b.take (z0g b+4)) then some ((b.drop 4).take (z0g b),z0g b+8) else none
def z64 (s:BitVec 32) (b:Bool):BitVec 32:=(s >>> 1) ^^^ (if (s.getLsbD 0 != b)=true then polyB else 0#32)
def z97 (c:BitVec 32):Nat->BitVec 32->BitVec 32
 | 0,s=>s
 | k+1,s=>z64 (z97 c k s) (c.getLsbD k)
theorem zzt (x:BitVec 32):x &&& 1#32=if x.getLsbD 0=true then 1#32 else 0#32:=by
 apply BitVec.eq_of_getLsbD_eq
 intro i hi
 rw [BitVec.getLsbD_and,BitVec.getLsbD_one]
 by_cases h0:i=0
 ·subst h0
  by_cases hx:x.getLsbD 0=true
  ·rw [if_pos hx,hx];rfl
  ·have hx':x.getLsbD 0=false:=by cases h:x.getLsbD 0 with
    | false=>rfl
    | true=>exact absurd h hx
   rw [if_neg hx,hx'];rfl
 ·have:(decide (i=0))=false:=decide_eq_false h0
  by_cases hx:x.getLsbD 0=true
  ·rw [if_pos hx];simp [h0]
  ·rw [if_neg hx];simp [h0]
theorem zzl (x:BitVec 32):zfg x=(x >>> 1) ^^^ (if x.getLsbD 0=true then polyB else 0#32):=by
 unfold zfg
 rw [zzt]
 by_cases hx:x.getLsbD 0=true
 ·rw [if_pos hx,if_pos hx];rfl
 ·rw [if_neg hx,if_neg hx];rfl
theorem zug (r c:BitVec 32):zfg (r ^^^ c)=z64 r (c.getLsbD 0) ^^^ (c >>> 1):=by
 rw [zzl,BitVec.ushiftRight_xor_distrib,BitVec.getLsbD_xor]
 unfold z64
 have:((r.getLsbD 0 ^^ c.getLsbD 0)=true)=((r.getLsbD 0 != c.getLsbD 0)=true):=by cases r.getLsbD 0 <;> cases c.getLsbD 0 <;> rfl
 simp only [this]
 rw [BitVec.xor_assoc,BitVec.xor_comm (c >>> 1),<- BitVec.xor_assoc]
theorem zpo (c:BitVec 32) (k:Nat):(c >>> k) >>> 1=c >>> (k+1):=by rw [BitVec.shiftRight_add]
theorem zl9 (r c:BitVec 32):∀ k,zeu k (r ^^^ c)=z97 c k r ^^^ (c >>> k)
 | 0=>by simp [zeu,z97]
 | k+1=>by
  show zfg (zeu k (r ^^^ c))=z64 (z97 c k r) (c.getLsbD k) ^^^ _
  rw [zl9 r c k,zug,zpo]
  congr 2
theorem ztq (s:BitVec 32) (c:UInt8):zgy s c=z97 (BitVec.ofNat 32 c.toNat) 8 s:=by
 unfold zgy
 rw [zl9]
 have:BitVec.ofNat 32 c.toNat >>> 8=0#32:=by
  apply BitVec.eq_of_toNat_eq
  rw [BitVec.toNat_ushiftRight,BitVec.toNat_ofNat,Nat.shiftRight_eq_div_pow]
  have:=c.toNat_lt
  rw [Nat.mod_eq_of_lt (by omega)]
  show c.toNat / 2 ^ 8=0
  omega
 rw [this];simp
theorem ztf (a b c d:UInt8) (r:List UInt8):z0g (a::b::c::d::r)=a.toNat+256*b.toNat+65536*c.toNat+16777216*d.toNat:=rfl
theorem zkg {n:Nat} (h:n<4294967296) (r:List UInt8):z0g (z2e n++r)=n:=by
 unfold z2e z0g
 simp
 omega
theorem zb5:∀ (b:List UInt8),4<=b.length->z2e (z0g b)=b.take 4/\z0g b<4294967296
 | a::b::c::d::r,_=>by
  have h1:=a.toNat_lt
  have h2:=b.toNat_lt
  have h3:=c.toNat_lt
  have h4:=d.toNat_lt
  rw [ztf]
  refine ⟨?_,by omega⟩
  have e:∀ (x:UInt8) (n:Nat),n % 256=x.toNat->UInt8.ofNat n=x:=λx n h=>by
   apply UInt8.toNat_inj.1
   simp [h]
  unfold z2e
  rw [e a _ (by omega),e b _ (by omega),e c _ (by omega),e d _ (by omega)]
  rfl
theorem z3t (n:Nat):(z2e n).length=4:=rfl
theorem zhg (bs:List UInt8):z66 bs<4294967296:=(zj6 0#32 bs).isLt
theorem z6n {bs:List UInt8} (h:bs.length<=262144) (r:List UInt8):z10 (z21 bs++r)=some (bs,bs.length+8):=by
 have hs:=zhg (z2g bs)
 have hl:(z2g bs).length=bs.length+4:=by unfold z2g;rw [List.length_append,z3t];omega
 have e0:z21 bs++r=z2g bs++(z2e (z66 (z2g bs))++r):=by unfold z21;rw [if_neg (by omega),List.append_assoc]
 have e1:z0g (z21 bs++r)=bs.length:=by
  rw [e0];unfold z2g;rw [List.append_assoc];exact zkg (by omega) _
 have e2:(z21 bs++r).length=bs.length+8+r.length:=by
  rw [e0,List.length_append,List.length_append,hl,z3t];omega
 unfold z10
 rw [e1,e2,if_neg (by omega),e0,<- hl,List.drop_left,List.take_left,zkg hs,if_pos rfl]
 congr 2
 unfold z2g
 rw [List.append_assoc,show (4:Nat)=(z2e bs.length).length from rfl,List.drop_left,List.take_left]
theorem z5n {b body:List UInt8} {n:Nat} (h:z10 b=some (body,n)):n=body.length+8/\n<=b.length/\body.length<=262144/\b.take n=z21 body:=by
 unfold z10 at h
 split at h
 ·cases h
 rename_i h1
 split at h
 ·rename_i h2
  simp only [Option.some.injEq,Prod.mk.injEq] at h
  obtain ⟨rfl,rfl⟩:=h
  have hbl:((b.drop 4).take (z0g b)).length=z0g b:=by rw [List.length_take,List.length_drop];omega
  refine ⟨by rw [hbl],by omega,by rw [hbl];omega,?_⟩
  have hh:z2g ((b.drop 4).take (z0g b))=b.take (z0g b+4):=by
   unfold z2g
   rw [hbl,(zb5 b (by omega)).1,Nat.add_comm,List.take_add]
  unfold z21
  rw [if_neg (by rw [hbl];omega),hh,<- h2,(zb5 (b.drop (z0g b+4)) (by rw [List.length_drop];omega)).1,show z0g b+8=(z0g b+4)+4 from rfl,List.take_add]
 ·cases h
theorem zi6 (b:List UInt8):z10 b=if b.length<8\/z0g b>262144\/z0g b+8>b.length then none else if z21 ((b.drop 4).take (z0g b))=b.take (z0g b+8) then some ((b.drop 4).take (z0g b),z0g b+8) else none:=by
 by_cases h1:b.length<8\/z0g b>262144\/z0g b+8>b.length
 ·unfold z10;rw [if_pos h1,if_pos h1]
 rw [if_neg h1]
 by_cases h2:z21 ((b.drop 4).take (z0g b))=b.take (z0g b+8)
 ·rw [if_pos h2]
  have hbl:((b.drop 4).take (z0g b)).length=z0g b:=by rw [List.length_take,List.length_drop];omega
  have h3:=z6n (bs:=(b.drop 4).take (z0g b)) (by rw [hbl];omega) (b.drop (z0g b+8))
  rw [h2,List.take_append_drop,hbl] at h3
  exact h3
 ·rw [if_neg h2]
  cases hf:z10 b with
  | none=>rfl
  | some q =>
   obtain ⟨g1,g2,g3,g4⟩:=z5n (body:=q.1) (n:=q.2) hf
   unfold z10 at hf
   rw [if_neg h1] at hf
   split at hf
   ·simp only [Option.some.injEq] at hf
    subst hf
    exact absurd g4.symm h2
   ·cases hf
theorem bvi (s:BitVec 32):BitVec.ofInt 32 ((s.toNat:Nat):Int)=s:=by rw [BitVec.ofInt_natCast,BitVec.ofNat_toNat,BitVec.setWidth_eq]
theorem wbv (s:BitVec 32):IntKind.wrap .u32 ((s.toNat:Nat):Int)=((s.toNat:Nat):Int):=by rw [z9y,Nat.mod_eq_of_lt s.isLt]
theorem zsl (s:BitVec 32):BitVec.ofInt 32 4294967295 ^^^ BitVec.ofInt 32 ((s.toNat:Nat):Int) = ~~~ s:=by
 rw [bvi]
 have:BitVec.ofInt 32 4294967295=BitVec.allOnes 32:=by decide +kernel
 rw [this,BitVec.allOnes_xor]
theorem z03w (s:BitVec 32):BitVec.ofInt 32 (Int.fdiv ((s.toNat:Nat):Int) 2)=s >>> 1:=by
 rw [z74 _ (by decide),BitVec.ofInt_natCast]
 apply BitVec.eq_of_toNat_eq
 have:=s.isLt
 rw [BitVec.toNat_ofNat,BitVec.toNat_ushiftRight,Nat.shiftRight_eq_div_pow]
 show s.toNat / 2 % 2 ^ 32=s.toNat / 2 ^ 1
 omega
theorem z00r (s:BitVec 32):BitVec.ofInt 32 (IntKind.wrap .u32 (0-((s.toNat:Nat):Int)))=0#32-s:=by
 apply BitVec.eq_of_toNat_eq
 have:=s.isLt
 have e:IntKind.wrap .u32 (0-((s.toNat:Nat):Int))=(((4294967296-s.toNat) % 4294967296:Nat):Int):=by
  simp [IntKind.wrap,IntKind.bits,IntKind.signed];omega
 rw [e,BitVec.ofInt_natCast,BitVec.toNat_ofNat,BitVec.toNat_sub]
 simp
theorem zzz (s:BitVec 32):IntKind.wrap .u32 (((BitVec.toNat (BitVec.ofInt 32 (Int.fdiv ((s.toNat:Nat):Int) 2) ^^^ BitVec.ofInt 32 (IntKind.wrap .u32 (((BitVec.toNat (BitVec.ofInt 32 3988292384 &&& BitVec.ofInt 32 (IntKind.wrap .u32 (0-IntKind.wrap .u32 (((BitVec.toNat (BitVec.ofInt 32 ((s.toNat:Nat):Int) &&& BitVec.ofInt 32 1):Nat):Int))))):Nat):Int)))):Nat):Int))=(((zfg s).toNat:Nat):Int):=by
 rw [wbv,wbv,wbv,bvi,bvi,z00r,z03w]
 rfl
theorem zvq (s:BitVec 32) (c:UInt8):IntKind.wrap .u32 (((BitVec.toNat (BitVec.ofInt 32 ((s.toNat:Nat):Int) ^^^ BitVec.ofInt 32 (IntKind.wrap .u32 ((c.toNat:Nat):Int))):Nat):Int))=(((s ^^^ BitVec.ofNat 32 c.toNat).toNat:Nat):Int):=by
 have:=c.toNat_lt
 rw [wbv,bvi,z9y,Nat.mod_eq_of_lt (by omega),BitVec.ofInt_natCast]
section
variable {w:World} {l r:List HP} {Q:Post} {S:World->Prop}
theorem zhw (s:BitVec 32) (bs:List UInt8) (i:Nat) (hi:i<bs.length):z45 s (bs.take (i+1))=zgy (z45 s (bs.take i)) bs[i]:=by
 unfold z45
 rw [List.take_add_one,List.getElem?_eq_getElem hi,Option.toList_some,List.foldl_append];rfl
theorem zyo (m:BitVec 32) (x:Sl) (ps:List (Sl × List UInt8)) [hx:FocR l x 1 ((ps.map Prod.fst).flatMap z0r)] (hps:∀ p ∈ ps,FocR l p.1 1 (p.2.flatMap zg)/\p.2.length<=1000000000) (hpl:ps.length<=1000000) (hs:Sat w l) :
  Ret P F.a19 #[.int .u32 ((m.toNat:Nat):Int),x.v] w λvs w'=>vs=[.int .u32 (((zj6 m (ps.flatMap Prod.snd)).toNat:Nat):Int)]/\Sat w' l :=
 zrf _ x <| by
  unfold z00q
  have hl:=hs.slen x (xs:=ps.map Prod.fst) (enc:=z0r)
  rw [List.length_map] at hl
  rw [zsl,wbv]
  refine wp_lt ?_
  refine zx (λu w'=>u=((((z45 (~~~ m) (ps.flatMap Prod.snd)).toNat:Nat):Int),())/\Sat w' l) ?_ ?_
  rotate_left
  ·rintro _ w' ⟨rfl,hs⟩
   refine zt ?_
   rw [zsl,wbv]
   refine wp_lt ?_
   exact ⟨rfl,rfl,hs⟩
  refine z0e (λk u w=>∃ i:Nat,u=((((z45 (~~~ m) ((ps.take i).flatMap Prod.snd)).toNat:Nat):Int),(i:Int),())/\i<=ps.length/\ps.length-i=k/\Sat w l) ps.length ⟨0,rfl,by omega,rfl,hs⟩ ?_
  clear hs
  rintro k _ w ⟨i,rfl,hi,hk,hs⟩
  refine zt ?_
  refine zk (λhc=>?_) λhc=>?_
  rotate_left
  ·refine zv (zj ⟨?_,hs⟩)
   rw [List.take_of_length_le (by omega)]
  have hil:i<ps.length:=by omega
  obtain ⟨hF,hpl2⟩:=hps _ (List.getElem_mem hil)
  have hpi:=hs.slen ps[i].1 (xs:=ps[i].2) (enc:=zg)
  refine zx (λu w'=>u=((((z45 (~~~ m) ((ps.take (i+1)).flatMap Prod.snd)).toNat:Nat):Int),())/\Sat w' l) ?_ ?_
  rotate_left
  ·rintro _ w' ⟨rfl,hs⟩
   refine zt ?_
   refine z57 (us':=[.int .u32 (((z45 (~~~ m) ((ps.take (i+1)).flatMap Prod.snd)).toNat:Nat):Int),.int .i64 ((i+1:Nat):Int)]) (by (try simp (disch:=omega) only [w64]);first|rfl|(congr;omega)) ?_
   refine z0q (ps.length-(i+1)) ?_
   exact ⟨i+1,rfl,by omega,rfl,hs⟩
  refine z24 hs (xs:=ps.map Prod.fst) (enc:=z0r) i (by rw [List.length_map];exact hil) ?_
  rw [List.getElem_map]
  have hto:z45 (~~~ m) ((ps.take (i+1)).flatMap Prod.snd)=z45 (z45 (~~~ m) ((ps.take i).flatMap Prod.snd)) ps[i].2:=by
   rw [List.take_add_one,List.getElem?_eq_getElem hil,Option.toList_some,List.flatMap_append,List.flatMap_singleton]
   unfold z45
   rw [List.foldl_append]
  rw [hto]
  generalize z45 (~~~ m) ((ps.take i).flatMap Prod.snd)=s0
  generalize ps[i]=q at *
  refine zx (λu w'=>u=((((z45 s0 q.2).toNat:Nat):Int),())/\Sat w' l) ?_ (by rintro _ w' ⟨rfl,hs⟩;refine zt ?_;exact zj ⟨rfl,hs⟩)
  refine z0e (λk u w=>∃ j:Nat,u=((((z45 s0 (q.2.take j)).toNat:Nat):Int),(j:Int),())/\j<=q.2.length/\q.2.length-j=k/\Sat w l) q.2.length ⟨0,rfl,by omega,rfl,hs⟩ ?_
  clear hs
  rintro k _ w ⟨j,rfl,hj,hk,hs⟩
  refine zt ?_
  refine zk (λhc=>?_) λhc=>?_
  rotate_left
  ·refine zv (zj ⟨?_,hs⟩)
   rw [List.take_of_length_le (by omega)]
  have hjl:j<q.2.length:=by omega
  refine zx (λu w'=>u=((((z45 s0 (q.2.take (j+1))).toNat:Nat):Int),())/\Sat w' l) ?_ ?_
  rotate_left
  ·rintro _ w' ⟨rfl,hs⟩
   refine zt ?_
   refine z57 (us':=[.int .u32 (((z45 s0 (q.2.take (j+1))).toNat:Nat):Int),.int .i64 ((j+1:Nat):Int)]) (by (try simp (disch:=omega) only [w64]);first|rfl|(congr;omega)) ?_
   refine z0q (q.2.length-(j+1)) ?_
   exact ⟨j+1,rfl,by omega,rfl,hs⟩
  refine z24 hs (xs:=q.2) (enc:=zg) j hjl ?_
  refine wp_lt ?_
  rw [zvq]
  refine wp_lt ?_
  rw [zhw s0 q.2 j hjl]
  generalize z45 s0 (q.2.take j)=s1
  show Prog.wp P _ _ _ _
  refine zx (λu w'=>u=((((zgy s1 q.2[j]).toNat:Nat):Int),())/\Sat w' l) ?_ (by rintro _ w' ⟨rfl,hs⟩;refine zt ?_;exact zj ⟨rfl,hs⟩)
  unfold zgy
  generalize s1 ^^^ BitVec.ofNat 32 q.2[j].toNat=s2
  refine z0e (λk u w=>∃ i:Nat,u=((((zeu i s2).toNat:Nat):Int),(i:Int),())/\i<=8/\8-i=k/\Sat w l) 8 ⟨0,rfl,by omega,rfl,hs⟩ ?_
  clear hs
  rintro k _ w ⟨i,rfl,hi,hk,hs⟩
  refine zt ?_
  refine zk (λhc=>?_) λhc=>?_
  rotate_left
  ·obtain rfl:i=8:=by omega
   exact zv (zj ⟨rfl,hs⟩)
  rw [zzz]
  refine wp_lt ?_
  refine z57 (us':=[.int .u32 (((zfg (zeu i s2)).toNat:Nat):Int),.int .i64 ((i+1:Nat):Int)]) (by (try simp (disch:=omega) only [w64]);first|rfl|(congr;omega)) ?_
  refine z0q (8-(i+1)) ?_
  exact ⟨i+1,rfl,by omega,rfl,hs⟩
theorem z018 (x:Sl) (ps:List (Sl × List UInt8)) [hx:FocR l x 1 ((ps.map Prod.fst).flatMap z0r)] (hps:∀ p ∈ ps,FocR l p.1 1 (p.2.flatMap zg)/\p.2.length<=1000000000) (hpl:ps.length<=1000000) (hs:Sat w l) :
  Ret P F.a21 #[x.v] w λvs w'=>vs=[.int .u32 ((z66 (ps.flatMap Prod.snd):Nat):Int)]/\Sat w' l :=
 zr9 x <| by
  unfold z01i
  refine za (zyo 0#32 x ps hps hpl hs) λ_ _ hs=>?_
  obtain ⟨rfl,hs⟩:=hs
  refine ze ?_
  refine wp_lt ?_
  exact ⟨rfl,rfl,hs⟩
theorem zhh (x y:Sl) (bs:List UInt8) [hx:FocR l x 1 ([y].flatMap z0r)] [hy:FocR l y 1 (bs.flatMap zg)] (hn:bs.length<=1000000000) (hs:Sat w l) :
  Ret P F.a21 #[x.v] w λvs w'=>vs=[.int .u32 ((z66 bs:Nat):Int)]/\Sat w' l:=by
 have:=@z018 w l x [(y,bs)] hx (by intro p hp;rw [List.mem_singleton.1 hp];exact ⟨hy,hn⟩) (by simp) hs
 simpa using this
theorem zob (n:Nat) (hn:n<4294967296) (hs:Sat w l):Ret P F.a22 #[.int .u32 (n:Int)] w λvs w'=>∃ z:Sl,vs=[z.v]/\Sat w' (slc T.a38 1 z ((z2e n).flatMap zg)::l) :=
 zp6 n <| by
  unfold z00h
  have e0:IntKind.wrap .u8 (n:Int)=(((UInt8.ofNat n).toNat:Nat):Int):=by rw [z8h];simp
  have e1:IntKind.wrap .u8 (Int.fdiv (n:Int) 256)=(((UInt8.ofNat (n / 256)).toNat:Nat):Int):=by rw [z74 n (by decide),z8h];simp
  have e2:IntKind.wrap .u8 (Int.fdiv (n:Int) 65536)=(((UInt8.ofNat (n / 65536)).toNat:Nat):Int):=by rw [z74 n (by decide),z8h];simp
  have e3:IntKind.wrap .u8 (Int.fdiv (n:Int) 16777216)=(((UInt8.ofNat (n / 16777216)).toNat:Nat):Int):=by rw [z74 n (by decide),z8h];simp
  rw [e0,e1,e2,e3]
  refine z90 hs (enc:=zg) (z2e n) (cs:=((z2e n).flatMap zg).toArray) (by kernel_rfl) (λb w' hs=>?_) (by simp)
  exact ⟨rfl,_,rfl,hs⟩
theorem zny (n:Nat) (hn:n<4294967296) (hs:Sat w l):Ret P F.a122 #[.int .u32 (n:Int)] w λvs w'=>∃ z:Sl,vs=[z.v]/\Sat w' (slc T.a38 1 z ((z2e n).flatMap zg)::l) :=
 zmb n <| by
  unfold zw9
  refine zx (λu w'=>∃ z:Sl,u=(z,())/\Sat w' (slc T.a38 1 z ((z2e n).flatMap zg)::l)) ?_ (by rintro _ w' ⟨z,rfl,hs⟩;refine zt ?_;exact ⟨rfl,z,rfl,hs⟩)
  refine z0e (λk u w=>∃ (i:Nat) (z:Sl),u=(((n / 256 ^ i:Nat):Int),z,(i:Int),())/\i<=4/\4-i=k/\Sat w (slc T.a38 1 z (((z2e n).take i).flatMap zg)::l)) 4 ⟨0,⟨none,0,0⟩,by simp,by omega,rfl,hs.slc_nil⟩ ?_
  clear hs
  rintro k _ w ⟨i,z,rfl,hi,hk,hs⟩
  refine zt ?_
  refine zk (λhc=>?_) λhc=>?_
  rotate_left
  ·obtain rfl:i=4:=by omega
   exact zv (zj ⟨z,rfl,hs⟩)
  have hil:i<(z2e n).length:=by rw [z3t];omega
  have hto:(z2e n).take (i+1)=(z2e n).take i++[UInt8.ofNat (n / 256 ^ i)]:=by
   rw [List.take_add_one,List.getElem?_eq_getElem hil,Option.toList_some]
   congr 2
   have hcase:i=0\/i=1\/i=2\/i=3:=by omega
   rcases hcase with rfl|rfl|rfl|rfl <;> simp [z2e]
  have hlen:((z2e n).take i).length<=4:=by rw [List.length_take];omega
  refine z6s hs (xs:=(z2e n).take i) (enc:=zg) (UInt8.ofNat (n / 256 ^ i)) (λz w' hs=>?_) ?_
  ·rw [<- hto] at hs
   have hlt:n / 256 ^ i<=n:=Nat.div_le_self ..
   refine z1l (y:=((n / 256 ^ (i+1):Nat):Int)) ?_ ?_
   ·refine z1l (y:=((i+1:Nat):Int)) ?_ (by rw [w64 (by omega) (by omega)];omega)
    refine z0q (4-(i+1)) ?_
    exact ⟨i+1,z,rfl,by omega,rfl,hs⟩
   ·rw [zk4 _ (by decide),z9y,Nat.pow_succ,<- Nat.div_div_eq_div_mul]
    generalize n / 256 ^ i=m at hlt
    congr 1
    show m / 256 % _=m / 256
    omega
  ·rw [zbk _ (by decide)]
   unfold zg
   rw [z8h]
   simp
theorem zvi {a b c d:Nat} (ha:a<256) (hb:b<256) (hc:c<256) (hd:d<256) :
  IntKind.wrap .u32 (((BitVec.toNat (BitVec.ofInt 32 (IntKind.wrap .u32 (((BitVec.toNat (BitVec.ofInt 32 (IntKind.wrap .u32 (((BitVec.toNat (BitVec.ofInt 32 (IntKind.wrap .u32 (a:Int)) ||| BitVec.ofInt 32 (IntKind.wrap .u32 (IntKind.wrap .u32 (b:Int)*256))):Nat):Int))) ||| BitVec.ofInt 32 (IntKind.wrap .u32 (IntKind.wrap .u32 (c:Int)*65536))):Nat):Int))) ||| BitVec.ofInt 32 (IntKind.wrap .u32 (IntKind.wrap .u32 (d:Int)*16777216))):Nat):Int))=((a+256*b+65536*c+16777216*d:Nat):Int):=by
 have wm:∀ {m:Nat},m<4294967296->IntKind.wrap .u32 (m:Int)=(m:Int):=λ{m} h=>by rw [z9y,Nat.mod_eq_of_lt h]
 have or2:∀ {x y i:Nat},x<2 ^ i->y*2 ^ i+x<4294967296->BitVec.toNat (BitVec.ofInt 32 (x:Int) ||| BitVec.ofInt 32 ((y*2 ^ i:Nat):Int))=x+y*2 ^ i:=λ{x y i} h1 h2=>by
  rw [BitVec.ofInt_natCast,BitVec.ofInt_natCast,BitVec.toNat_or,BitVec.toNat_ofNat,BitVec.toNat_ofNat,Nat.mod_eq_of_lt (show x<2 ^ 32 by omega),Nat.mod_eq_of_lt (show y*2 ^ i<2 ^ 32 by omega),Nat.or_comm,Nat.mul_comm,<- Nat.two_pow_add_eq_or_of_lt h1,Nat.add_comm]
 have m1:((b:Nat):Int)*256=((b*2 ^ 8:Nat):Int):=rfl
 have m2:((c:Nat):Int)*65536=((c*2 ^ 16:Nat):Int):=rfl
 have m3:((d:Nat):Int)*16777216=((d*2 ^ 24:Nat):Int):=rfl
 rw [wm (show a<_ by omega),wm (show b<_ by omega),wm (show c<_ by omega),wm (show d<_ by omega),m1,m2,m3,wm (show b*2 ^ 8<_ by omega),wm (show c*2 ^ 16<_ by omega),wm (show d*2 ^ 24<_ by omega),
  or2 (by omega) (by omega),wm (show a+b*2 ^ 8<_ by omega),or2 (by omega) (by omega),wm (show a+b*2 ^ 8+c*2 ^ 16<_ by omega),or2 (by omega) (by omega),wm (by omega)]
 congr 1
 omega
theorem zjd {bs:List UInt8} (h:4<=bs.length):z0g bs=bs[0].toNat+256*bs[1].toNat+65536*bs[2].toNat+16777216*bs[3].toNat:=by
 match bs,h with
 | a::b::c::d::r,_=>rfl
theorem z7c {α:Type} {enc:α->List Value} {xs:List α} {sz m:Nat} {ii:Int} {x:Sl} {T:TypeId} {g':Prop} {p:Pr} {dec:α->p.D} {f:p.D->Prog} (hs:Sat w l) [hf:FocR l x sz (xs.flatMap enc)] [hE:EncN enc sz] [hD:Enc1 enc p dec] [hT:One P T]
  (n:Nat) (hn:n<xs.length) (h:(f (dec xs[n])).wp P S w Q) (hm:m=n*sz:=by rfl) (hi:ii=n:=by rfl) :
  (Prog.ex [.adr] (c1 λa=>(0:Int)<=ii/\ii<((x.len:Nat):Int)/\x.a=some a) (u1 λa=>.read g' (ld T (Addr.add a m)) (.one (.one p)) (u1 f))).wp P S w Q:=by
 subst hm hi
 have hr:=hf.rd w hs
 have hl:x.len=xs.length:=hr.len hE.len hE.pos
 obtain ⟨a,ha,he⟩:=hr.el hE.len (by omega)
 refine ⟨(a,()),⟨by omega,by omega,ha⟩,(dec xs[n],()),λ_=>?_,h⟩
 have:=he n hn
 rw [hD.ok] at this
 have h2:=At.ld1 (P:=P) (T:=T) this rfl
 cases p <;> exact h2
theorem zcn (x:Sl) (bs:List UInt8) [hx:FocR l x 1 (bs.flatMap zg)] (hn:4<=bs.length) (hs:Sat w l):Ret P F.a23 #[x.v] w λvs w'=>vs=[.int .u32 ((z0g bs:Nat):Int)]/\Sat w' l :=
 zpk x <| by
  unfold z00f
  refine z0i hs λw' hs=>?_
  refine z7c hs (xs:=bs) (enc:=zg) 0 (by omega) ?_
  refine z7c hs (xs:=bs) (enc:=zg) 1 (by omega) ?_
  refine z7c hs (xs:=bs) (enc:=zg) 2 (by omega) ?_
  refine z7c hs (xs:=bs) (enc:=zg) 3 (by omega) ?_
  rw [zvi (by have:=bs[0].toNat_lt;omega) (by have:=bs[1].toNat_lt;omega) (by have:=bs[2].toNat_lt;omega) (by have:=bs[3].toNat_lt;omega),<- zjd hn]
  refine wp_lt ?_
  refine zm ?_
  exact ⟨rfl,rfl,hs⟩
theorem zo4 (x:Sl) (ps:List (Sl × List UInt8)) [hx:FocR l x 1 ((ps.map Prod.fst).flatMap z0r)] (hps:∀ p ∈ ps,FocR l p.1 1 (p.2.flatMap zg)/\p.2.length<=1000000000) (hpl:ps.length<=1000000) (hs:Sat w l) :
  Ret P F.a20 #[x.v] w λvs w'=>∃ z:Sl,vs=[z.v]/\Sat w' (slc T.a38 1 z ((z21 (ps.flatMap Prod.snd)).flatMap zg)::l) :=
 zpa x <| by
  unfold z01w
  have hl:=hs.slen x (xs:=ps.map Prod.fst) (enc:=z0r)
  rw [List.length_map] at hl
  have hstep:∀ i (hi:i<ps.length),(ps.take (i+1)).flatMap Prod.snd=(ps.take i).flatMap Prod.snd++ps[i].2:=λi hi=>by
   rw [List.take_add_one,List.getElem?_eq_getElem hi,Option.toList_some,List.flatMap_append,List.flatMap_singleton]
  have hmany:∀ i,((ps.take i).flatMap Prod.snd).length<=(ps.flatMap Prod.snd).length:=λi=>by
   have:ps.flatMap Prod.snd=(ps.take i).flatMap Prod.snd++(ps.drop i).flatMap Prod.snd:=by rw [<- List.flatMap_append,List.take_append_drop]
   rw [this,List.length_append]
   omega
  refine zx (λu w'=>u=((((ps.flatMap Prod.snd).length:Nat):Int),())/\(ps.flatMap Prod.snd).length<=262144/\Sat w' l) ?_ ?_
  ·refine z0e (λk u w=>∃ i:Nat,u=(((((ps.take i).flatMap Prod.snd).length:Nat):Int),(i:Int),())/\i<=ps.length/\ps.length-i=k/\((ps.take i).flatMap Prod.snd).length<=262144/\Sat w l) ps.length ⟨0,rfl,by omega,rfl,by simp,hs⟩ ?_
   clear hs
   rintro k _ w ⟨i,rfl,hi,hk,hsm,hs⟩
   refine zt ?_
   refine zk (λhc=>?_) λhc=>?_
   rotate_left
   ·rw [List.take_of_length_le (by omega)] at hsm ⊢
    exact zv (zj ⟨rfl,hsm,hs⟩)
   have hil:i<ps.length:=by omega
   refine z24 hs (xs:=ps.map Prod.fst) (enc:=z0r) i (by rw [List.length_map];exact hil) ?_
   rw [List.getElem_map]
   obtain ⟨hF,hpb⟩:=hps _ (List.getElem_mem hil)
   have hpi:=hs.slen ps[i].1 (xs:=ps[i].2) (enc:=zg)
   have h1:=hmany (i+1)
   have h2:=congrArg List.length (hstep i hil)
   rw [List.length_append] at h2
   have e:IntKind.wrap .i64 (((((ps.take i).flatMap Prod.snd).length:Nat):Int)+((ps[i].1.len:Nat):Int))=((((ps.take (i+1)).flatMap Prod.snd).length:Nat):Int):=by rw [w64 (by omega) (by omega)];omega
   refine zdt e ?_
   refine zk (λhbig=>?_) λhbig=>?_
   ·refine zv (zv ⟨rfl,⟨none,0,0⟩,rfl,?_⟩)
    have:z21 (ps.flatMap Prod.snd)=[]:=by unfold z21;rw [if_pos (by omega)]
    rw [this]
    exact hs.slc_nil
   refine z57 (us':=[.int .i64 ((((ps.take (i+1)).flatMap Prod.snd).length:Nat):Int),.int .i64 ((i+1:Nat):Int)]) (by (try simp (disch:=omega) only [w64]);first|rfl|(congr;omega)) ?_
   refine z0q (ps.length-(i+1)) ?_
   exact ⟨i+1,rfl,by omega,rfl,by omega,hs⟩
  clear hs
  rintro _ w ⟨rfl,hsm,hs⟩
  refine zt ?_
  have e8:IntKind.wrap .i64 ((((ps.flatMap Prod.snd).length:Nat):Int)+8)=(((ps.flatMap Prod.snd).length+8:Nat):Int):=by rw [w64 (by omega) (by omega)];omega
  rw [e8,z9y,Nat.mod_eq_of_lt (by omega)]
  refine zoo ((ps.flatMap Prod.snd).length+8) hs λz w' hs=>?_
  refine za (zob (ps.flatMap Prod.snd).length (by omega) hs) λ_ _ hs=>?_
  obtain ⟨y,rfl,hs⟩:=hs
  refine ze ?_
  have hs:=hs.pick [1,0]
  refine wp_app' (xs:=[]) (ys:=z2e (ps.flatMap Prod.snd).length) (enc:=zg) hs (λz w' hs=>?_) (by simp [z3t])
  rw [List.nil_append] at hs
  have hs:Sat w' (slc T.a38 1 z ((z2e (ps.flatMap Prod.snd).length).flatMap zg)::l):=hs.sub
  refine zx (λu w'=>∃ z:Sl,u=(z,())/\Sat w' (slc T.a38 1 z ((z2g (ps.flatMap Prod.snd)).flatMap zg)::l)) ?_ ?_
  ·refine z0e (λk u w=>∃ (i:Nat) (z:Sl),u=(z,(i:Int),())/\i<=ps.length/\ps.length-i=k/\Sat w (slc T.a38 1 z ((z2e (ps.flatMap Prod.snd).length++(ps.take i).flatMap Prod.snd).flatMap zg)::l)) ps.length ⟨0,z,rfl,by omega,rfl,?_⟩ ?_
   ·simpa using hs
   clear hs
   rintro k _ w ⟨i,z,rfl,hi,hk,hs⟩
   refine zt ?_
   refine zk (λhc=>?_) λhc=>?_
   rotate_left
   ·refine zv (zj ⟨z,rfl,?_⟩)
    rw [List.take_of_length_le (by omega)] at hs
    exact hs
   have hil:i<ps.length:=by omega
   refine z24 hs (xs:=ps.map Prod.fst) (enc:=z0r) i (by rw [List.length_map];exact hil) ?_
   rw [List.getElem_map]
   have hF:=(hps _ (List.getElem_mem hil)).1
   have h1:=hmany (i+1)
   rw [hstep i hil,List.length_append] at h1
   refine wp_app' (xs:=z2e (ps.flatMap Prod.snd).length++(ps.take i).flatMap Prod.snd) (ys:=ps[i].2) (enc:=zg) hs (λz w' hs=>?_) (by rw [List.length_append,z3t];omega)
   rw [List.append_assoc,<- hstep i hil] at hs
   refine z57 (us':=[z.v,.int .i64 ((i+1:Nat):Int)]) (by (try simp (disch:=omega) only [w64]);first|rfl|(congr;omega)) ?_
   refine z0q (ps.length-(i+1)) ?_
   exact ⟨i+1,z,rfl,by omega,rfl,hs⟩
  clear hs
  rintro _ w ⟨z,rfl,hs⟩
  refine zt ?_
  have hhl:(z2g (ps.flatMap Prod.snd)).length=(ps.flatMap Prod.snd).length+4:=by unfold z2g;rw [List.length_append,z3t];omega
  have hsl:=zhg (z2g (ps.flatMap Prod.snd))
  refine z1f hs (enc:=z0r) z λy w' hs=>?_
  refine za (zhh y z (z2g (ps.flatMap Prod.snd)) (by omega) hs) λ_ _ hs=>?_
  obtain ⟨rfl,hs⟩:=hs
  refine ze ?_
  refine za (zob (z66 (z2g (ps.flatMap Prod.snd))) hsl hs) λ_ _ hs=>?_
  obtain ⟨u,rfl,hs⟩:=hs
  refine ze ?_
  have hs:=hs.pick [2,0,0]
  refine wp_app' (xs:=z2g (ps.flatMap Prod.snd)) (ys:=z2e (z66 (z2g (ps.flatMap Prod.snd)))) (enc:=zg) hs (λz w' hs=>?_) (by rw [z3t];omega)
  have e:z21 (ps.flatMap Prod.snd)=z2g (ps.flatMap Prod.snd)++z2e (z66 (z2g (ps.flatMap Prod.snd))):=by unfold z21;rw [if_neg (by omega)]
  rw [<- e] at hs
  exact ⟨rfl,z,rfl,hs.sub⟩
theorem zv5 (x y:Sl) (bs:List UInt8) [hx:FocR l x 1 ([y].flatMap z0r)] [hy:FocR l y 1 (bs.flatMap zg)] (hn:bs.length<=1000000000) (hs:Sat w l) :
  Ret P F.a20 #[x.v] w λvs w'=>∃ z:Sl,vs=[z.v]/\Sat w' (slc T.a38 1 z ((z21 bs).flatMap zg)::l):=by
 have:=@zo4 w l x [(y,bs)] hx (by intro p hp;rw [List.mem_singleton.1 hp];exact ⟨hy,hn⟩) (by simp) hs
 simpa using this
theorem zeq (x:Sl) (bs:List UInt8) [hx:FocR l x 1 (bs.flatMap zg)] (hcap:x.len<=x.cap) (hn:bs.length<=1000000000) (hs:Sat w l) :
  Ret P F.a18 #[x.v] w λvs w'=>∃ z:Sl,vs=[z.v,.int .i64 ((((z10 bs).getD ([],0)).2:Nat):Int),.bool (z10 bs).isSome]/\Sat w' (slc T.a38 1 z (((z10 bs).getD ([],0)).1.flatMap zg)::l) :=
 zr3 x <| by
  unfold z01v
  have hl:=hs.slen x (xs:=bs) (enc:=zg)
  have hno:∀ {w':World},z10 bs=none->Sat w' l->∃ z:Sl,[.slice none 0 0,.int .i64 0,.bool false]=[z.v,.int .i64 ((((z10 bs).getD ([],0)).2:Nat):Int),.bool (z10 bs).isSome]/\Sat w' (slc T.a38 1 z (((z10 bs).getD ([],0)).1.flatMap zg)::l):=λ{w'} h hs=>by
   rw [h];exact ⟨⟨none,0,0⟩,rfl,hs.slc_nil⟩
  refine zk (λh=>?_) λh=>?_
  ·exact ⟨rfl,hno (by unfold z10;rw [if_pos (.inl (by omega))]) hs⟩
  refine za (zcn x bs (by omega) hs) λ_ _ hs=>?_
  obtain ⟨rfl,hs⟩:=hs
  refine ze ?_
  have hf:=(zb5 bs (by omega)).2
  refine wp_lt ?_
  have e1:IntKind.wrap .i64 ((z0g bs:Nat):Int)=((z0g bs:Nat):Int):=by rw [w64 (by omega) (by omega)]
  have e2:IntKind.wrap .i64 (((x.len:Nat):Int)-8)=((bs.length-8:Nat):Int):=by rw [w64 (by omega) (by omega)];omega
  have e3:IntKind.wrap .i64 (((z0g bs:Nat):Int)+4)=((z0g bs+4:Nat):Int):=by rw [w64 (by omega) (by omega)];omega
  rw [e1,e2,e3]
  refine zk (λh2=>?_) λh2=>?_
  ·exact ⟨rfl,hno (by unfold z10;rw [if_pos (by omega)]) hs⟩
  refine wp_lt ?_
  rw [Int.toNat_natCast]
  have hle:z0g bs+8<=bs.length:=by omega
  have hF1:FocR l ⟨z1g x.a 1 (z0g bs+4) x.cap,x.len-(z0g bs+4),x.cap-(z0g bs+4)⟩ 1 ((bs.drop (z0g bs+4)).flatMap zg):=FocR.post hcap
  have hF2:FocR l ⟨x.a,z0g bs+4,x.cap⟩ 1 ((bs.take (z0g bs+4)).flatMap zg):=FocR.pre (by omega)
  have htl:(bs.take (z0g bs+4)).length<=1000000000:=by rw [List.length_take];omega
  have hdl:4<=(bs.drop (z0g bs+4)).length:=by rw [List.length_drop];omega
  refine zx (λu w'=>u=(decide (z0g (bs.drop (z0g bs+4))≠z66 (bs.take (z0g bs+4))),())/\Sat w' l) ?_ ?_
  ·have hbeq:∀ a b:Nat,(((a:Int) != (b:Int)):Bool)=decide (a≠b):=λa b=>by
    rw [Bool.eq_iff_iff];simp;omega
   refine z0i hs λw' hs=>?_
   refine wp_must ⟨by omega,show ((z0g bs+4:Nat):Int)<=((x.len:Nat):Int) by omega⟩ ?_
   refine wp_must ⟨by omega,show ((z0g bs+4:Nat):Int)<=((x.cap:Nat):Int) by omega⟩ ?_
   refine zh7 ?_ ?_
   ·refine za (zcn ⟨z1g x.a 1 (z0g bs+4) x.cap,x.len-(z0g bs+4),x.cap-(z0g bs+4)⟩ (bs.drop (z0g bs+4)) hdl hs) λ_ _ hs=>?_
    obtain ⟨rfl,hs⟩:=hs
    refine ze ?_
    refine z1f hs (enc:=z0r) ⟨x.a,z0g bs+4,x.cap⟩ λy w' hs=>?_
    refine za (zhh y ⟨x.a,z0g bs+4,x.cap⟩ (bs.take (z0g bs+4)) htl hs) λ_ _ hs=>?_
    obtain ⟨rfl,hs⟩:=hs
    refine ze ?_
    refine zm ?_
    exact zj ⟨by rw [hbeq],hs.tail⟩
   ·refine z1f hs (enc:=z0r) ⟨x.a,z0g bs+4,x.cap⟩ λy w' hs=>?_
    refine za (zcn ⟨z1g x.a 1 (z0g bs+4) x.cap,x.len-(z0g bs+4),x.cap-(z0g bs+4)⟩ (bs.drop (z0g bs+4)) hdl hs) λ_ _ hs=>?_
    obtain ⟨rfl,hs⟩:=hs
    refine ze ?_
    refine za (zhh y ⟨x.a,z0g bs+4,x.cap⟩ (bs.take (z0g bs+4)) htl hs) λ_ _ hs=>?_
    obtain ⟨rfl,hs⟩:=hs
    refine ze ?_
    refine zm ?_
    exact zj ⟨by rw [hbeq],hs.tail⟩
  clear hs
  rintro _ w ⟨rfl,hs⟩
  refine zt ?_
  refine zk (λh3=>?_) λh3=>?_
  ·exact ⟨rfl,hno (by unfold z10;rw [if_neg (by omega),if_neg h3]) hs⟩
  have h3:z0g (bs.drop (z0g bs+4))=z66 (bs.take (z0g bs+4)):=Decidable.not_not.1 h3
  have hsome:z10 bs=some ((bs.drop 4).take (z0g bs),z0g bs+8):=by unfold z10;rw [if_neg (by omega),if_pos h3]
  rw [hsome]
  refine wp_must ⟨by omega,by omega,show ((z0g bs+4:Nat):Int)<=((x.cap:Nat):Int) by omega⟩ ?_
  have hF3:FocR l ⟨z1g x.a 1 4 x.cap,x.len-4,x.cap-4⟩ 1 ((bs.drop 4).flatMap zg):=FocR.post hcap
  have hF4:FocR l ⟨z1g x.a 1 4 x.cap,z0g bs+4-4,x.cap-4⟩ 1 (((bs.drop 4).take (z0g bs+4-4)).flatMap zg):=FocR.pre (x:=⟨z1g x.a 1 4 x.cap,x.len-4,x.cap-4⟩) (by rw [List.length_drop];omega)
  refine za (zku ⟨z1g x.a 1 4 x.cap,z0g bs+4-4,x.cap-4⟩ ((bs.drop 4).take (z0g bs+4-4)) (by rw [List.length_take];omega) hs) λ_ _ hs=>?_
  obtain ⟨z,rfl,hs⟩:=hs
  refine ze ?_
  refine z1l (y:=((z0g bs+8:Nat):Int)) ?_ (by rw [w64 (by omega) (by omega)];omega)
  exact ⟨rfl,z,rfl,hs⟩
end
def z1d (f:Nat->Bool):List Value:=(List.range 32).map λj=>.bool (f j)
theorem z9w (f:Nat->Bool):(z1d f).length=32:=by simp [z1d]
theorem zcm (f:Nat->Bool) {i:Nat} (h:i<32):(z1d f)[i]? = some (.bool (f i)):=by
 unfold z1d
 rw [List.getElem?_map,List.getElem?_range h];rfl
theorem zso (f:Nat->Bool) (i:Nat) (x:Bool):(z1d f).set i (.bool x)=z1d λj=>if j=i then x else f j:=by
 apply List.ext_getElem?
 intro j
 by_cases hj:j<32
 ·rw [zcm _ hj,List.getElem?_set,z9w]
  by_cases hij:i=j
  ·subst hij;simp [hj]
  ·rw [if_neg hij,zcm _ hj,if_neg (Ne.symm hij)]
 ·rw [List.getElem?_eq_none (by rw [List.length_set,z9w];omega),List.getElem?_eq_none (by rw [z9w];omega)]
theorem z50 {f g:Nat->Bool} (h:∀ j,j<32->f j=g j):z1d f=z1d g:=by
 unfold z1d
 exact List.map_congr_left λj hj=>by rw [h j (List.mem_range.1 hj)]
section
variable {w:World} {l r:List HP} {Q:Post} {S:World->Prop} {b:Nat} {g:Prop} {f:Nat->Bool}
theorem zfo {k:Bool->Prog} {m:Nat} (hs:Sat w l) [hb:FocB l b (.cells (z1d f).toArray T.a0) r] (i:Nat) (hi:i<32) (h:(k (f i)).wp P S w Q) (hm:m=i:=by first|rfl|omega) :
  (Prog.read g (ld T.a4 (Addr.add ⟨b,0,none⟩ m)) sB (u1 k)).wp P S w Q:=by
 subst hm
 refine ⟨(f m,()),λ_=>?_,h⟩
 have hT:One P T.a4:=inferInstance
 rw [z3m,Nat.zero_add]
 exact zhe (P:=P) (off:=m) (v:=.bool (f m)) hT.ok.1 (hs.focB b).get (by simpa using zcm f hi)
theorem zgg {k:Prog} {m:Nat} {x:Bool} (hs:Sat w l) [hb:FocB l b (.cells (z1d f).toArray T.a0) r] (i:Nat) (hi:i<32)
  (h:∀ w',Sat w' (pt b (.cells (z1d λj=>if j=i then x else f j).toArray T.a0)::r)->k.wp P S w' Q) (hm:m=i:=by first|rfl|omega) (hS:∀ w',S w':=by exact λ_=>trivial) :
  (Prog.actU (st T.a4 (Addr.add ⟨b,0,none⟩ m) (.bool x)) k).wp P S w Q:=by
 subst hm
 have hT:One P T.a4:=inferInstance
 have hc:(Value.bool x).cells=#[.bool x]:=rfl
 have hrun:=zce (P:=P) (v:=.bool x) (off:=m) hT.ok.2 (hs.focB b).get (by simp [z9w];omega) (by rw [hc];rfl) (by rw [hc];simp [Value.oneCell']) (z2z _ _)
 rw [hc] at hrun
 have e:putCells (z1d f).toArray m [.bool x]=(z1d λj=>if j=m then x else f j).toArray:=by
  rw [<- zso];simp [putCells]
 rw [show (#[Value.bool x]:Array Value).toList=[.bool x] from rfl,e] at hrun
 have hs':=(hs.focB b).set (o':=.cells (z1d λj=>if j=m then x else f j).toArray T.a0)
 rw [z3m,Nat.zero_add]
 exact ⟨_,hrun,hS _,h _ hs'⟩
theorem z021 {c i:Nat} (hc:c<4294967296) (hi:i<32):(Int.tmod (Int.fdiv (c:Int) (2 ^ i)) (2:Int) == 1)=(BitVec.ofNat 32 c).getLsbD i:=by
 have e:((2:Int) ^ i)=((2 ^ i:Nat):Int):=by simp
 rw [e,z74 c (Int.natCast_nonneg _),Int.toNat_natCast,zbk _ (by decide),BitVec.getLsbD_ofNat,Nat.testBit_eq_decide_div_mod_eq,Bool.eq_iff_iff]
 simp [hi]
 show ((c / 2 ^ i % 2:Nat):Int)=1↔_
 omega
theorem zw0 {i n:Nat} (h:i<=n) (h64:n<=64):min (Int.toNat (IntKind.wrap .u64 (i:Int))) n=i:=by
 rw [z60,Nat.mod_eq_of_lt (by omega)];omega
theorem z042 (s:BitVec 32) (x:Bool) {j:Nat} (hj:j<32):(z64 s x).getLsbD j=((s >>> 1).getLsbD j != ((s.getLsbD 0 != x) && polyB.getLsbD j)):=by
 unfold z64
 rw [BitVec.getLsbD_xor]
 by_cases h:(s.getLsbD 0 != x)=true
 ·rw [if_pos h,h];simp
 ·rw [if_neg h]
  have h':(s.getLsbD 0 != x)=false:=by cases hc:(s.getLsbD 0 != x) with
   | false=>rfl
   | true=>exact absurd hc h
  rw [h'];simp
theorem z02b (x:Sl) (bs:List UInt8) [hx:FocR l x 1 (bs.flatMap zg)] (hn:bs.length<=1000000000) (hs:Sat w l) :
  Ret P F.a121 #[x.v] w λvs w'=>vs=[.int .u32 ((z66 bs:Nat):Int)]/\Sat w' l :=
 zlf x <| by
  unfold zxl
  have hl:=hs.slen x (xs:=bs) (enc:=zg)
  refine z05 hs λb w' hs=>?_
  have hs:Sat w' (pt b (.cells (z1d λ_=>false).toArray T.a0)::l):=hs
  refine zx (λ_ w'=>Sat w' (pt b (.cells (z1d (BitVec.allOnes 32).getLsbD).toArray T.a0)::l)) ?_ ?_
  ·refine z0e (λk u w=>∃ i:Nat,u=((i:Int),())/\i<=32/\32-i=k/\Sat w (pt b (.cells (z1d λj=>decide (j<i)).toArray T.a0)::l)) 32 ⟨0,rfl,by omega,rfl,?_⟩ ?_
   ·have:(z1d λj=>decide (j<0))=z1d λ_=>false:=z50 λj _=>by simp
    rw [this];exact hs
   clear hs
   rintro k _ w ⟨i,rfl,hi,hk,hs⟩
   refine zt ?_
   refine zk (λhc=>?_) λhc=>?_
   rotate_left
   ·refine zv (zj ?_)
    have:(z1d λj=>decide (j<i))=z1d (BitVec.allOnes 32).getLsbD:=z50 λj hj=>by
     rw [BitVec.getLsbD_allOnes]
     rw [decide_eq_true (by omega:j<i),decide_eq_true hj]
    rw [<- this];exact hs
   refine wp_must ⟨by omega,hc⟩ ?_
   refine zgg hs i (by omega) (λw' hs=>?_)
   refine z1l (y:=((i+1:Nat):Int)) ?_ (by rw [w64 (by omega) (by omega)];omega)
   refine z0q (32-(i+1)) ?_
   refine ⟨i+1,rfl,by omega,rfl,?_⟩
   have:(z1d λj=>decide (j<i+1))=z1d λj=>if j=i then true else decide (j<i):=z50 λj _=>by
    by_cases hji:j=i
    ·subst hji;simp
    ·rw [if_neg hji];congr 1;apply propext;omega
   rw [this];exact hs
  clear hs
  rintro _ w hs
  refine zt ?_
  refine zx (λ_ w'=>Sat w' (pt b (.cells (z1d (z45 (BitVec.allOnes 32) bs).getLsbD).toArray T.a0)::l)) ?_ ?_
  ·refine z0e (λk u w=>∃ i:Nat,u=((i:Int),())/\i<=bs.length/\bs.length-i=k/\Sat w (pt b (.cells (z1d (z45 (BitVec.allOnes 32) (bs.take i)).getLsbD).toArray T.a0)::l)) bs.length ⟨0,rfl,by omega,rfl,hs⟩ ?_
   clear hs
   rintro k _ w ⟨i,rfl,hi,hk,hs⟩
   refine zt ?_
   refine zk (λhc=>?_) λhc=>?_
   rotate_left
   ·refine zv (zj ?_)
    rw [List.take_of_length_le (by omega)] at hs
    exact hs
   have hil:i<bs.length:=by omega
   refine zx (λ_ w'=>Sat w' (pt b (.cells (z1d (z45 (BitVec.allOnes 32) (bs.take (i+1))).getLsbD).toArray T.a0)::l)) ?_ ?_
   rotate_left
   ·rintro _ w' hs
    refine zt ?_
    refine z57 (us':=[.int .i64 ((i+1:Nat):Int)]) (by (try simp (disch:=omega) only [w64]);first|rfl|(congr;omega)) ?_
    refine z0q (bs.length-(i+1)) ?_
    exact ⟨i+1,rfl,by omega,rfl,hs⟩
   rw [zhw _ bs i hil]
   refine z24 hs (xs:=bs) (enc:=zg) i hil ?_
   refine wp_lt ?_
   rw [ztq]
   generalize z45 (BitVec.allOnes 32) (bs.take i)=s at hs ⊢
   have hcl:=bs[i].toNat_lt
   generalize bs[i]=c at *
   show Prog.wp P _ _ _ _
   refine zx (λ_ w'=>Sat w' (pt b (.cells (z1d (z97 (BitVec.ofNat 32 c.toNat) 8 s).getLsbD).toArray T.a0)::l)) ?_ (by rintro _ w' hs;refine zt ?_;exact zj hs)
   refine z0e (λk u w=>∃ i:Nat,u=((i:Int),())/\i<=8/\8-i=k/\Sat w (pt b (.cells (z1d (z97 (BitVec.ofNat 32 c.toNat) i s).getLsbD).toArray T.a0)::l)) 8 ⟨0,rfl,by omega,rfl,hs⟩ ?_
   clear hs
   rintro k _ w ⟨i,rfl,hi,hk,hs⟩
   refine zt ?_
   refine zk (λhc=>?_) λhc=>?_
   rotate_left
   ·obtain rfl:i=8:=by omega
    exact zv (zj hs)
   refine zx (λ_ w'=>Sat w' (pt b (.cells (z1d (z97 (BitVec.ofNat 32 c.toNat) (i+1) s).getLsbD).toArray T.a0)::l)) ?_ ?_
   rotate_left
   ·rintro _ w' hs
    refine zt ?_
    refine z1l (y:=((i+1:Nat):Int)) ?_ (by rw [w64 (by omega) (by omega)];omega)
    refine z0q (8-(i+1)) ?_
    exact ⟨i+1,rfl,by omega,rfl,hs⟩
   show Prog.wp P _ _ _ _
   have hstep:z97 (BitVec.ofNat 32 c.toNat) (i+1) s=z64 (z97 (BitVec.ofNat 32 c.toNat) i s) ((BitVec.ofNat 32 c.toNat).getLsbD i):=rfl
   rw [hstep]
   generalize z97 (BitVec.ofNat 32 c.toNat) i s=t at hs ⊢
   refine wp_must ⟨by omega,by omega⟩ ?_
   refine zfo hs 0 (by omega) ?_
   refine wp_must (by rw [z60];omega) ?_
   rw [zw0 (by omega) (by omega),z021 (by omega) (by omega)]
   have hbool:(!(t.getLsbD 0 == (BitVec.ofNat 32 c.toNat).getLsbD i))=(t.getLsbD 0 != (BitVec.ofNat 32 c.toNat).getLsbD i):=rfl
   rw [hbool]
   refine wp_lt ?_
   generalize (BitVec.ofNat 32 c.toNat).getLsbD i=d
   refine zx (λ_ w'=>Sat w' (pt b (.cells (z1d λj=>if j<31 then t.getLsbD (j+1) else t.getLsbD j).toArray T.a0)::l)) ?_ ?_
   ·refine z0e (λk u w=>∃ i:Nat,u=((i:Int),())/\i<=31/\31-i=k/\Sat w (pt b (.cells (z1d λj=>if j<i then t.getLsbD (j+1) else t.getLsbD j).toArray T.a0)::l)) 31 ⟨0,rfl,by omega,rfl,by simpa using hs⟩ ?_
    clear hs
    rintro k _ w ⟨i,rfl,hi,hk,hs⟩
    refine zt ?_
    refine zk (λhc=>?_) λhc=>?_
    rotate_left
    ·obtain rfl:i=31:=by omega
     exact zv (zj hs)
    have e1:IntKind.wrap .i64 ((i:Int)+1)=((i+1:Nat):Int):=by rw [w64 (by omega) (by omega)];omega
    rw [e1]
    refine wp_must ⟨by omega,by omega⟩ ?_
    refine zfo hs (i+1) (by omega) ?_
    refine wp_must ⟨by omega,by omega⟩ ?_
    refine zgg hs i (by omega) (λw' hs=>?_)
    refine wp_lt ?_
    refine z0q (31-(i+1)) ?_
    refine ⟨i+1,rfl,by omega,rfl,?_⟩
    have:(z1d λj=>if j<i+1 then t.getLsbD (j+1) else t.getLsbD j)=z1d λj=>if j=i then (if i+1<i then t.getLsbD (i+1+1) else t.getLsbD (i+1)) else if j<i then t.getLsbD (j+1) else t.getLsbD j:=z50 λj _=>by
     by_cases hji:j=i
     ·subst hji;rw [if_pos (by omega),if_pos rfl,if_neg (by omega)]
     ·rw [if_neg hji]
      by_cases hlt:j<i
      ·rw [if_pos hlt,if_pos (by omega)]
      ·rw [if_neg hlt,if_neg (by omega)]
    rw [this];exact hs
   clear hs
   rintro _ w hs
   refine zt ?_
   refine wp_must ⟨by omega,by omega⟩ ?_
   refine zgg hs 31 (by omega) (λw' hs=>?_)
   have hsh:(z1d λj=>if j=31 then false else if j<31 then t.getLsbD (j+1) else t.getLsbD j)=z1d (t >>> 1).getLsbD:=z50 λj hj=>by
    rw [BitVec.getLsbD_ushiftRight]
    by_cases h31:j=31
    ·subst h31;rw [if_pos rfl]
     exact (BitVec.getLsbD_of_ge t 32 (by omega)).symm
    ·rw [if_neg h31,if_pos (by omega),Nat.add_comm]
   rw [hsh] at hs
   refine zx (λ_ w'=>Sat w' (pt b (.cells (z1d (z64 t d).getLsbD).toArray T.a0)::l)) ?_ (by rintro _ w' hs;refine zt ?_;exact zj hs)
   refine z0e (λk u w=>∃ i:Nat,u=((i:Int),())/\i<=32/\32-i=k/\Sat w (pt b (.cells (z1d λj=>if j<i then (z64 t d).getLsbD j else (t >>> 1).getLsbD j).toArray T.a0)::l)) 32 ⟨0,rfl,by omega,rfl,by rw [z50 (g:=(t >>> 1).getLsbD) λj _=>if_neg (Nat.not_lt_zero j)];exact hs⟩ ?_
   clear hs
   rintro k _ w ⟨i,rfl,hi,hk,hs⟩
   refine zt ?_
   refine zk (λhc=>?_) λhc=>?_
   rotate_left
   ·obtain rfl:i=32:=by omega
    refine zv (zj ?_)
    have:(z1d λj=>if j<32 then (z64 t d).getLsbD j else (t >>> 1).getLsbD j)=z1d (z64 t d).getLsbD:=z50 λj hj=>if_pos hj
    rw [<- this];exact hs
   refine wp_must (λ_=>by rw [z60];omega) ?_
   refine zx (λ_ w'=>Sat w' (pt b (.cells (z1d λj=>if j<i+1 then (z64 t d).getLsbD j else (t >>> 1).getLsbD j).toArray T.a0)::l)) ?_ ?_
   rotate_left
   ·rintro _ w' hs
    refine zt ?_
    refine z1l (y:=((i+1:Nat):Int)) ?_ (by rw [w64 (by omega) (by omega)];omega)
    refine z0q (32-(i+1)) ?_
    exact ⟨i+1,rfl,by omega,rfl,hs⟩
   have hb2:(Int.tmod (Int.fdiv 3988292384 (2 ^ min (Int.toNat (IntKind.wrap .u64 (i:Int))) 32)) (2:Int) == 1)=polyB.getLsbD i:=by
    rw [zw0 (by omega) (by omega)]
    exact z021 (c:=3988292384) (by omega) (by omega)
   rw [hb2]
   have hg:=z042 t d (j:=i) (by omega)
   refine zk (λh=>?_) λh=>?_
   ·refine wp_must ⟨by omega,by omega⟩ ?_
    refine zfo hs i (by omega) ?_
    refine wp_must ⟨by omega,by omega⟩ ?_
    refine zgg hs i (by omega) (λw' hs=>?_)
    refine zj ?_
    have:(z1d λj=>if j<i+1 then (z64 t d).getLsbD j else (t >>> 1).getLsbD j)=z1d λj=>if j=i then !(if i<i then (z64 t d).getLsbD i else (t >>> 1).getLsbD i) else if j<i then (z64 t d).getLsbD j else (t >>> 1).getLsbD j:=z50 λj _=>by
     by_cases hji:j=i
     ·subst hji
      have hb:((t.getLsbD 0 != d) && polyB.getLsbD j)=true:=by rw [Bool.and_eq_true];exact ⟨bne_iff_ne.2 h.1,h.2⟩
      rw [if_pos (by omega),if_pos rfl,if_neg (by omega),hg,hb]
      cases (t >>> 1).getLsbD j <;> rfl
     ·rw [if_neg hji]
      by_cases hlt:j<i
      ·rw [if_pos hlt,if_pos (by omega)]
      ·rw [if_neg hlt,if_neg (by omega)]
    rw [this];exact hs
   ·refine zj ?_
    have:(z1d λj=>if j<i+1 then (z64 t d).getLsbD j else (t >>> 1).getLsbD j)=z1d λj=>if j<i then (z64 t d).getLsbD j else (t >>> 1).getLsbD j:=z50 λj _=>by
     by_cases hji:j=i
     ·subst hji
      have:((t.getLsbD 0 != d) && polyB.getLsbD j)=false:=by
       cases hc:((t.getLsbD 0 != d) && polyB.getLsbD j) with
       | false=>rfl
       | true=>exact absurd (by simpa using hc) h
      rw [if_pos (by omega),if_neg (by omega),hg,this]
      cases (t >>> 1).getLsbD j <;> rfl
     ·by_cases hlt:j<i
      ·rw [if_pos hlt,if_pos (by omega)]
      ·rw [if_neg hlt,if_neg (by omega)]
    rw [this];exact hs
  clear hs
  rintro _ w hs
  refine zt ?_
  have hsum:z66 bs=(~~~ (z45 (BitVec.allOnes 32) bs)).toNat:=by
   unfold z66 zj6
   rw [BitVec.not_zero]
  rw [hsum]
  generalize z45 (BitVec.allOnes 32) bs=s at hs ⊢
  have hlt:=(~~~ s).isLt
  refine zx (λu w'=>u=((((~~~ s).toNat:Nat):Int),())/\Sat w' l) ?_ (by rintro _ w' ⟨rfl,hs⟩;refine zt ?_;refine wp_lt ?_;exact ⟨rfl,rfl,hs⟩)
  refine z0e (λk u w=>∃ i:Nat,u=((((~~~ s).toNat % 2 ^ i:Nat):Int),(i:Int),())/\i<=32/\32-i=k/\Sat w (pt b (.cells (z1d s.getLsbD).toArray T.a0)::l)) 32 ⟨0,by simp [Nat.mod_one],by omega,rfl,hs⟩ ?_
  clear hs
  rintro k _ w ⟨i,rfl,hi,hk,hs⟩
  refine zt ?_
  refine zk (λhc=>?_) λhc=>?_
  rotate_left
  ·obtain rfl:i=32:=by omega
   refine zv (zj ⟨?_,hs.tail⟩)
   rw [Nat.mod_eq_of_lt hlt]
  refine wp_must ⟨by omega,by omega⟩ ?_
  refine zfo hs i (by omega) ?_
  have hmod:(~~~ s).toNat % 2 ^ (i+1)=(~~~ s).toNat % 2 ^ i+2 ^ i*((~~~ s).toNat.testBit i).toNat:=by
   rw [Nat.mod_pow_succ,Nat.testBit_eq_decide_div_mod_eq]
   rcases Nat.mod_two_eq_zero_or_one ((~~~ s).toNat / 2 ^ i) with h|h <;> rw [h] <;> rfl
  have hbit:(~~~ s).toNat.testBit i=!s.getLsbD i:=by
   rw [BitVec.testBit_toNat,BitVec.getLsbD_not,decide_eq_true (show i<32 by omega),Bool.true_and]
  rw [hbit] at hmod
  refine zx (λu w'=>u=((((~~~ s).toNat % 2 ^ (i+1):Nat):Int),())/\Sat w' (pt b (.cells (z1d s.getLsbD).toArray T.a0)::l)) ?_ ?_
  rotate_left
  ·rintro _ w' ⟨rfl,hs⟩
   refine zt ?_
   refine z1l (y:=((i+1:Nat):Int)) ?_ (by rw [w64 (by omega) (by omega)];omega)
   refine z0q (32-(i+1)) ?_
   exact ⟨i+1,rfl,by omega,rfl,hs⟩
  refine zk (λh=>?_) λh=>?_
  ·refine wp_must (by rw [z60];omega) ?_
   have h:s.getLsbD i=false:=by simpa using h
   rw [h] at hmod
   have hle:(~~~ s).toNat % 2 ^ (i+1)<=(~~~ s).toNat:=Nat.mod_le ..
   have e:IntKind.wrap .u32 ((((~~~ s).toNat % 2 ^ i:Nat):Int)+IntKind.wrap .u32 (1*2 ^ min (Int.toNat (IntKind.wrap .u64 (i:Int))) 32))=(((~~~ s).toNat % 2 ^ (i+1):Nat):Int):=by
    have e2:(1:Int)*2 ^ i=((2 ^ i:Nat):Int):=by simp
    have hm:(~~~ s).toNat % 2 ^ (i+1)=(~~~ s).toNat % 2 ^ i+2 ^ i:=by rw [hmod];simp
    rw [zw0 (by omega) (by omega),e2,z9y,<- Int.natCast_add,z9y,hm,Nat.mod_eq_of_lt (show 2 ^ i<4294967296 by omega),Nat.mod_eq_of_lt (by omega)]
   refine zdt e ?_
   exact zj ⟨rfl,hs⟩
  ·have h:s.getLsbD i=true:=by simpa using h
   rw [h] at hmod
   refine zj ⟨?_,hs⟩
   rw [hmod];simp
theorem zae (x:Sl) (bs:List UInt8) [hx:FocR l x 1 (bs.flatMap zg)] (hn:bs.length<=1000000000) (hs:Sat w l) :
  Ret P F.a120 #[x.v] w λvs w'=>∃ z:Sl,vs=[z.v]/\Sat w' (slc T.a38 1 z ((z21 bs).flatMap zg)::l) :=
 zmo x <| by
  unfold zwb
  have hl:=hs.slen x (xs:=bs) (enc:=zg)
  refine zk (λh=>?_) λh=>?_
  ·have:z21 bs=[]:=by unfold z21;rw [if_pos (by omega)]
   rw [this]
   exact ⟨rfl,⟨none,0,0⟩,rfl,hs.slc_nil⟩
  have e:z21 bs=z2g bs++z2e (z66 (z2g bs)):=by unfold z21;rw [if_neg (by omega)]
  have hhl:(z2g bs).length=bs.length+4:=by unfold z2g;rw [List.length_append,z3t];omega
  have hsl:=zhg (z2g bs)
  rw [hl,z9y,Nat.mod_eq_of_lt (by omega)]
  refine za (zny bs.length (by omega) hs) λ_ _ hs=>?_
  obtain ⟨y,rfl,hs⟩:=hs
  refine ze ?_
  refine wp_app' (xs:=z2e bs.length) (ys:=bs) (enc:=zg) hs (λz w' hs=>?_) (by rw [z3t];omega)
  have hs:Sat w' (slc T.a38 1 z ((z2g bs).flatMap zg)::l):=hs
  refine za (z02b z (z2g bs) (by omega) hs) λ_ _ hs=>?_
  obtain ⟨rfl,hs⟩:=hs
  refine ze ?_
  refine za (zny (z66 (z2g bs)) hsl hs) λ_ _ hs=>?_
  obtain ⟨u,rfl,hs⟩:=hs
  refine ze ?_
  have hs:=hs.pick [1,0]
  refine wp_app' (xs:=z2g bs) (ys:=z2e (z66 (z2g bs))) (enc:=zg) hs (λz w' hs=>?_) (by rw [z3t];omega)
  rw [<- e] at hs
  exact ⟨rfl,z,rfl,hs.sub⟩
theorem zke {bs:List UInt8} {x:Sl} (hs:Sat w l) [hf:FocR l x 1 (bs.flatMap zg)]:(convert T.a27 T.a32 (.slice x.a x.len x.cap)).run P w=.ok ((Sh.one (.one .str)).mk ((⟨bs.toArray⟩:ByteArray),())) w:=zdr hs
end
def rdY (x:Sl) (bs:List UInt8) (p:Nat) (s:Lf):HP:=HP.ex λR:RdM=>HP.and (stR R=s/\R.bs=bs/\R.at_<=R.bs.length/\R.bs.length<=1000000000) (pt p (.cells #[.slice x.a x.len x.cap,.int .i64 R.at_,.int .i64 R.e] T.a34))
section
variable {w:World} {l r:List HP} {p:Nat} {s:Lf} {R:RdM} {x:Sl} {bs:List UInt8}
theorem z78 (hs:Sat w (rdY x bs p s::l)):∃ R:RdM,(stR R=s/\R.bs=bs/\R.at_<=R.bs.length/\R.bs.length<=1000000000)/\Sat w (pt p (.cells #[.slice x.a x.len x.cap,.int .i64 R.at_,.int .i64 R.e] T.a34)::l):=by
 obtain ⟨R,hs⟩:=hs.ex
 obtain ⟨h,hs⟩:=hs.and
 exact ⟨R,h,hs⟩
theorem z33 (R:RdM) (h:stR R=s) (h2:R.bs=bs) (h3:R.at_<=R.bs.length/\R.bs.length<=1000000000) (hs:Sat w (pt p (.cells #[.slice x.a x.len x.cap,.int .i64 R.at_,.int .i64 R.e] T.a34)::l)):Sat w (rdY x bs p s::l):=.ex_mk R (.and_mk ⟨h,h2,h3⟩ hs)
theorem z8u (e:Int) (hs:Sat w (pt p (.cells #[.slice x.a x.len x.cap,.int .i64 R.at_,.int .i64 R.e] T.a34)::l)):Ret P F.a115 #[.pointer (some ⟨p,0,none⟩),.int .i64 e] w λvs w'=>vs=[]/\Sat w' (pt p (.cells #[.slice x.a x.len x.cap,.int .i64 R.at_,.int .i64 (R.fail e).e] T.a34)::l) :=
 znf _ e <| by
  unfold zwy
  refine zy ?_
  refine zd hs ?_
  refine zx (λ_ w'=>Sat w' (pt p (.cells #[.slice x.a x.len x.cap,.int .i64 R.at_,.int .i64 (R.fail e).e] T.a34)::l)) ?_ (by rintro _ w' hs;refine zt ?_;exact ⟨rfl,rfl,hs⟩)
  refine zk (λh=>?_) λh=>?_
  ·refine zy ?_
   refine z0h hs λw' hs=>?_
   have e1:(R.fail e).e=e:=if_pos h
   rw [e1]
   exact zj hs
  ·have e1:(R.fail e).e=R.e:=if_neg h
   rw [e1]
   exact zj hs
theorem zau {e:Int} (he:e≠0):stR (R.fail e)=none:=by
 refine z4h ?_
 unfold RdM.fail
 show (if R.e=0 then e else R.e)≠0
 split
 ·exact he
 ·assumption
theorem zaj (hcap:x.len<=x.cap) [hx:FocR r x 1 (bs.flatMap zg)] [hf:Fo l (rdY x bs) p s r] (hs:Sat w l):Ret P F.a114 #[.pointer (some ⟨p,0,none⟩)] w λvs w'=>vs=[.int .u64 ((z08 s).1:Int)]/\Sat w' (rdY x bs p (z08 s).2::r) :=
 zlw _ <| by
  unfold zx4
  obtain ⟨R,⟨rfl,hRb,hb⟩,hs⟩:=z78 (hs.perm hf.perm)
  subst hRb
  obtain ⟨u1_,u2_⟩:=zb1 (R:=R)
  rw [<- u1_,<- u2_]
  have hl:=hs.tail.slen x (xs:=R.bs) (enc:=zg)
  refine zy ?_
  refine zd hs ?_
  refine zk (λh=>?_) λh=>?_
  ·have e1:R.uint=(0,R):=by unfold RdM.uint;rw [if_pos h]
   rw [e1]
   exact ⟨rfl,rfl,z33 R rfl rfl hb hs⟩
  refine z0i hs λw' hs=>?_
  refine zy ?_
  refine zd hs ?_
  refine zy ?_
  refine zd hs ?_
  refine wp_must ⟨by omega,show ((R.at_:Nat):Int)<=((x.len:Nat):Int) by omega⟩ ?_
  rw [Int.toNat_natCast]
  have hF:FocR (pt p (.cells #[.slice x.a x.len x.cap,.int .i64 R.at_,.int .i64 R.e] T.a34)::r) ⟨z1g x.a 1 R.at_ x.cap,x.len-R.at_,x.cap-R.at_⟩ 1 ((R.bs.drop R.at_).flatMap zg):=FocR.post hcap
  refine za (zsb ⟨z1g x.a 1 R.at_ x.cap,x.len-R.at_,x.cap-R.at_⟩ (R.bs.drop R.at_) (by rw [List.length_drop];omega) hs) λ_ _ hs=>?_
  obtain ⟨rfl,hs⟩:=hs
  refine ze ?_
  refine wp_lt ?_
  refine wp_lt ?_
  refine zm ?_
  cases hnum:z35 0 (R.bs.drop R.at_) with
  | none =>
   have e1:R.uint=(0,R.fail 6):=by
    have h0:R.e=0:=Decidable.not_not.1 h
    unfold RdM.uint RdM.fail;rw [if_neg (by rw [h0];simp),hnum,if_pos h0]
   refine z1b ?_ rfl
   refine za (z8u (R:=R) (p:=p) (x:=x) 6 hs) λ_ _ hs=>?_
   obtain ⟨rfl,hs⟩:=hs
   refine ze ?_
   rw [e1]
   exact ⟨rfl,rfl,z33 (R.fail 6) rfl rfl hb hs⟩
  | some q =>
   have hq:=zem _ _ _ _ hnum
   rw [List.length_drop] at hq
   have e1:R.uint=(q.1,⟨R.bs,R.at_+q.2,R.e⟩):=by
    unfold RdM.uint;rw [if_neg h,hnum]
   refine z0j ?_ (show ¬ ((q.2:Nat):Int)=0 by omega)
   refine zy ?_
   refine zd hs ?_
   refine zy ?_
   have e2:IntKind.wrap .i64 ((R.at_:Int)+(((some q).getD (0,0)).2:Nat))=((R.at_+q.2:Nat):Int):=by
    show IntKind.wrap .i64 ((R.at_:Int)+((q.2:Nat):Int))=_
    rw [w64 (by omega) (by omega)];omega
   rw [e2]
   refine z0h hs λw' hs=>?_
   refine wp_lt ?_
   rw [e1]
   exact ⟨rfl,rfl,z33 ⟨R.bs,R.at_+q.2,R.e⟩ rfl rfl ⟨by show R.at_+q.2<=R.bs.length;omega,hb.2⟩ hs⟩
theorem zfa {s:Lf}:(z08 s).1<18446744073709551616:=by
 cases h:(z08 s).2 with
 | some t=>exact (z63 h).1
 | none =>
  cases s with
  | none=>show (0:Nat)<_;omega
  | some b =>
   cases hn:z35 0 b with
   | none=>unfold z08;simp only [hn];omega
   | some q=>unfold z08 at h;simp only [hn] at h;cases h
theorem z031 (hcap:x.len<=x.cap) [hx:FocR r x 1 (bs.flatMap zg)] [hf:Fo l (rdY x bs) p s r] (hs:Sat w l):Ret P F.a112 #[.pointer (some ⟨p,0,none⟩)] w λvs w'=>vs=[.int .i64 (zag (z08 s).1)]/\Sat w' (rdY x bs p (z08 s).2::r) :=
 zly _ <| by
  unfold zwt
  have hlt:=zfa (s:=s)
  refine za (zaj (x:=x) (bs:=bs) (p:=p) (s:=s) hcap hs) λ_ w' hs=>?_
  obtain ⟨rfl,hs⟩:=hs
  refine ze ?_
  refine wp_lt ?_
  generalize (z08 s).1=m at *
  have e0:Int.tmod (m:Int) 2=((m % 2:Nat):Int):=rfl
  have e1:Int.tdiv (m:Int) 2=((m / 2:Nat):Int):=rfl
  have e2:IntKind.wrap .u64 ((m / 2:Nat):Int)=((m / 2:Nat):Int):=zc2 (by omega) (by omega)
  rw [e0,e1,e2]
  refine zk (λh=>?_) λh=>?_
  ·refine wp_lt ?_
   have e4:IntKind.wrap .i64 ((m / 2:Nat):Int)=((m / 2:Nat):Int):=w64 (by omega) (by omega)
   have e3:IntKind.wrap .i64 (0-((m / 2:Nat):Int))=0-((m / 2:Nat):Int):=w64 (by omega) (by omega)
   rw [e4,e3,w64 (by omega) (by omega)]
   refine ⟨rfl,?_,hs⟩
   unfold zag
   rw [if_pos (by omega)]
   congr 2
   omega
  ·refine wp_lt ?_
   rw [w64 (by omega) (by omega)]
   refine ⟨rfl,?_,hs⟩
   unfold zag
   rw [if_neg (by omega)]
def z6t (n:Nat):Lf->List UInt8 × Lf
 | none=>([],none)
 | some t=>if n<=t.length then (t.take n,some (t.drop n)) else ([],none)
theorem z6r (n:Nat) (t:List UInt8):z6t n (some t)=if n<=t.length then (t.take n,some (t.drop n)) else ([],none):=rfl
theorem zkn (n:Nat) (hn:n<=1000000000) (hcap:x.len<=x.cap) [hx:FocR r x 1 (bs.flatMap zg)] [hf:Fo l (rdY x bs) p s r] (hs:Sat w l) :
  Ret P F.a109 #[.pointer (some ⟨p,0,none⟩),.int .i64 (n:Int)] w λvs w'=>∃ z:Sl,vs=[z.v]/\Sat w' (slc T.a38 1 z ((z6t n s).1.flatMap zg)::rdY x bs p (z6t n s).2::r) :=
 zm0 _ (n:Int) <| by
  unfold zwp
  obtain ⟨R,⟨rfl,hRb,hb⟩,hs⟩:=z78 (hs.perm hf.perm)
  subst hRb
  have hl:=hs.tail.slen x (xs:=R.bs) (enc:=zg)
  refine zx (λ_ w'=>Sat w' (pt p (.cells #[.slice x.a x.len x.cap,.int .i64 R.at_,.int .i64 R.e] T.a34)::r)) ?_ ?_
  ·refine z0j ?_ (by omega)
   exact zj hs
  clear hs
  rintro _ w hs
  refine zt ?_
  refine z0i hs λw' hs=>?_
  refine zy ?_
  refine zd hs ?_
  refine zy ?_
  refine zd hs ?_
  refine zm ?_
  have ew:IntKind.wrap .i64 (((x.len:Nat):Int)-(R.at_:Int))=((R.bs.length-R.at_:Nat):Int):=by rw [w64 (by omega) (by omega)];omega
  rw [ew]
  have hrl:(z27 R).length=R.bs.length-R.at_:=by unfold z27;rw [List.length_drop]
  refine zx (λ_ w'=>Sat w' (pt p (.cells #[.slice x.a x.len x.cap,.int .i64 R.at_,.int .i64 (if n<=R.bs.length-R.at_ then R else R.fail 6).e] T.a34)::r)) ?_ ?_
  ·refine zk (λh=>?_) λh=>?_
   ·rw [if_neg (by omega)]
    refine za (z8u (R:=R) (p:=p) (x:=x) 6 hs) λ_ _ hs=>?_
    obtain ⟨rfl,hs⟩:=hs
    refine ze ?_
    exact zj hs
   ·rw [if_pos (by omega)]
    exact zj hs
  clear hs
  rintro _ w hs
  refine zt ?_
  refine zy ?_
  refine zd hs ?_
  refine zk (λh=>?_) λh=>?_
  ·have e:z6t n (stR R)=([],none):=by
    by_cases h0:R.e=0
    ·rw [z3k h0,z6r,if_neg]
     rw [hrl]
     intro h2
     rw [if_pos h2] at h
     exact h h0
    ·rw [z4h h0];rfl
   rw [e]
   refine ⟨rfl,⟨none,0,0⟩,rfl,?_⟩
   refine Sat.slc_nil ?_
   refine z33 (if n<=R.bs.length-R.at_ then R else R.fail 6) (z4h h) ?_ ?_ ?_
   ·split <;> rfl
   ·split <;> exact hb
   ·have e2:(if n<=R.bs.length-R.at_ then R else R.fail 6).at_=R.at_:=by split <;> rfl
    rw [e2]
    exact hs
  have h:=Decidable.not_not.1 h
  have hle:n<=R.bs.length-R.at_:=by
   apply Decidable.byContradiction
   intro h2
   rw [if_neg h2] at h
   have:=zau (R:=R) (e:=6) (by decide)
   rw [z3k h] at this
   cases this
  rw [if_pos hle] at h hs
  have e:z6t n (stR R)=((z27 R).take n,some ((z27 R).drop n)):=by
   rw [z3k h,z6r,if_pos (by rw [hrl];exact hle)]
  rw [e]
  refine z0i hs λw' hs=>?_
  refine zy ?_
  refine zd hs ?_
  refine zy ?_
  refine zd hs ?_
  refine zy ?_
  refine zd hs ?_
  have ea:IntKind.wrap .i64 ((R.at_:Int)+(n:Int))=((R.at_+n:Nat):Int):=by rw [w64 (by omega) (by omega)];omega
  rw [ea]
  refine wp_must ⟨by omega,by omega,by omega⟩ ?_
  rw [Int.toNat_natCast,Int.toNat_natCast,show R.at_+n-R.at_=n by omega]
  have hF1:FocR (pt p (.cells #[.slice x.a x.len x.cap,.int .i64 R.at_,.int .i64 R.e] T.a34)::r) ⟨z1g x.a 1 R.at_ x.cap,x.len-R.at_,x.cap-R.at_⟩ 1 ((R.bs.drop R.at_).flatMap zg):=FocR.post hcap
  have hF2:FocR (pt p (.cells #[.slice x.a x.len x.cap,.int .i64 R.at_,.int .i64 R.e] T.a34)::r) ⟨z1g x.a 1 R.at_ x.cap,n,x.cap-R.at_⟩ 1 (((R.bs.drop R.at_).take n).flatMap zg):=FocR.pre (x:=⟨z1g x.a 1 R.at_ x.cap,x.len-R.at_,x.cap-R.at_⟩) (by rw [List.length_drop];omega)
  have hs:Sat w' (slc T.a38 1 ⟨none,0,0⟩ (([]:List UInt8).flatMap zg)::pt p (.cells #[.slice x.a x.len x.cap,.int .i64 R.at_,.int .i64 R.e] T.a34)::r):=hs.slc_nil
  refine wp_app' (x:=⟨none,0,0⟩) (y:=⟨z1g x.a 1 R.at_ x.cap,n,x.cap-R.at_⟩) (xs:=([]:List UInt8)) (ys:=(R.bs.drop R.at_).take n) (enc:=zg) hs (λz w' hs=>?_) (by simp only [List.length_nil,List.length_take,List.length_drop];omega)
  rw [List.nil_append] at hs
  refine zm ?_
  refine zy ?_
  refine zd hs ?_
  refine zy ?_
  rw [ea]
  refine z0h hs λw' hs=>?_
  refine ⟨rfl,z,rfl,?_⟩
  have hs:Sat w' (rdY x R.bs p (some ((z27 R).drop n))::slc T.a38 1 z (((R.bs.drop R.at_).take n).flatMap zg)::r):=by
   refine z33 ⟨R.bs,R.at_+n,R.e⟩ ?_ rfl ⟨by show R.at_+n<=R.bs.length;omega,hb.2⟩ hs.sub
   unfold stR z27
   rw [if_pos h,List.drop_drop]
  exact hs.pick [1]
theorem zlz (s:Lf):(z0m s).2=(z6t 1 s).2/\(z0m s).1=(match (z6t 1 s).1 with|[]=>0|c::_=>c.toNat):=by
 match s with
 | none=>exact ⟨rfl,rfl⟩
 | some []=>exact ⟨rfl,rfl⟩
 | some (c::t) =>
  rw [z6r,if_pos (by simp)]
  exact ⟨rfl,rfl⟩
theorem zpy (s:Lf):(z6t 1 s).1.length<=1:=by
 match s with
 | none=>exact Nat.zero_le _
 | some t =>
  rw [z6r]
  by_cases h:1<=t.length
  ·rw [if_pos h]
   show (t.take 1).length<=1
   rw [List.length_take];omega
  ·rw [if_neg h];exact Nat.zero_le _
theorem zaw (hcap:x.len<=x.cap) [hx:FocR r x 1 (bs.flatMap zg)] [hf:Fo l (rdY x bs) p s r] (hs:Sat w l):Ret P F.a108 #[.pointer (some ⟨p,0,none⟩)] w λvs w'=>vs=[.int .i64 ((z0m s).1:Int)]/\Sat w' (rdY x bs p (z0m s).2::r) :=
 zmf _ <| by
  unfold zwk
  refine za (zkn (x:=x) (bs:=bs) (p:=p) (s:=s) 1 (by omega) hcap hs) λ_ w' hs=>?_
  obtain ⟨z,rfl,hs⟩:=hs
  refine ze ?_
  obtain ⟨h1,h2⟩:=zlz s
  have hbl:=zpy s
  have hlz:=hs.slen z (xs:=(z6t 1 s).1) (enc:=zg)
  rw [<- h1] at hs
  generalize (z6t 1 s).1=cs at *
  refine zk (λh=>?_) λh=>?_
  ·have e:cs=[]:=List.length_eq_zero_iff.1 (by omega)
   subst e
   refine ⟨rfl,by rw [h2];rfl,hs.tail⟩
  ·have hpos:0<cs.length:=by omega
   refine z7c hs (xs:=cs) (enc:=zg) 0 hpos ?_
   obtain ⟨c,t,rfl⟩:∃ c t,cs=c::t:=by
    cases cs with
    | nil=>simp at hpos
    | cons c t=>exact ⟨c,t,rfl⟩
   have hc:=c.toNat_lt
   have e3:IntKind.wrap .i64 ((((c::t)[0]).toNat:Nat):Int)=((c.toNat:Nat):Int):=w64 (x:=((c.toNat:Nat):Int)) (by omega) (by omega)
   rw [e3]
   refine wp_lt ?_
   exact ⟨rfl,by rw [h2],hs.tail⟩
theorem z02v (hcap:x.len<=x.cap) [hx:FocR r x 1 (bs.flatMap zg)] [hf:Fo l (rdY x bs) p s r] (hs:Sat w l):Ret P F.a110 #[.pointer (some ⟨p,0,none⟩)] w λvs w'=>∃ e:Int,vs=[.int .i64 e]/\(e=0↔s=some [])/\Sat w' r :=
 znc _ <| by
  unfold zws
  obtain ⟨R,⟨rfl,hRb,hb⟩,hs⟩:=z78 (hs.perm hf.perm)
  subst hRb
  have hl:=hs.tail.slen x (xs:=R.bs) (enc:=zg)
  have hrl:(z27 R).length=R.bs.length-R.at_:=by unfold z27;rw [List.length_drop]
  refine z0i hs λw' hs=>?_
  refine zy ?_
  refine zd hs ?_
  refine zy ?_
  refine zd hs ?_
  refine zm ?_
  refine zx (λ_ w'=>Sat w' (pt p (.cells #[.slice x.a x.len x.cap,.int .i64 R.at_,.int .i64 (if R.at_<R.bs.length then R.fail 6 else R).e] T.a34)::r)) ?_ ?_
  ·refine zk (λh=>?_) λh=>?_
   ·rw [if_pos (by omega)]
    refine za (z8u (R:=R) (p:=p) (x:=x) 6 hs) λ_ _ hs=>?_
    obtain ⟨rfl,hs⟩:=hs
    refine ze ?_
    exact zj hs
   ·rw [if_neg (by omega)]
    exact zj hs
  clear hs
  rintro _ w hs
  refine zt ?_
  refine zy ?_
  refine zd hs ?_
  refine ⟨rfl,_,rfl,?_,hs.tail⟩
  by_cases hlt:R.at_<R.bs.length
  ·rw [if_pos hlt]
   have h1:=zau (R:=R) (e:=6) (by decide)
   constructor
   ·intro h;rw [z3k h] at h1;cases h1
   ·intro h
    unfold stR at h
    split at h
    ·simp only [Option.some.injEq] at h
     rw [h] at hrl
     simp at hrl
     omega
    ·cases h
  ·rw [if_neg hlt]
   have hn:z27 R=[]:=List.length_eq_zero_iff.1 (by omega)
   unfold stR
   rw [hn]
   by_cases h:R.e=0 <;> simp [h]
theorem zm7 (s:Lf):(z2f s=(decide ((z0m s).1=1),(z0m s).2)/\((z0m s).1<=1/\∃ c t,s=some (c::t)/\c.toNat<=1))\/(z2f s=(false,none)/\(s=none\/s=some []\/∃ c t,s=some (c::t)/\¬ c.toNat<=1)):=by
 match s with
 | none=>exact .inr ⟨rfl,.inl rfl⟩
 | some []=>exact .inr ⟨rfl,.inr (.inl rfl)⟩
 | some (c::t) =>
  unfold z2f
  by_cases h:c.toNat<=1
  ·exact .inl ⟨by simp only;rw [if_pos h];rfl,h,c,t,rfl,h⟩
  ·exact .inr ⟨by simp only;rw [if_neg h],.inr (.inr ⟨c,t,rfl,h⟩)⟩
theorem zzf (hcap:x.len<=x.cap) [hx:FocR r x 1 (bs.flatMap zg)] [hf:Fo l (rdY x bs) p s r] (hs:Sat w l):Ret P F.a111 #[.pointer (some ⟨p,0,none⟩)] w λvs w'=>vs=[.bool (z2f s).1]/\Sat w' (rdY x bs p (z2f s).2::r) :=
 zlu _ <| by
  unfold zxu
  obtain ⟨R,⟨rfl,hRb,hb⟩,hs⟩:=z78 (hs.perm hf.perm)
  subst hRb
  have hl:=hs.tail.slen x (xs:=R.bs) (enc:=zg)
  have hrl:(z27 R).length=R.bs.length-R.at_:=by unfold z27;rw [List.length_drop]
  refine z0i hs λw' hs=>?_
  refine zy ?_
  refine zd hs ?_
  refine z0p ?_
  refine zd hs ?_
  refine z0p ?_
  refine zd hs ?_
  refine z0p ?_
  refine zd hs ?_
  refine z0p ?_
  refine zd hs ?_
  refine z8y hs (xs:=R.bs) (enc:=zg) (((R.bs[R.at_]?.getD 0).toNat:Nat):Int) (λhg=>?_) ?_
  ·have hg2:¬ ((x.len:Nat):Int)<=(R.at_:Int):=by simpa using hg.2
   have hlt:R.at_<R.bs.length:=by omega
   exact ⟨R.at_,hlt,rfl,by rw [List.getElem?_eq_getElem hlt];rfl⟩
  refine zm ?_
  by_cases hgood:R.e=0/\R.at_<R.bs.length/\(R.bs[R.at_]?.getD 0).toNat<=1
  ·obtain ⟨h0,hlt,hc⟩:=hgood
   rw [List.getElem?_eq_getElem hlt] at hc ⊢
   have hst:stR R=some (R.bs[R.at_]::R.bs.drop (R.at_+1)):=by
    rw [z3k h0]
    unfold z27
    rw [List.drop_eq_getElem_cons hlt]
   have hc:R.bs[R.at_].toNat<=1:=hc
   refine zx (λ_ w'=>Sat w' (rdY x R.bs p (stR R)::r)) ?_ ?_
   ·refine z0j ?_ ?_
    ·exact zj (z33 R rfl rfl hb hs)
    ·rintro ⟨-,h|h⟩
     ·omega
     ·have h:((R.bs[R.at_].toNat:Nat):Int)>1:=h
      omega
   clear hs
   rintro _ w hs
   refine zt ?_
   refine za (zaw (x:=x) (bs:=R.bs) (p:=p) (s:=stR R) hcap hs) λ_ w' hs=>?_
   obtain ⟨rfl,hs⟩:=hs
   refine ze ?_
   refine wp_lt ?_
   rw [hst] at hs ⊢
   have e1:z2f (some (R.bs[R.at_]::R.bs.drop (R.at_+1)))=(decide (R.bs[R.at_].toNat=1),some (R.bs.drop (R.at_+1))):=by
    unfold z2f
    simp only
    rw [if_pos hc]
   rw [e1]
   refine ⟨rfl,?_,hs⟩
   have e2:(z0m (some (R.bs[R.at_]::R.bs.drop (R.at_+1)))).1=R.bs[R.at_].toNat:=rfl
   rw [e2]
   congr 2
   rw [Bool.eq_iff_iff]
   simp only [beq_iff_eq,decide_eq_true_eq]
   omega
  ·have e1:z2f (stR R)=(false,none):=by
    rcases zm7 (stR R) with ⟨-,-,c,t,h1,h2⟩|⟨h,-⟩
    ·exfalso
     apply hgood
     unfold stR at h1
     split at h1
     ·rename_i h0
      simp only [Option.some.injEq] at h1
      have hlt:R.at_<R.bs.length:=by rw [h1] at hrl;simp at hrl;omega
      unfold z27 at h1
      rw [List.drop_eq_getElem_cons hlt,List.cons.injEq] at h1
      refine ⟨h0,hlt,?_⟩
      rw [List.getElem?_eq_getElem hlt]
      show R.bs[R.at_].toNat<=1
      rw [h1.1];exact h2
     ·cases h1
    ·exact h
   rw [e1]
   refine zx (λ_ w'=>Sat w' (rdY x R.bs p none::r)) ?_ ?_
   ·refine zk (λh=>?_) λh=>?_
    ·refine za (z8u (R:=R) (p:=p) (x:=x) 6 hs) λ_ _ hs=>?_
     obtain ⟨rfl,hs⟩:=hs
     refine ze ?_
     exact zj (z33 (R.fail 6) (zau (by decide)) rfl hb hs)
    ·refine zj (z33 R (z4h λh0=>?_) rfl hb hs)
     apply hgood
     by_cases hlt:R.at_<R.bs.length
     ·refine ⟨h0,hlt,?_⟩
      apply Decidable.byContradiction
      intro h3
      exact h ⟨h0,.inr (by omega)⟩
     ·exact absurd ⟨h0,.inl (by omega)⟩ h
   clear hs
   rintro _ w hs
   refine zt ?_
   refine za (zaw (x:=x) (bs:=R.bs) (p:=p) (s:=none) hcap hs) λ_ w' hs=>?_
   obtain ⟨rfl,hs⟩:=hs
   refine ze ?_
   refine wp_lt ?_
   exact ⟨rfl,rfl,hs⟩
theorem zbt {most:Nat} {s:Lf} {t:List UInt8} (h:(z08 s).2=some t):z0x most s=if (z08 s).1<=most/\(z08 s).1<=t.length then (⟨(t.take (z08 s).1).toArray⟩,some (t.drop (z08 s).1)) else (⟨#[]⟩,none):=by unfold z0x;rw [h]
theorem zg0 {most:Nat} {s:Lf} (h:(z08 s).2=none):z0x most s=(⟨#[]⟩,none):=by unfold z0x;rw [h]
theorem zo5 (most:Nat) (hmost:most<=1000000) (hcap:x.len<=x.cap) [hx:FocR r x 1 (bs.flatMap zg)] [hf:Fo l (rdY x bs) p s r] (hs:Sat w l):Ret P F.a113 #[.pointer (some ⟨p,0,none⟩),.int .i64 (most:Int)] w λvs w'=>vs=[.string (z0x most s).1]/\Sat w' (rdY x bs p (z0x most s).2::r) :=
 znl _ (most:Int) <| by
  unfold zx7
  obtain ⟨R0,⟨h0,hRb0,hb0⟩,hs⟩:=z78 (hs.perm hf.perm)
  have hult:=zfa (s:=s)
  refine zy ?_
  refine zd hs ?_
  refine wp_lt ?_
  have hs:=z33 R0 h0 hRb0 hb0 hs
  refine za (zaj (x:=x) (bs:=bs) (p:=p) (s:=s) hcap hs) λ_ w' hs=>?_
  obtain ⟨rfl,hs⟩:=hs
  refine ze ?_
  refine wp_lt ?_
  obtain ⟨R,⟨h1,hRb,hb⟩,hs2⟩:=z78 hs
  clear hs
  subst hRb
  have hs:=hs2
  clear hs2
  have hl:=hs.tail.slen x (xs:=R.bs) (enc:=zg)
  have hrl:(z27 R).length=R.bs.length-R.at_:=by unfold z27;rw [List.length_drop]
  have em:IntKind.wrap .u64 (most:Int)=(most:Int):=zc2 (by omega) (by omega)
  refine zy ?_
  refine zd hs ?_
  generalize hv:(z08 s).1=v at *
  refine zx (λ_ w'=>Sat w' (pt p (.cells #[.slice x.a x.len x.cap,.int .i64 R.at_,.int .i64 (if R.e=0/\v<=most then R else R.fail 7).e] T.a34)::r)) ?_ ?_
  ·refine zk (λh=>?_) λh=>?_
   ·rw [em] at h
    rw [if_neg (by omega)]
    refine za (z8u (R:=R) (p:=p) (x:=x) 7 hs) λ_ _ hs=>?_
    obtain ⟨rfl,hs⟩:=hs
    refine ze ?_
    exact zj hs
   ·rw [em] at h
    by_cases he:R.e=0
    ·rw [if_pos ⟨he,by omega⟩]
     exact zj hs
    ·rw [if_neg (λh=>he h.1)]
     have e:(R.fail 7).e=R.e:=if_neg he
     rw [e]
     exact zj hs
  clear hs
  rintro _ w hs
  refine zt ?_
  refine z0i hs λw' hs=>?_
  refine zy ?_
  refine zd hs ?_
  refine z0p ?_
  refine zd hs ?_
  refine z0p ?_
  refine zd hs ?_
  refine zm ?_
  have ew:IntKind.wrap .u64 (IntKind.wrap .i64 (((x.len:Nat):Int)-(R.at_:Int)))=((R.bs.length-R.at_:Nat):Int):=by
   have e3:IntKind.wrap .i64 (((x.len:Nat):Int)-(R.at_:Int))=((R.bs.length-R.at_:Nat):Int):=by rw [w64 (by omega) (by omega)];omega
   rw [e3]
   exact zc2 (by omega) (by omega)
  refine zx (λ_ w'=>∃ e:Int,(e=0↔(R.e=0/\v<=most/\v<=R.bs.length-R.at_))/\Sat w' (pt p (.cells #[.slice x.a x.len x.cap,.int .i64 R.at_,.int .i64 e] T.a34)::r)) ?_ ?_
  ·have hfirst:(if R.e=0/\v<=most then R else R.fail 7).e=0↔(R.e=0/\v<=most):=by
    by_cases h:R.e=0/\v<=most
    ·rw [if_pos h];exact ⟨λ_=>h,λh=>h.1⟩
    ·rw [if_neg h]
     constructor
     ·intro h2
      have:=zau (R:=R) (e:=7) (by decide)
      rw [z3k h2] at this;cases this
     ·intro h2;exact absurd h2 h
   generalize (if R.e=0/\v<=most then R else R.fail 7).e=e1 at *
   refine zk (λh=>?_) λh=>?_
   ·rw [ew] at h
    refine za (z8u (R:=⟨R.bs,R.at_,e1⟩) (p:=p) (x:=x) 6 hs) λ_ _ hs=>?_
    obtain ⟨rfl,hs⟩:=hs
    refine ze ?_
    refine zj ⟨_,?_,hs⟩
    constructor
    ·intro h2
     have:=zau (R:=⟨R.bs,R.at_,e1⟩) (e:=6) (by decide)
     rw [z3k h2] at this;cases this
    ·rintro ⟨-,-,h3⟩;omega
   ·rw [ew] at h
    refine zj ⟨e1,?_,hs⟩
    rw [hfirst]
    constructor
    ·intro h2
     exact ⟨h2.1,h2.2,by have:=hfirst.2 h2;omega⟩
    ·intro h2;exact ⟨h2.1,h2.2.1⟩
  clear hs
  rintro _ w ⟨e,he,hs⟩
  refine zt ?_
  refine zy ?_
  refine zd hs ?_
  refine zk (λh=>?_) λh=>?_
  ·refine zy ?_
   refine z0h hs λw' hs=>?_
   have et:z0x most s=(⟨#[]⟩,none):=by
    cases h2:(z08 s).2 with
    | none=>exact zg0 h2
    | some t =>
     rw [zbt h2,if_neg]
     rw [h2] at h1
     rintro ⟨h3,h4⟩
     apply h
     rw [he]
     unfold stR at h1
     split at h1
     ·rename_i hz
      simp only [Option.some.injEq] at h1
      rw [hv] at h3 h4
      rw [<- h1,hrl] at h4
      exact ⟨hz,h3,h4⟩
     ·cases h1
   rw [et]
   refine ⟨rfl,rfl,?_⟩
   exact z33 ⟨R.bs,R0.at_,e⟩ (z4h h) rfl ⟨by rw [hRb0] at hb0;exact hb0.1,hb.2⟩ hs
  ·have h:=Decidable.not_not.1 h
   obtain ⟨hz,hm1,hm2⟩:=he.1 h
   subst h
   have h2:(z08 s).2=some (z27 R):=by rw [<- h1,z3k hz]
   have et:z0x most s=(⟨((z27 R).take v).toArray⟩,some ((z27 R).drop v)):=by
    rw [zbt h2,hv,if_pos ⟨hm1,by rw [hrl];exact hm2⟩]
   have hs:Sat w (rdY x R.bs p (some (z27 R))::r):=z33 ⟨R.bs,R.at_,0⟩ rfl rfl hb hs
   rw [w64 (by omega) (by omega)]
   refine za (zkn (x:=x) (bs:=R.bs) (p:=p) (s:=some (z27 R)) v (by omega) hcap hs) λ_ w' hs=>?_
   obtain ⟨z,rfl,hs⟩:=hs
   refine ze ?_
   rw [z6r,if_pos (by rw [hrl];exact hm2)] at hs
   refine z93 (bs:=(z27 R).take v) hs ?_
   refine wp_lt ?_
   rw [et]
   exact ⟨rfl,rfl,hs.tail⟩
end
section
variable {w:World} {l r:List HP} {p:Nat} {s:Lf}
theorem zzp (b:Bool) (hs:Sat w l):Ret P F.a145 #[.bool b] w λvs w'=>∃ z:Sl,vs=[z.v]/\Sat w' (slc T.a38 1 z ([z4z b].flatMap zg)::l) :=
 zn4 b <| by
  unfold zwc
  refine zk (λh=>?_) λh=>?_
  ·subst h
   refine z1f hs (enc:=zg) (1:UInt8) λz w' hs=>?_
   exact ⟨rfl,z,rfl,hs⟩
  ·have h:b=false:=by simpa using h
   subst h
   refine z1f hs (enc:=zg) (0:UInt8) λz w' hs=>?_
   exact ⟨rfl,z,rfl,hs⟩
theorem zgm (n:Nat) {x:Sl} {bs:List UInt8} {e:Int} {at_:Nat} (hn:at_+n<=bs.length) (hb:bs.length<=1000000000) (hcap:x.len<=x.cap) [hf:FocB l p (.cells [.slice x.a x.len x.cap,.int .i64 at_,.int .i64 e].toArray T.a40) r] [hr:FocR r x 1 (bs.flatMap zg)] (hs:Sat w l) :
  Ret P F.a162 #[.pointer (some ⟨p,0,none⟩),.int .i64 n] w λvs w'=>vs=[.slice (z1g x.a 1 at_ x.cap) n (x.cap-at_)]/\Sat w' (pt p (.cells #[.slice x.a x.len x.cap,.int .i64 (at_+n:Nat),.int .i64 e] T.a40)::r) :=
 zlr _ n <| by
  unfold zxs
  have hs:=hs.perm hf.perm
  have hl:=hs.slen x (xs:=bs) (enc:=zg)
  refine zy ?_
  refine zd hs ?_
  refine zy ?_
  have e2:IntKind.wrap .i64 ((at_:Int)+n)=((at_+n:Nat):Int):=by rw [w64 (by omega) (by omega)];omega
  rw [e2]
  refine z0h hs λw' hs=>?_
  refine z0i hs λw' hs=>?_
  refine zy ?_
  refine zd hs ?_
  refine zy ?_
  refine zd hs ?_
  refine zy ?_
  refine zd hs ?_
  have e3:IntKind.wrap .i64 (((at_+n:Nat):Int)-n)=(at_:Int):=by rw [w64 (by omega) (by omega)];omega
  rw [e3]
  refine wp_must (by omega) ?_
  refine zm ?_
  refine ⟨rfl,?_,hs⟩
  simp only [Int.toNat_natCast,Nat.add_sub_cancel_left]
end
section
variable {w:World} {l r:List HP} {p:Nat} {s:Lf}
theorem zoj {R:RdM} (hb:R.at_<=R.bs.length) (he:R.e=0) (h:R.bs.length-R.at_=0):stR R=some []:=by
 rw [z3k he]
 unfold z27
 rw [List.drop_eq_nil_of_le (by omega)]
theorem zky {R:RdM} (he:R.e=0) (h:R.at_<R.bs.length):stR R=some (R.bs[R.at_]::R.bs.drop (R.at_+1)):=by
 rw [z3k he]
 unfold z27
 rw [List.drop_eq_getElem_cons h]
theorem zfk {x:Sl} {bs:List UInt8} {n k:Nat} (hcap:x.len<=x.cap) (hk:n+k<=bs.length) [hf:FocR l x 1 (bs.flatMap zg)]:FocR l ⟨z1g x.a 1 n x.cap,k,x.cap-n⟩ 1 (((bs.drop n).take k).flatMap zg):=by
 have h:FocR l ⟨z1g x.a 1 n x.cap,x.len-n,x.cap-n⟩ 1 ((bs.drop n).flatMap zg):=FocR.post hcap
 exact FocR.pre (x:=⟨z1g x.a 1 n x.cap,x.len-n,x.cap-n⟩) (by rw [List.length_drop];omega)
theorem zgp [hf:Fo l (rdS T.a40) p s r] (hs:Sat w l):Ret P F.a149 #[.pointer (some ⟨p,0,none⟩)] w λvs w'=>vs=[.int .i64 ((z0m s).1:Int)]/\Sat w' (rdS T.a40 p (z0m s).2::r) :=
 zmh _ <| by
  unfold zw7
  obtain ⟨R,rfl,hs⟩:=z73 (hs.perm hf.perm)
  have hb:=z6h hs
  refine za (zcz (p:=p) hs) λ_ _ hs=>?_
  obtain ⟨rfl,hs⟩:=hs
  refine ze ?_
  refine zk (λh=>?_) λh=>?_
  ·have h:R.e≠0:=by simpa using h
   rw [z4h h]
   exact ⟨rfl,rfl,z2w (z4h h) hs⟩
  have h:R.e=0:=by simpa using h
  refine zy ?_
  refine za (zcx (p:=p) hs) λ_ _ hs=>?_
  obtain ⟨rfl,hs⟩:=hs
  refine ze ?_
  refine zk (λh2=>?_) λh2=>?_
  ·refine zy ?_
   refine za (z7a (p:=p) 6 hs) λ_ _ hs=>?_
   obtain ⟨rfl,hs⟩:=hs
   refine ze ?_
   rw [zoj hb.1 h (by omega)]
   exact ⟨rfl,rfl,z2w (if_neg (by show ¬ (if R.e=0 then (6:Int) else R.e)=0;rw [if_pos h];decide)) hs⟩
  have hlt:R.at_<R.bs.length:=by omega
  rw [zky h hlt]
  obtain ⟨x,-,hs⟩:=z2q hs
  have hl:=hs.slen x (xs:=R.bs) (enc:=zg)
  have hcap:x.len<=x.cap:=(hs.pick [1]).slc_cap
  refine zy ?_
  refine za (zgm (p:=p) 1 (x:=x) (bs:=R.bs) (at_:=R.at_) (e:=R.e) (by omega) hb.2 hcap hs) λ_ w' hs=>?_
  obtain ⟨rfl,hs⟩:=hs
  refine ze ?_
  refine z7c (hf:=zfk hcap (by omega)) hs (xs:=(R.bs.drop R.at_).take 1) (enc:=zg) 0 (by rw [List.length_take,List.length_drop];omega) ?_ rfl rfl
  have hg:((R.bs.drop R.at_).take 1)[0]'(by rw [List.length_take,List.length_drop];omega)=R.bs[R.at_]:=by simp
  rw [hg]
  have hc:=(R.bs[R.at_]).toNat_lt
  refine z1l (y:=((R.bs[R.at_]).toNat:Int)) ?_ (by rw [w64 (by omega) (by omega)])
  refine ⟨rfl,rfl,z2w (R:=⟨R.bs,R.at_+1,R.e⟩) ?_ (z1h ⟨R.bs,R.at_+1,R.e⟩ ⟨by show R.at_+1<=R.bs.length;omega,hb.2⟩ hs)⟩
  rw [z3k (R:=⟨R.bs,R.at_+1,R.e⟩) h]
  rfl
end
section
variable {w:World} {l r:List HP} {p:Nat} {s:Lf}
theorem zte {P:Program} {t tx ty el:TypeId} {bytes:Nat} {xs:List UInt8} {t0:ByteArray} {x:Sl} {k:Sl->Prog} {Q:Post} {S:World->Prop} (hs:Sat w l) [ht:SlT P t el 1 bytes] [hst:StT P tx] [hf:FocS l x el 1 (xs.flatMap zg) r]
  (h:∀ z w',Sat w' (slc el 1 z ((xs++bl t0).flatMap zg)::r)->(k z).wp P S w' Q) (hb:(xs.length+t0.size)*bytes<=140737488355328/\xs.length+t0.size<=9223372036854775807) (hS:∀ w',S w':=by exact λ_=>trivial) :
  (Prog.act (app t tx ty (.slice x.a x.len x.cap) (.string t0)) sL (u1 k)).wp P S w Q:=by
 have h1:x.len=xs.length:=(hs.focS x).rd.len (enc:=zg) (λ_=>rfl) (by decide)
 obtain ⟨i,z,hi,h2,rfl,hz,hzs⟩:=ht.parts
 have hsrc:Src P i.size tx (.string t0) t0.size (byteCells t0) w:=by rw [h2];exact Src.ofString w hst.ok t0
 have hs':=hs.focS x
 rw [<- h2] at hs'
 obtain ⟨z,w',hrun,hlen,hs',_⟩:=zkp (ty:=ty) ht.ok.1 hi hz hzs hs' hsrc (by rw [h1];exact hb.1) (by rw [h1];exact hb.2)
 refine ⟨(z,()),w',hrun,hS _,h z w' ?_⟩
 rw [h2] at hs'
 rw [List.flatMap_append,z9z (bl t0)]
 exact hs'
theorem zoa (t:ByteArray) (ht:t.size<=1000000000) (hs:Sat w l):Ret P F.a158 #[.string t] w λvs w'=>∃ z:Sl,vs=[z.v]/\Sat w' (slc T.a38 1 z ((uI (t.size:Nat)++bl t).flatMap zg)::l) :=
 zmy t <| by
  unfold zwn
  refine za (z5j ((t.size:Nat):Int) (by omega) hs) λ_ w' hs=>?_
  obtain ⟨x,rfl,hs⟩:=hs
  refine ze ?_
  have hl:=hs.slen x
  have hul:=z1c ((t.size:Nat):Int)
  refine zte (t0:=t) (xs:=uI (t.size:Nat)) hs (λz w' hs=>?_) (by omega)
  exact ⟨rfl,z,rfl,hs⟩
theorem zzj [hf:Fo l (rdS T.a40) p s r] (hs:Sat w l):Ret P F.a152 #[.pointer (some ⟨p,0,none⟩)] w λvs w'=>vs=[.bool (z2f s).1]/\Sat w' (rdS T.a40 p (z2f s).2::r) :=
 zm3 _ <| by
  unfold zwz
  obtain ⟨R,rfl,hs⟩:=z73 (hs.perm hf.perm)
  have hb:=z6h hs
  refine za (zcz (p:=p) hs) λ_ _ hs=>?_
  obtain ⟨rfl,hs⟩:=hs
  refine ze ?_
  refine zk (λh=>?_) λh=>?_
  ·have h:R.e≠0:=by simpa using h
   rw [z4h h]
   exact ⟨rfl,rfl,z2w (z4h h) hs⟩
  have h:R.e=0:=by simpa using h
  refine z0i hs λw' hs=>?_
  refine zy ?_
  refine za (zcx (p:=p) hs) λ_ _ hs=>?_
  obtain ⟨rfl,hs⟩:=hs
  refine ze ?_
  obtain ⟨x,-,hs⟩:=z2q hs
  have hl:=hs.slen x (xs:=R.bs) (enc:=zg)
  have hcap:x.len<=x.cap:=(hs.pick [1]).slc_cap
  refine z0p ?_
  refine zd hs ?_
  refine z0p ?_
  refine zd hs ?_
  by_cases h2:R.bs.length-R.at_=0
  ·refine z8y hs (xs:=R.bs) (enc:=zg) (0:Int) (λhg=>absurd hg (by rw [h2];simp)) ?_
   refine zm ?_
   refine z1b ?_ (by rw [h2];exact .inl rfl)
   refine zy ?_
   have hs:=z1h R hb hs
   refine za (z7a (p:=p) 6 hs) λ_ _ hs=>?_
   obtain ⟨rfl,hs⟩:=hs
   refine ze ?_
   rw [zoj hb.1 h h2]
   exact ⟨rfl,rfl,z2w (if_neg (by show ¬ (if R.e=0 then (6:Int) else R.e)=0;rw [if_pos h];decide)) hs⟩
  ·have hlt:R.at_<R.bs.length:=by omega
   refine z8y hs (xs:=R.bs) (enc:=zg) (((R.bs[R.at_]).toNat:Nat):Int) (λ_=>⟨R.at_,hlt,rfl,rfl⟩) ?_
   refine zm ?_
   rw [zky h hlt]
   have hc:=(R.bs[R.at_]).toNat_lt
   unfold z2f
   simp only
   refine zk (λh3=>?_) λh3=>?_
   ·rw [if_neg (by omega)]
    refine zy ?_
    have hs:=z1h R hb hs
    refine za (z7a (p:=p) 6 hs) λ_ _ hs=>?_
    obtain ⟨rfl,hs⟩:=hs
    refine ze ?_
    exact ⟨rfl,rfl,z2w (if_neg (by show ¬ (if R.e=0 then (6:Int) else R.e)=0;rw [if_pos h];decide)) hs⟩
   ·rw [if_pos (by omega)]
    refine zy ?_
    refine za (zgm (p:=p) 1 (x:=x) (bs:=R.bs) (at_:=R.at_) (e:=R.e) (by omega) hb.2 hcap hs) λ_ w' hs=>?_
    obtain ⟨rfl,hs⟩:=hs
    refine ze ?_
    refine z7c (hf:=zfk hcap (by omega)) hs (xs:=(R.bs.drop R.at_).take 1) (enc:=zg) 0 (by rw [List.length_take,List.length_drop];omega) ?_ rfl rfl
    have hg:((R.bs.drop R.at_).take 1)[0]'(by rw [List.length_take,List.length_drop];omega)=R.bs[R.at_]:=by simp
    rw [hg]
    refine wp_lt ?_
    have e:((((R.bs[R.at_]).toNat:Nat):Int) == 1)=decide ((R.bs[R.at_]).toNat=1):=by
     rw [Bool.eq_iff_iff];simp;omega
    rw [e]
    refine ⟨rfl,rfl,z2w (R:=⟨R.bs,R.at_+1,R.e⟩) ?_ (z1h ⟨R.bs,R.at_+1,R.e⟩ ⟨by show R.at_+1<=R.bs.length;omega,hb.2⟩ hs)⟩
    rw [z3k (R:=⟨R.bs,R.at_+1,R.e⟩) h]
    rfl
theorem zol (most:Nat) (hm:most<=1000000000) [hf:Fo l (rdS T.a40) p s r] (hs:Sat w l):Ret P F.a154 #[.pointer (some ⟨p,0,none⟩),.int .i64 (most:Nat)] w λvs w'=>vs=[.string (z0x most s).1]/\Sat w' (rdS T.a40 p (z0x most s).2::r) :=
 zme _ _ <| by
  unfold zw8
  obtain ⟨R,rfl,hs⟩:=z73 (hs.perm hf.perm)
  have hb:=z6h hs
  refine za (zcz (p:=p) hs) λ_ _ hs=>?_
  obtain ⟨rfl,hs⟩:=hs
  refine ze ?_
  refine zk (λh=>?_) λh=>?_
  ·have h:R.e≠0:=by simpa using h
   rw [z4h h]
   exact ⟨rfl,rfl,z2w (z4h h) hs⟩
  have h:R.e=0:=by simpa using h
  refine zy ?_
  obtain ⟨x,-,hs⟩:=z2q hs
  refine zd hs ?_
  refine wp_lt ?_
  refine zy ?_
  have hs:=z1h R hb hs
  refine za (zoe (p:=p) h hs) λ_ _ hs=>?_
  obtain ⟨rfl,hs⟩:=hs
  refine ze ?_
  refine wp_lt ?_
  refine zy ?_
  have hst:=zb1 (R:=R)
  have hbs:=znz R
  generalize hU:R.uint=U at *
  obtain ⟨v,R'⟩:=U
  have hs:Sat _ (rdP T.a40 p R'::r):=hs
  have hbs:R'.bs=R.bs:=hbs
  have hb':=z6h hs
  obtain ⟨y,-,hs⟩:=z2q hs
  have hl:=hs.slen y (xs:=R'.bs) (enc:=zg)
  have hcap:y.len<=y.cap:=(hs.pick [1]).slc_cap
  refine zd hs ?_
  refine wp_lt ?_
  have hend':∀ {w':World} {e:Int} {y:Sl},e≠0->Sat w' (pt p (.cells #[.slice y.a y.len y.cap,.int .i64 R'.at_,.int .i64 e] T.a40)::slc T.a38 1 y (R'.bs.flatMap zg)::r) ->
    (z0x most (stR R)).2=none->(z0x most (stR R)).1=⟨#[]⟩ ->
    (Prog.ex [.adr] (c1 λa27=>some ((⟨p,0,none⟩:Addr))=some a27) (u1 λa28=>.actU (st T.a10 (Addr.add (Addr.add a28 0) 1) (.int .i64 (R.at_:Int))) <| .done 0 [.string (ByteArray.mk #[])])).wp P (λ_=>True) w' λe vs w'=>e=0/\vs=[.string (z0x most (stR R)).1]/\Sat w' (rdS T.a40 p (z0x most (stR R)).2::r):=by
   intro w' e y he hs h1 h2
   refine zy ?_
   refine z0h hs λw' hs=>?_
   rw [h1,h2]
   refine ⟨rfl,rfl,z2w (R:=⟨R'.bs,R.at_,e⟩) (z4h he) (z1h ⟨R'.bs,R.at_,e⟩ ⟨by rw [hbs];exact hb.1,hb'.2⟩ hs)⟩
  refine z5h ?_
  refine zk (λhe=>?_) λhe=>?_
  ·have he:R'.e≠0:=by simpa using he
   refine z4m ?_
   have h1:(z08 (stR R)).2=none:=by rw [<- hst.2];exact z4h he
   refine hend' he hs (by unfold z0x;rw [h1]) (by unfold z0x;rw [h1])
  ·have he:R'.e=0:=by simpa using he
   have h1:(z08 (stR R)).2=some (z27 R'):=by rw [<- hst.2];exact z3k he
   have hv:=z63 h1
   have h0:(z08 (stR R)).1=v:=hst.1.symm
   have hlen:(z27 R').length=R'.bs.length-R'.at_:=zkl
   have ew:IntKind.wrap .u64 (if 0>((most:Nat):Int) then 0 else ((most:Nat):Int))=((most:Nat):Int):=by
    rw [if_neg (by omega),zc2 (by omega) (by omega)]
   rw [ew]
   refine wp_lt ?_
   refine z5h ?_
   refine zk (λh3=>?_) λh3=>?_
   ·refine zy ?_
    have hs:=z1h R' hb' hs
    refine za (z7a (p:=p) 7 hs) λ_ _ hs=>?_
    obtain ⟨rfl,hs⟩:=hs
    refine ze ?_
    refine z4m ?_
    refine z4m ?_
    obtain ⟨y2,-,hs⟩:=z2q hs
    refine hend' (e:=(R'.fail 7).e) ?_ hs ?_ ?_
    ·show (if R'.e=0 then (7:Int) else R'.e)≠0
     rw [if_pos he];decide
    ·unfold z0x;rw [h1];simp only;rw [h0,if_neg (by omega)]
    ·unfold z0x;rw [h1];simp only;rw [h0,if_neg (by omega)]
   ·refine zy ?_
    have hs:=z1h R' hb' hs
    refine za (zcx (p:=p) hs) λ_ _ hs=>?_
    obtain ⟨rfl,hs⟩:=hs
    refine ze ?_
    have eu:IntKind.wrap .u64 ((R'.bs.length-R'.at_:Nat):Int)=((R'.bs.length-R'.at_:Nat):Int):=zc2 (by omega) (by omega)
    rw [eu]
    refine wp_lt ?_
    refine zk (λh4=>?_) λh4=>?_
    ·refine zy ?_
     refine za (z7a (p:=p) 6 hs) λ_ _ hs=>?_
     obtain ⟨rfl,hs⟩:=hs
     refine ze ?_
     refine z4m ?_
     refine z4m ?_
     obtain ⟨y2,-,hs⟩:=z2q hs
     refine hend' (e:=(R'.fail 6).e) ?_ hs ?_ ?_
     ·show (if R'.e=0 then (6:Int) else R'.e)≠0
      rw [if_pos he];decide
     ·unfold z0x;rw [h1];simp only;rw [h0,if_neg (by omega)]
     ·unfold z0x;rw [h1];simp only;rw [h0,if_neg (by omega)]
    ·refine zy ?_
     rw [w64 (by omega) (by omega)]
     obtain ⟨y2,-,hs⟩:=z2q hs
     have hcap2:y2.len<=y2.cap:=(hs.pick [1]).slc_cap
     refine za (zgm (p:=p) v (x:=y2) (bs:=R'.bs) (at_:=R'.at_) (e:=R'.e) (by omega) hb'.2 hcap2 hs) λ_ w' hs=>?_
     obtain ⟨rfl,hs⟩:=hs
     refine ze ?_
     refine z93 (hf:=zfk hcap2 (by omega)) (bs:=(R'.bs.drop R'.at_).take v) hs ?_
     refine wp_lt ?_
     have e1:z0x most (stR R)=(⟨((z27 R').take v).toArray⟩,some ((z27 R').drop v)):=by
      unfold z0x;rw [h1];simp only;rw [h0,if_pos ⟨by omega,by omega⟩]
     rw [e1]
     refine zv (zv ⟨rfl,rfl,z2w (R:=⟨R'.bs,R'.at_+v,R'.e⟩) ?_ (z1h ⟨R'.bs,R'.at_+v,R'.e⟩ ⟨by show R'.at_+v<=R'.bs.length;omega,hb'.2⟩ hs)⟩)
     rw [z3k (R:=⟨R'.bs,R'.at_+v,R'.e⟩) he]
     unfold z27
     rw [List.drop_drop]
end
section
variable {w:World} {l r:List HP} {p:Nat} {s:Lf}
theorem z9f (most:Int) (hm:0<=most/\most<9223372036854775807) [hf:Fo l (rdS T.a40) p s r] (hs:Sat w l):Ret P F.a48 #[.pointer (some ⟨p,0,none⟩),.int .i64 most] w λvs w'=>vs=[.int .i64 (z0f most s).1]/\Sat w' (rdS T.a40 p (z0f most s).2::r) :=
 zq6 _ most <| by
  unfold z034 z0f
  refine za (zgx (p:=p) hs) λ_ _ hs=>?_
  obtain ⟨rfl,hs⟩:=hs
  refine ze ?_
  refine wp_lt ?_
  have e:IntKind.wrap .u64 most=most:=by rw [z4j];omega
  rw [e]
  refine zk (λh=>?_) λh=>?_
  ·refine z1l (y:=most+1) ?_ (by rw [w64 (by omega) (by omega)])
   rw [if_pos h]
   exact ⟨rfl,rfl,hs⟩
  ·refine z1l (y:=((z08 s).1:Int)) ?_ (by rw [w64 (by omega) (by omega)])
   rw [if_neg h]
   exact ⟨rfl,rfl,hs⟩
theorem zou (a b:ByteArray) (ha:a.size<=1000000000) (hs:Sat w l):Ret P F.a41 #[.string a,.string b] w λvs w'=>vs=[.int .i64 (z07 (bl a) (bl b):Nat)]/\Sat w' l :=
 zqj a b <| by
  unfold z00a
  refine z1l (y:=((min a.size b.size:Nat):Int)) ?_ (by split <;> omega)
  refine zx (λ_ w'=>(bl a).take (min a.size b.size)=(bl b).take (min a.size b.size)/\Sat w' l) ?_ ?_
  rotate_left
  ·rintro _ w' ⟨ht,hs⟩
   refine zt ?_
   refine wp_lt ?_
   refine ⟨rfl,?_,hs⟩
   rw [zd7 (i:=min a.size b.size) (by rw [z14];omega) (by rw [z14];omega) ht (by rw [z14,z14];omega)]
  refine z0e (λk v w=>∃ i:Nat,v=((i:Int),())/\i<=min a.size b.size/\min a.size b.size-i=k/\(bl a).take i=(bl b).take i/\Sat w l) (min a.size b.size) ⟨0,rfl,by omega,rfl,rfl,hs⟩ ?_
  clear hs
  rintro k _ w ⟨i,rfl,hi,hk,ht,hs⟩
  refine zt ?_
  refine zk (λhc=>?_) λhc=>?_
  rotate_left
  ·refine zv (zj ⟨?_,hs⟩)
   have:i=min a.size b.size:=by omega
   rwa [this] at ht
  have h1:i<(bl a).length:=by rw [z14];omega
  have h2:i<(bl b).length:=by rw [z14];omega
  refine wp_lt ?_
  refine z0i hs λw' hs=>?_
  refine wp_must (by omega) ?_
  refine wp_must (by omega) ?_
  refine zm ?_
  have hb:∀ (c:ByteArray) (h:i<(bl c).length),bt c (i:Int)=(((bl c)[i]).toNat:Int):=λc h=>by
   unfold bt
   rw [Int.toNat_natCast,List.getD_eq_getElem?_getD,List.getElem?_eq_getElem h];rfl
  rw [hb a h1,hb b h2]
  refine zk (λhd=>?_) λhd=>?_
  ·refine wp_lt ?_
   refine zv (zv ⟨rfl,?_,hs⟩)
   have hne:(bl a)[i]≠(bl b)[i]:=λe=>by rw [e] at hd;simp at hd
   rw [zd7 (i:=i) (by omega) (by omega) ht (.inr (.inr (by rw [List.getElem?_eq_getElem h1,List.getElem?_eq_getElem h2];simpa using hne)))]
  ·have he:(bl a)[i]=(bl b)[i]:=by
    apply UInt8.toNat_inj.1
    have:(((bl a)[i]).toNat:Int)=(((bl b)[i]).toNat:Int):=by simpa using hd
    omega
   refine z57 (us':=[.int .i64 ((i+1:Nat):Int)]) (by (try simp (disch:=omega) only [w64]);first|rfl|(congr;omega)) ?_
   refine z0q (min a.size b.size-(i+1)) ?_
   exact ⟨i+1,rfl,by omega,rfl,by rw [List.take_succ_eq_append_getElem h1,List.take_succ_eq_append_getElem h2,ht,he],hs⟩
end
theorem zqz {lo hi:Int} (h:lo<=0/\0<=hi) (s:Lf):lo<=(z1z lo hi s).1/\(z1z lo hi s).1<=hi:=by
 unfold z1z
 split
 ·exact h
 ·split
  ·exact h
  ·simp only;omega
theorem zes {most:Int} (h:0<=most) (s:Lf):0<=(z0f most s).1/\(z0f most s).1<=most+1:=by
 unfold z0f
 simp only
 split <;> omega
theorem zvu (most:Nat) (s:Lf):(z0x most s).1.size<=most:=by
 unfold z0x
 split
 ·show 0<=most;omega
 ·split
  ·rename_i h
   show (List.take _ _).length<=most
   rw [List.length_take];omega
  ·show 0<=most;omega
section
variable {w:World} {l r:List HP} {p:Nat} {s:Lf}
theorem zyc (time:Int) (ht:0<=time/\time<=1099511627776) (ahead:ByteArray) (ha:ahead.size<=100000) [hf:Fo l (rdS T.a40) p s r] (hs:Sat w l) :
  Ret P F.a46 #[.pointer (some ⟨p,0,none⟩),.int .i64 time,.string ahead] w λvs w'=>∃ x:RecM,vs=[.agg (z03 x).toArray,.bool (z3n time ahead s).1.isSome]/\(∀ y,(z3n time ahead s).1=some y->x=y)/\x.key.size<=2100/\Sat w' (rdS T.a40 p (z3n time ahead s).2::r) :=
 zpw _ _ _ <| by
  unfold z02r
  refine z05 hs λa0 w' hs=>?_
  have hbd:=zqz (lo := -1099511627776) (hi:=1099511627776) (by decide) s
  refine za (zsc (p:=p) (-1099511627776) 1099511627776 hs) λ_ _ hs=>?_
  obtain ⟨rfl,hs⟩:=hs
  refine ze ?_
  refine wp_lt ?_
  refine za (zzj (p:=p) hs) λ_ _ hs=>?_
  obtain ⟨rfl,hs⟩:=hs
  refine ze ?_
  refine z05 hs λa4 w' hs=>?_
  rw [w64 (by omega) (by omega)]
  refine z09 hs λw' hs=>?_
  refine za (z9f (p:=p) 1024 (by omega) hs) λ_ _ hs=>?_
  obtain ⟨rfl,hs⟩:=hs
  refine ze ?_
  refine wp_lt ?_
  refine za (zol (p:=p) 1024 (by omega) hs) λ_ _ hs=>?_
  obtain ⟨rfl,hs⟩:=hs
  refine ze ?_
  refine wp_lt ?_
  have hR:z3n time ahead s=if (z0f 1024 (z2f (z1z (-1099511627776) 1099511627776 s).2).2).1>ahead.size then (none,(z0x 1024 (z0f 1024 (z2f (z1z (-1099511627776) 1099511627776 s).2).2).2).2) else
   let a:=z1z (-1099511627776) 1099511627776 s
   let b:=z2f a.2
   let c:=z0f 1024 b.2
   let d:=z0x 1024 c.2
   let e:=if b.1 then (⟨#[]⟩,d.2) else z0x 1024 d.2
   if e.2.isSome=true/\(z07 (bl ahead) (bl (z43 ahead c.1 d.1)):Int)=c.1 then (some ⟨z43 ahead c.1 d.1,e.1,b.1,time+a.1⟩,e.2) else (none,e.2):=rfl
  simp only at hR
  have hcb:=zes (most:=1024) (by decide) (z2f (z1z (-1099511627776) 1099511627776 s).2).2
  have hdb:=zvu 1024 (z0f 1024 (z2f (z1z (-1099511627776) 1099511627776 s).2).2).2
  generalize z3n time ahead s=RR at *
  generalize z1z (-1099511627776) 1099511627776 s=a at *
  generalize z2f a.2=b at *
  generalize z0f 1024 b.2=c at *
  generalize z0x 1024 c.2=d at *
  refine zk (λh=>?_) λh=>?_
  ·rw [if_pos h] at hR
   subst hR
   refine z02 hs ?_
   refine z09 hs λw' hs=>?_
   refine z02 hs ?_
   exact ⟨rfl,⟨⟨#[]⟩,⟨#[]⟩,b.1,time+a.1⟩,rfl,(λy hy=>by cases hy),by show 0<=2100;omega,hs.sub⟩
  rw [if_neg h] at hR
  refine wp_must (by omega) ?_
  have hks:(ByteArray.extract ahead 0 (Int.toNat c.1)).size<=1025:=by
   rw [ByteArray.size_extract];omega
  refine wp_must (by omega) ?_
  refine z0h hs λw' hs=>?_
  have ek:ByteArray.extract ahead 0 (Int.toNat c.1)++d.1=z43 ahead c.1 d.1:=rfl
  rw [ek] at hs
  refine zd hs ?_
  have hkey:(z43 ahead c.1 d.1).size<=2100:=by
   unfold z43
   rw [ByteArray.size_append]
   omega
  refine zx (λ_ w'=>Sat w' (pt a4 (.cells #[.string (z43 ahead c.1 d.1),.string (if b.1=true then ((⟨#[]⟩:ByteArray),d.2) else z0x 1024 d.2).1,.bool b.1,.int .i64 (time+a.1)] T.a3)::rdS T.a40 p (if b.1=true then ((⟨#[]⟩:ByteArray),d.2) else z0x 1024 d.2).2::pt a0 (.cells #[.string ⟨#[]⟩,.string ⟨#[]⟩,.bool false,.int .i64 0] T.a3)::r)) ?_ ?_
  ·refine zk (λh2=>?_) λh2=>?_
   ·have h2:b.1=false:=by simpa using h2
    refine za (zol (p:=p) 1024 (by omega) hs) λ_ _ hs=>?_
    obtain ⟨rfl,hs⟩:=hs
    refine ze ?_
    refine z0h hs λw' hs=>?_
    refine zj ?_
    rw [if_neg (by rw [h2];simp)]
    exact hs.sub
   ·have h2:b.1=true:=by simpa using h2
    refine zj ?_
    rw [if_pos h2]
    dsimp only
    exact hs.sub
  rintro _ w1 hs
  generalize (if b.1=true then ((⟨#[]⟩:ByteArray),d.2) else z0x 1024 d.2)=e at *
  refine zx (λq w'=>q=(RR.1.isSome,())/\Sat w' (pt a0 (.cells #[.string (z43 ahead c.1 d.1),.string e.1,.bool b.1,.int .i64 (time+a.1)] T.a3)::rdS T.a40 p e.2::r)) ?_ ?_
  ·refine z0i hs λw' hs=>?_
   refine z011 hs ?_
   refine za (zt0 (p:=p) hs) λ_ _ hs=>?_
   obtain ⟨er,rfl,her,hs⟩:=hs
   refine ze ?_ (by first|trivial|(repeat (first|exact trivial|exact λ_=>z0w hs|exact λ_=>z15 hs|refine And.intro ?_ ?_)))
   refine zd hs ?_
   refine zk (λh2=>?_) λh2=>?_
   ·have h2:e.2.isSome=true:=her.1 (by simpa using h2)
    refine za (zou ahead (z43 ahead c.1 d.1) (by omega) hs) λ_ _ hs=>?_
    obtain ⟨rfl,hs⟩:=hs
    refine ze ?_ (by first|trivial|(repeat (first|exact trivial|exact λ_=>z0w hs|exact λ_=>z15 hs|refine And.intro ?_ ?_)))
    refine zm ?_
    refine z09 hs λw' hs=>?_
    refine wp_lt ?_
    refine zm ?_
    refine zj ⟨?_,hs.sub⟩
    have e3:(((z07 (bl ahead) (bl (z43 ahead c.1 d.1)):Nat):Int) == c.1)=RR.1.isSome:=by
     rw [hR]
     by_cases h3:((z07 (bl ahead) (bl (z43 ahead c.1 d.1)):Nat):Int)=c.1
     ·rw [if_pos ⟨h2,h3⟩];simpa using h3
     ·rw [if_neg λh=>h3 h.2];simpa using h3
    rw [e3]
   ·have h2:¬ e.2.isSome=true:=λh=>h2 (by simpa using her.2 h)
    refine zm ?_
    refine z09 hs λw' hs=>?_
    refine zm ?_
    refine zj ⟨?_,hs.sub⟩
    rw [hR,if_neg λh=>h2 h.1]
    rfl
  rintro _ w1 ⟨rfl,hs⟩
  refine z02 hs ?_
  refine ⟨rfl,⟨z43 ahead c.1 d.1,e.1,b.1,time+a.1⟩,rfl,λy hy=>?_,hkey,?_⟩
  ·rw [hR] at hy
   split at hy
   ·simpa using hy
   ·cases hy
  ·have e4:RR.2=e.2:=by rw [hR];split <;> rfl
   rw [e4]
   exact hs.sub
end
section
variable {P:Program} {w:World} {l r:List HP} {Q:Post} {S:World->Prop} {t:TypeId} {sz:Nat}
theorem zw5 {α β γ δ:Type} {f:α->β->γ->δ->Prog} (a:α) (b:β) (c:γ) (d:δ) (h:(f a b c d).wp P S w Q):(u4 f (a,b,c,d,())).wp P S w Q:=h
theorem zdp {α:Type} {enc:α->List Value} {n:Nat} {ps:Array (Nat × Value)} {el:TypeId} {bytes:Nat} {k:Sl->Prog} (hs:Sat w l) [ht:SlT P t el sz bytes] [hE:EncN enc sz] (xs:List α)
  (h:∀ x w',Sat w' (slc el sz x (xs.flatMap enc)::l)->(k x).wp P S w' Q) (hc:z4d P t n ps=some (el,(xs.flatMap enc).toArray):=by kernel_rfl) (hn:xs.length=n:=by rfl) (hS:∀ w',S w':=by exact λ_=>trivial) :
  (Prog.act (Instr.buildSlice t n ps) sL (u1 k)).wp P S w Q:=z90 hs xs hc (λb w' hs=>h _ w' hs) (by simp) hn hS
end
section
variable {P:Program} {w:World} {l r:List HP} {Q:Post} {S:World->Prop} {α β γ δ ε ζ η θ:Type}
theorem z37 {f:α->β->Prog} (a:α) (b:β) (h:(f a b).wp P S w Q):(u2 f (a,b,())).wp P S w Q:=h
theorem z03p {f:α->β->γ->δ->ε->Prog} (a:α) (b:β) (c:γ) (d:δ) (e:ε) (h:(f a b c d e).wp P S w Q):(u5 f (a,b,c,d,e,())).wp P S w Q:=h
theorem zbf {f:α->β->γ->δ->ε->ζ->η->Prog} (a:α) (b:β) (c:γ) (d:δ) (e:ε) (z:ζ) (y:η) (h:(f a b c d e z y).wp P S w Q):(u7 f (a,b,c,d,e,z,y,())).wp P S w Q:=h
theorem zbz {f:α->β->γ->δ->ε->ζ->η->θ->Prog} (a:α) (b:β) (c:γ) (d:δ) (e:ε) (z:ζ) (y:η) (x:θ) (h:(f a b c d e z y x).wp P S w Q):(u8 f (a,b,c,d,e,z,y,x,())).wp P S w Q:=h
theorem zts {f : FuncId} {cap : Array Value} {args : List Value} {s : Sh} {k : HL s.prims → Prog} {vs₀ : List Value} {R : World → Prop} (hok : (P.funcs[f]?).any (fun fn => fn.body.isSome && fn.name != "runtime.NumGoroutine") = true) (x : HL s.prims)
  (hc:Ret P f (args.toArray++cap) w λvs w'=>vs=vs₀/\R w') (hx:za8 vs₀=s.mk x) (h:∀ w',R w'->S w'/\(k x).wp P S w' Q):(Prog.callv (.func (.func f) #[] cap) args s k).wp P S w Q:=by
 refine ⟨f,#[],cap,rfl,hok,?_⟩
 have e:(#[]:Array Value)++args.toArray++cap=args.toArray++cap:=by simp
 rw [e]
 refine Calls.mono hc λe w' ⟨vs,he,hv,hR⟩=>?_
 exact ⟨x,by rw [he,hv,hx],h w' hR⟩
end
section
variable {P:Program} {w:World} {l r:List HP} {Q:Post} {S:World->Prop} {T:TypeId} {sz:Nat} {x:Sl}
theorem At.part {A:Addr} {vs:List Value} (h:At w A vs) (j q:Nat):At w (A.add j) ((vs.drop j).take q):=by
 obtain ⟨b,o,arr,T',fr,rfl,hb,hc⟩:=h
 refine ⟨b,o+j,arr,T',fr,z3m ..,hb,λi hi=>?_⟩
 rw [List.length_take,List.length_drop] at hi
 rw [List.getElem?_take,if_pos (by omega),List.getElem?_drop,Nat.add_assoc,hc (j+i) (by omega)]
end
def zs6:BatM:=⟨0,0,0,0,0,0,z7l,[]⟩
abbrev zeroC:Array Value:=#[.int .i64 0,.int .i64 0,.int .i64 0,.int .i64 0,.int .i64 0,.int .i64 0,.slice none 0 0]
theorem zsy {P:Program} {p:Prog} {S:World->Prop} {w:World} {Q0 Q:Post} (h:p.wp P S w Q0) (h0:∀ e vs w,Q0 e vs w->e=0) (hQ:∀ vs w,Q0 0 vs w->Q 0 vs w):p.wp P S w Q :=
 Prog.wp_mono p (λe vs w h=>by have:=h0 e vs w h;subst this;exact hQ vs w h) h
theorem zs9 (time:Int) (n:Nat) (ahead:ByteArray) (s:Lf):z54 time (n+1) ahead s=match (z3n time ahead s).1 with
  | none=>none
  | some x=>(z54 time n x.key (z3n time ahead s).2).map λq=>(x::q.1,q.2):=rfl
def BatM.at (b:BatM) (z:Sl):BatM:={ b with x:=z }
section
variable {w:World} {l r:List HP} {p:Nat} {s:Lf}
theorem zjb (x:Sl) (raw:List UInt8) [hx:FocR l x 1 (raw.flatMap zg)] (hn:raw.length<=1000000000) (hs:Sat w l) :
  Ret P F.a35 #[x.v] w λvs w'=>(∃ b z,z3r raw=some b/\vs=[.agg (zw (b.at z)).toArray,.int .i64 0]/\Sat w' (slc T.a3 4 z (b.rs.flatMap z03)::l)) \/
   (z3r raw=none/\vs=[.agg (zw zs6).toArray,.int .i64 6]/\Sat w' l) :=
 zpx _ <| by
  unfold z01d
  refine z05 hs λa0 w' hs=>?_
  refine z05 hs λa1 w' hs=>?_
  refine z09 hs λw' hs=>?_
  refine za (zse x raw hn hs) λ_ w' hs=>?_
  obtain ⟨p,rfl,hs⟩:=hs
  refine ze ?_
  refine za (zgp (p:=p) hs) λ_ _ hs=>?_
  obtain ⟨rfl,hs⟩:=hs
  refine ze ?_
  have hfail:∀ {w':World},Sat w' (pt a1 (.cells zeroC T.a1)::pt a0 (.cells zeroC T.a1)::l)->z3r raw=none ->
    (Prog.read True (ld T.a1 ⟨a1,0,none⟩) (sG [.int .i64,.int .i64,.int .i64,.int .i64,.int .i64,.int .i64,.slc]) (u7 λn4 n5 n6 n7 n8 n9 l10 =>
     .actU (st T.a1 ⟨a0,0,none⟩ (.agg #[.int .i64 n4,.int .i64 n5,.int .i64 n6,.int .i64 n7,.int .i64 n8,.int .i64 n9,l10.v])) <|
     .read True (ld T.a1 ⟨a0,0,none⟩) (sG [.int .i64,.int .i64,.int .i64,.int .i64,.int .i64,.int .i64,.slc]) (u7 λn11 n12 n13 n14 n15 n16 l17 =>
     .done 0 [.agg #[.int .i64 n11,.int .i64 n12,.int .i64 n13,.int .i64 n14,.int .i64 n15,.int .i64 n16,l17.v],.int .i64 6]))).wp P (λ_=>True) w' λe vs w=>e=0/\((∃ b z,z3r raw=some b/\vs=[.agg (zw (b.at z)).toArray,.int .i64 0]/\Sat w (slc T.a3 4 z (b.rs.flatMap z03)::l)) \/
      (z3r raw=none/\vs=[.agg (zw zs6).toArray,.int .i64 6]/\Sat w l)):=by
   intro w' hs hd
   have hs:Sat w' (pt a1 (.cells [.int .i64 0,.int .i64 0,.int .i64 0,.int .i64 0,.int .i64 0,.int .i64 0,.slice none 0 0].toArray T.a1)::pt a0 (.cells [.int .i64 0,.int .i64 0,.int .i64 0,.int .i64 0,.int .i64 0,.int .i64 0,.slice none 0 0].toArray T.a1)::l):=hs
   refine z02 hs ?_
   refine z09 hs λw' hs=>?_
   refine z02 hs ?_
   exact ⟨rfl,.inr ⟨hd,rfl,hs.sub⟩⟩
  replace hs:Sat _ (rdS T.a40 p (z0m (some raw)).2::pt a1 (.cells zeroC T.a1)::pt a0 (.cells zeroC T.a1)::l):=hs.sub
  refine zk (λh=>?_) λh=>?_
  ·refine hfail hs.sub ?_
   unfold z3r
   rw [if_pos (by omega)]
  have hdec:z3r raw=zjx (hdS (z0m (some raw)).2):=by
   unfold z3r
   rw [if_neg (by omega)]
  generalize z3r raw=DD at *
  generalize (z0m (some raw)).2=s at *
  have hH:hdS s=⟨z0m s,z0f 1099511627776 (z0m s).2,z0f 1048576 (z0f 1099511627776 (z0m s).2).2,
   if (z0f 1048576 (z0f 1099511627776 (z0m s).2).2).1>0 then z0f 32767 (z0f 1048576 (z0f 1099511627776 (z0m s).2).2).2 else (0,(z0f 1048576 (z0f 1099511627776 (z0m s).2).2).2),
   if (z0f 1048576 (z0f 1099511627776 (z0m s).2).2).1>0/\z1y (z0m s).1=false then z0f 2147483647 (if (z0f 1048576 (z0f 1099511627776 (z0m s).2).2).1>0 then z0f 32767 (z0f 1048576 (z0f 1099511627776 (z0m s).2).2).2 else (0,(z0f 1048576 (z0f 1099511627776 (z0m s).2).2).2)).2 else (0,(if (z0f 1048576 (z0f 1099511627776 (z0m s).2).2).1>0 then z0f 32767 (z0f 1048576 (z0f 1099511627776 (z0m s).2).2).2 else (0,(z0f 1048576 (z0f 1099511627776 (z0m s).2).2).2)).2),
   z0f 1099511627776 (if (z0f 1048576 (z0f 1099511627776 (z0m s).2).2).1>0/\z1y (z0m s).1=false then z0f 2147483647 (if (z0f 1048576 (z0f 1099511627776 (z0m s).2).2).1>0 then z0f 32767 (z0f 1048576 (z0f 1099511627776 (z0m s).2).2).2 else (0,(z0f 1048576 (z0f 1099511627776 (z0m s).2).2).2)).2 else (0,(if (z0f 1048576 (z0f 1099511627776 (z0m s).2).2).1>0 then z0f 32767 (z0f 1048576 (z0f 1099511627776 (z0m s).2).2).2 else (0,(z0f 1048576 (z0f 1099511627776 (z0m s).2).2).2)).2)).2⟩:=rfl
  refine za (zgp (p:=p) hs) λ_ _ hs=>?_
  obtain ⟨rfl,hs⟩:=hs
  refine ze ?_
  generalize z0m s=k at *
  refine za (z9f (p:=p) 1099511627776 (by omega) hs) λ_ _ hs=>?_
  obtain ⟨rfl,hs⟩:=hs
  refine ze ?_
  generalize z0f 1099511627776 k.2=ba at *
  refine za (z9f (p:=p) 1048576 (by omega) hs) λ_ _ hs=>?_
  obtain ⟨rfl,hs⟩:=hs
  refine ze ?_
  generalize z0f 1048576 ba.2=pi at *
  refine z05 hs λa2 w' hs=>?_
  refine z09 hs λw' hs=>?_
  refine zd hs ?_
  generalize hep:(if pi.1>0 then z0f 32767 pi.2 else (0,pi.2))=ep at *
  generalize hsq:(if pi.1>0/\z1y k.1=false then z0f 2147483647 ep.2 else (0,ep.2))=sq at *
  refine zx (λ_ w'=>Sat w' (pt a2 (.cells [.int .i64 ba.1,.int .i64 pi.1,.int .i64 ep.1,.int .i64 sq.1,.int .i64 k.1,.int .i64 0,.slice none 0 0].toArray T.a1)::rdS T.a40 p sq.2::pt a1 (.cells zeroC T.a1)::pt a0 (.cells zeroC T.a1)::l)) ?_ ?_
  ·refine zk (λh=>?_) λh=>?_
   ·rw [if_pos h] at hep
    refine za (z9f (p:=p) 32767 (by omega) hs) λ_ _ hs=>?_
    obtain ⟨rfl,hs⟩:=hs
    refine ze ?_
    rw [hep] at hs ⊢
    refine z0h hs λw' hs=>?_
    refine z02 hs ?_
    refine za (z7f ⟨ba.1,pi.1,ep.1,0,k.1,0,z7l,[]⟩ hs) λ_ w' hs=>?_
    obtain ⟨rfl,hs⟩:=hs
    refine ze ?_
    have em:z0y ⟨ba.1,pi.1,ep.1,0,k.1,0,z7l,[]⟩=z1y k.1:=rfl
    rw [em]
    refine z5h ?_
    refine zk (λh2=>?_) λh2=>?_
    ·have h2:z1y k.1=false:=by simpa using h2
     rw [if_pos ⟨h,h2⟩] at hsq
     refine za (z9f (p:=p) 2147483647 (by omega) hs) λ_ _ hs=>?_
     obtain ⟨rfl,hs⟩:=hs
     refine ze ?_
     rw [hsq] at hs ⊢
     refine z0h hs λw' hs=>?_
     refine z4m ?_
     refine zj ?_
     exact hs.sub
    ·have h2:z1y k.1≠false:=by simpa using h2
     rw [if_neg λh=>h2 h.2] at hsq
     refine z4m ?_
     refine zj ?_
     rw [<- hsq]
     exact hs.sub
   ·rw [if_neg h] at hep
    rw [if_neg λh2=>h h2.1] at hsq
    refine zj ?_
    rw [<- hsq,<- hep]
    exact hs.sub
  rintro _ w1 hs
  refine za (z9f (p:=p) 1099511627776 (by omega) hs) λ_ _ hs=>?_
  obtain ⟨rfl,hs⟩:=hs
  refine ze ?_
  have htb:=zes (most:=1099511627776) (by decide) sq.2
  generalize z0f 1099511627776 sq.2=tm at *
  refine z0h hs λw' hs=>?_
  refine za (zt0 (p:=p) hs) λ_ _ hs=>?_
  obtain ⟨er,rfl,her,hs⟩:=hs
  refine ze ?_
  refine zd hs ?_
  rw [hH] at hdec
  generalize hHH:(⟨k,ba,pi,ep,sq,tm⟩:HdS)=H at *
  have e1:H.tm=tm:=by rw [<- hHH]
  have e2:H.k=k:=by rw [<- hHH]
  unfold zjx at hdec
  rw [e1,e2] at hdec
  refine zk (λh=>?_) λh=>?_
  ·refine hfail hs.sub ?_
   rw [hdec,if_pos]
   rcases h with h|h
   ·left
    cases hi:tm.2.isSome with
    | false=>rfl
    | true=>exact absurd (her.2 hi) h
   ·right;omega
  have htm:tm.1<=1099511627776:=by
   apply Decidable.byContradiction
   intro hh
   exact h (.inr (by omega))
  have her0:tm.2.isSome=true:=her.1 (Decidable.byContradiction λhh=>h (.inl hh))
  rw [if_neg (by rw [her0];rintro (h|h);cases h;omega)] at hdec
  refine z02 hs ?_
  refine za (z7f ⟨ba.1,pi.1,ep.1,sq.1,k.1,tm.1,z7l,[]⟩ hs) λ_ w' hs=>?_
  obtain ⟨rfl,hs⟩:=hs
  refine ze ?_
  have em:z0y ⟨ba.1,pi.1,ep.1,sq.1,k.1,tm.1,z7l,[]⟩=z1y k.1:=rfl
  rw [em]
  refine zx (λ_ w'=>∃ (rs:List RecM) (z:Sl) (s1:Lf),DD=(if s1=some []/\z0c (H.b rs)=0 then some (H.b rs) else none)/\Sat w' (slc T.a3 4 z (rs.flatMap z03)::pt a2 (.cells [.int .i64 ba.1,.int .i64 pi.1,.int .i64 ep.1,.int .i64 sq.1,.int .i64 k.1,.int .i64 tm.1,.slice z.a z.len z.cap].toArray T.a1)::rdS T.a40 p s1::pt a1 (.cells zeroC T.a1)::pt a0 (.cells zeroC T.a1)::l)) ?_ ?_
  ·refine zk (λh2=>?_) λh2=>?_
   rotate_left
   ·have h2:z1y k.1=true:=by simpa using h2
    rw [if_pos h2] at hdec
    refine zj ⟨[],⟨none,0,0⟩,tm.2,hdec,?_⟩
    have hs:Sat _ (slc T.a3 4 ⟨none,0,0⟩ (([]:List RecM).flatMap z03)::_):=hs.slc_nil
    exact hs.sub
   have h2:z1y k.1=false:=by simpa using h2
   rw [if_neg (by rw [h2];simp)] at hdec
   refine za (z9f (p:=p) 64 (by omega) hs) λ_ _ hs=>?_
   obtain ⟨rfl,hs⟩:=hs
   refine ze ?_
   have hnb:=zes (most:=64) (by decide) tm.2
   generalize z0f 64 tm.2=n at *
   refine wp_lt ?_
   refine zk (λh3=>?_) λh3=>?_
   ·rw [if_pos h3] at hdec
    have hf:=hfail hs.sub hdec
    exact zsy hf (λ_ _ _ h=>h.1) λvs w h=>z7x (by decide) h
   rw [if_neg h3] at hdec
   refine zx (λ_ w'=>∃ (rs:List RecM) (z:Sl) (s1:Lf),z54 tm.1 n.1.toNat ⟨#[]⟩ n.2=some (rs,s1)/\Sat w' (slc T.a3 4 z (rs.flatMap z03)::pt a2 (.cells [.int .i64 ba.1,.int .i64 pi.1,.int .i64 ep.1,.int .i64 sq.1,.int .i64 k.1,.int .i64 tm.1,.slice z.a z.len z.cap].toArray T.a1)::rdS T.a40 p s1::pt a1 (.cells zeroC T.a1)::pt a0 (.cells zeroC T.a1)::l)) ?_ ?_
   rotate_left
   ·rintro _ w1 ⟨rs,z,s1,hrs,hs⟩
    rw [hrs] at hdec
    exact zj ⟨rs,z,s1,hdec,hs⟩
   refine z0e (λm v w=>∃ (i:Nat) (done:List RecM) (ahead:ByteArray) (z:Sl) (s1:Lf),v=(ahead,((i:Int),()))/\i<=n.1.toNat/\n.1.toNat-i=m/\done.length=i/\ahead.size<=2100 /\
    z54 tm.1 n.1.toNat ⟨#[]⟩ n.2=(z54 tm.1 (n.1.toNat-i) ahead s1).map (λq=>(done++q.1,q.2))/\Sat w (slc T.a3 4 z (done.flatMap z03)::pt a2 (.cells [.int .i64 ba.1,.int .i64 pi.1,.int .i64 ep.1,.int .i64 sq.1,.int .i64 k.1,.int .i64 tm.1,.slice z.a z.len z.cap].toArray T.a1)::rdS T.a40 p s1::pt a1 (.cells zeroC T.a1)::pt a0 (.cells zeroC T.a1)::l)) n.1.toNat
    ⟨0,[],⟨#[]⟩,⟨none,0,0⟩,n.2,rfl,by omega,rfl,rfl,(by show 0<=2100;omega),?_,(show Sat _ (slc T.a3 4 ⟨none,0,0⟩ (([]:List RecM).flatMap z03)::_) from hs.slc_nil).sub⟩ ?_
   ·cases z54 tm.1 n.1.toNat ⟨#[]⟩ n.2 <;> simp
   clear hs
   rintro m _ w ⟨i,done,ahead,z,s1,rfl,hi,hm,hdl,hah,hrec,hs⟩
   refine zk (λhc=>?_) λhc=>?_
   rotate_left
   ·refine zv (zj ⟨done,z,s1,?_,hs⟩)
    have hc:¬ ((i:Int)<n.1):=hc
    rw [hrec,show n.1.toNat-i=0 by omega]
    simp [z54]
   have hc:(i:Int)<n.1:=hc
   refine zd hs ?_
   refine za (zyc (p:=p) tm.1 ⟨htb.1,htm⟩ ahead (by omega) hs) λ_ w' hs=>?_
   obtain ⟨y,rfl,hy,hyk,hs⟩:=hs
   refine ⟨(y.key,y.value,y.gone,y.time,(z3n tm.1 ahead s1).1.isSome,()),rfl,trivial,z03p _ _ _ _ _ ?_⟩
   refine z05 hs λa3 w' hs=>?_
   refine z09 hs λw' hs=>?_
   refine wp_lt ?_
   have hsucc:n.1.toNat-i=(n.1.toNat-(i+1))+1:=by omega
   rw [hsucc] at hrec
   rw [zs9] at hrec
   refine zk (λh4=>?_) λh4=>?_
   ·have h4:(z3n tm.1 ahead s1).1=none:=by simpa using h4
    rw [h4] at hrec
    have hrec:z54 tm.1 n.1.toNat ⟨#[]⟩ n.2=none:=hrec
    rw [hrec] at hdec
    have hf:=hfail hs.sub hdec
    exact zsy hf (λ_ _ _ h=>h.1) λvs w h=>z7x (by decide) (z7x (by decide) (z7x (by decide) h))
   have h4:(z3n tm.1 ahead s1).1.isSome=true:=by
    cases hq:(z3n tm.1 ahead s1).1 with
    | none=>rw [hq] at h4;exact absurd (by simp) h4
    | some q=>rfl
   obtain ⟨y',hy'⟩:=Option.isSome_iff_exists.1 h4
   obtain rfl:=hy y' hy'
   rw [hy'] at hrec
   refine zd hs ?_
   refine z02 hs ?_
   refine z6s (xs:=done) (enc:=z03) (y:=y) hs (λz' w' hs=>?_) rfl (by omega)
   refine z0h hs λw' hs=>?_
   refine zd hs ?_
   refine wp_lt ?_
   have e5:IntKind.wrap .i64 ((i:Int)+1)=((i+1:Nat):Int):=by rw [w64 (by omega) (by omega)];omega
   rw [e5]
   refine z0q (n.1.toNat-(i+1)) ?_
   refine ⟨i+1,done++[y],y.key,z',(z3n tm.1 ahead s1).2,rfl,by omega,rfl,by simp [hdl],hyk,?_,hs.sub⟩
   rw [hrec,Option.map_map]
   congr 1
   funext q
   simp
  rintro _ w1 ⟨rs,z,s1,hDD,hs⟩
  have hb:H.b rs=⟨ba.1,pi.1,ep.1,sq.1,k.1,tm.1,z7l,rs⟩:=by rw [<- hHH];rfl
  have hv0:z0c (H.b rs)=z0c ⟨ba.1,pi.1,ep.1,sq.1,k.1,tm.1,z,rs⟩:=by rw [hb];rfl
  refine zx (λq w'=>q=(DD.isNone,())/\Sat w' (slc T.a3 4 z (rs.flatMap z03)::pt a2 (.cells [.int .i64 ba.1,.int .i64 pi.1,.int .i64 ep.1,.int .i64 sq.1,.int .i64 k.1,.int .i64 tm.1,.slice z.a z.len z.cap].toArray T.a1)::pt a1 (.cells zeroC T.a1)::pt a0 (.cells zeroC T.a1)::l)) ?_ ?_
  ·refine za (zsm (p:=p) hs) λ_ w' hs=>?_
   obtain ⟨e,rfl,he,hs⟩:=hs
   refine ze ?_
   refine z02 hs ?_
   refine zk (λh5=>?_) λh5=>?_
   ·refine zj ⟨?_,hs.sub⟩
    rw [hDD,if_neg λhh=>h5 (he.2 hh.1)]
    rfl
   ·have h5:s1=some []:=he.1 (Decidable.not_not.1 h5)
    refine za (zdq ⟨ba.1,pi.1,ep.1,sq.1,k.1,tm.1,z,rs⟩ hs) λ_ w' hs=>?_
    obtain ⟨rfl,hs⟩:=hs
    refine ze ?_
    refine zj ⟨?_,hs.sub⟩
    rw [hDD,<- hv0]
    by_cases h6:z0c (H.b rs)=0
    ·rw [if_pos ⟨h5,h6⟩,h6];rfl
    ·rw [if_neg λhh=>h6 hh.2]
     simpa using h6
  rintro _ w1 ⟨rfl,hs⟩
  refine zk (λh6=>?_) λh6=>?_
  ·exact hfail hs.sub (by simpa using h6)
  ·rw [hDD] at h6
   split at h6
   rotate_left
   ·exact absurd rfl h6
   rename_i h7
   rw [if_pos h7] at hDD
   refine z02 hs ?_
   have hs:Sat w1 (slc T.a3 4 z (rs.flatMap z03)::pt a2 (.cells [.int .i64 ba.1,.int .i64 pi.1,.int .i64 ep.1,.int .i64 sq.1,.int .i64 k.1,.int .i64 tm.1,.slice z.a z.len z.cap].toArray T.a1)::pt a1 (.cells zeroC T.a1)::pt a0 (.cells [.int .i64 0,.int .i64 0,.int .i64 0,.int .i64 0,.int .i64 0,.int .i64 0,.slice none 0 0].toArray T.a1)::l):=hs
   refine z09 hs λw' hs=>?_
   refine z02 hs ?_
   refine ⟨rfl,.inl ⟨H.b rs,z,hDD,?_,?_⟩⟩
   ·rw [hb];rfl
   ·rw [hb];exact hs.sub
end
def shB (base fin:Int):List UInt8:=83::(uI base++uI fin)
def shL (base fin:Int):List UInt8:=z21 (shB base fin)
def frL (b:BatM):List UInt8:=z21 (z1p b)
structure SegA where
 base:Int
 fin:Int
 bs:List BatM
def SegA.file (s:SegA):List UInt8:=shL s.base s.fin++s.bs.flatMap frL
def z0n (bs:List BatM):Int:=match bs.getLast? with
 | none=>0
 | some b=>b.base+z0d b
def SegA.reach (s:SegA):Int:=max (max s.base s.fin) (z0n s.bs)
def z5z (x:Int) (rs:List RecM):Int:=rs.foldl (λt r=>max t r.time) x
def z3i (b:BatM):Int:=if b.rs=[] then b.time else z5z (-1) b.rs
def z1t (x:Int) (bs:List BatM):Int:=bs.foldl (λt b=>max t (z3i b)) x
def z01 (l:List SegA):Int:=match l.getLast? with
 | none=>0
 | some s=>s.reach
def z2s (l:List SegA):Int:=match l with
 | []=>0
 | s::_=>s.base
def z25:Int->List BatM->Prop
 | _,[]=>True
 | n,b::bs=>z0c b=0/\b.p=b/\n<=b.base/\z25 (b.base+z0d b) bs
structure SegOk (s:SegA):Prop where
 base:0<=s.base/\s.base<=1099511627776
 fin:s.fin=0\/(s.base<s.fin/\s.fin<=1099511627776)
 bs:z25 s.base s.bs
def z0k:Int->List SegA->Prop
 | _,[]=>True
 | n,s::r=>n<=s.base/\SegOk s/\z0k (max s.reach (s.base+1)) r
def z3p (base:Int) (body:List UInt8):Option Int :=
 let a:=z0m (some body)
 let b:=z08 a.2
 let c:=z08 b.2
 if c.2=some []/\a.1=83/\(b.1:Int)=base/\base<=1099511627776/\c.1<=1099511627776/\(c.1=0\/base<c.1) then some c.1 else none
def z2h:Nat->Int->List UInt8->List BatM × Nat
 | 0,_,_=>([],0)
 | k+1,n,raw=>match z10 raw with
  | none=>([],0)
  | some (body,m)=>match z3r body with
   | none=>([],0)
   | some b=>if b.base<n then ([],0) else (b::(z2h k (b.base+z0d b) (raw.drop m)).1,m+(z2h k (b.base+z0d b) (raw.drop m)).2)
def z2m (base:Int) (raw:List UInt8):Option (SegA × Nat):=match z10 raw with
 | none=>none
 | some (body,m)=>match z3p base body with
  | none=>none
  | some fin=>some (⟨base,fin,(z2h raw.length base (raw.drop m)).1⟩,m+(z2h raw.length base (raw.drop m)).2)
theorem z71 {bs:List UInt8} (h:bs.length<=262144):(z21 bs).length=bs.length+8:=by
 unfold z21
 rw [if_neg (by omega),List.length_append,z3t]
 show (z2e _++_).length+4=_
 rw [List.length_append,z3t]
 omega
theorem zap (base fin:Int):3<=(shB base fin).length/\(shB base fin).length<=21:=by
 have h1:=z1c base
 have h2:=z1c fin
 unfold shB
 rw [List.length_cons,List.length_append]
 omega
theorem z7j (base fin:Int):11<=(shL base fin).length/\(shL base fin).length<=29:=by
 have h:=zap base fin
 unfold shL
 rw [z71 (by omega)]
 omega
theorem zvt {time:Int} {ahead:ByteArray} {r:RecM}:(z3l time ahead r).length<=31+r.key.size+10+r.value.size:=by
 unfold z3l z40
 have h1:=zcl (r.time-time)
 have h2:=z1c ((z07 (bl ahead) (bl r.key):Nat):Int)
 have h3:=z1c (((r.key.size-z07 (bl ahead) (bl r.key):Nat)):Int)
 have h4:=z1c (r.value.size:Int)
 have h5:=z14 r.key
 have h6:=z14 r.value
 simp only [List.length_append,List.length_cons,List.length_drop]
 split
 ·simp only [List.length_nil];omega
 ·simp only [List.length_append];omega
theorem zcf {time:Int} {n:Nat}:∀ {rs:List RecM} {ahead:ByteArray},(∀ r ∈ rs,r.key.size+r.value.size<=n)->(z1r time ahead rs).length<=rs.length*(41+n)
 | [],_,_=>by simp [z1r]
 | r::rs,ahead,h=>by
  have h1:=zvt (time:=time) (ahead:=ahead) (r:=r)
  have h2:=zcf (time:=time) (n:=n) (rs:=rs) (ahead:=r.key) λx hx=>h x (List.mem_cons_of_mem _ hx)
  have h3:=h r (List.mem_cons_self ..)
  unfold z1r
  rw [List.length_append,List.length_cons,Nat.add_mul]
  omega
theorem zhf {b:BatM} {n:Nat} (h:∀ r ∈ b.rs,r.key.size+r.value.size<=n):2<=(z1p b).length/\(z1p b).length<=62+b.rs.length*(41+n):=by
 have h1:=z1c b.base
 have h2:=z1c b.pid
 have h3:=z1c b.epoch
 have h4:=z1c b.seq
 have h5:=z1c b.time
 have h6:=z1c (b.rs.length:Nat)
 have h7:=zcf (time:=b.time) (ahead:=⟨#[]⟩) h
 unfold z1p
 simp only [List.length_cons,List.length_append]
 split <;> split <;> simp only [List.length_nil,List.length_append] <;> omega
theorem z4g {b:BatM} (hv:z0c b=0):2<=(z1p b).length/\(z1p b).length<=262144:=by
 obtain ⟨h64,hrs⟩:=z2p hv
 have h:=zhf (b:=b) (n:=2048) λr hr=>by
  obtain ⟨h1,h2,-⟩:=z3c (hrs r hr)
  omega
 have:b.rs.length*(41+2048)<=64*(41+2048):=Nat.mul_le_mul_right _ h64
 omega
theorem z3q {b:BatM} (hv:z0c b=0):10<=(frL b).length/\(frL b).length=(z1p b).length+8:=by
 have h:=z4g hv
 unfold frL
 rw [z71 h.2]
 omega
theorem zrr {base fin:Int} (hb:0<=base/\base<=1099511627776) (hf:fin=0\/(base<fin/\fin<=1099511627776)):z3p base (shB base fin)=some fin:=by
 unfold z3p shB
 have e1:z0m (some (83::(uI base++uI fin)))=(83,some (uI base++uI fin)):=rfl
 have e2:z08 (some (uI base++uI fin))=(base.toNat,some (uI fin)):=z5s (by omega) _
 have e3:z08 (some (uI fin))=(fin.toNat,some []):=by
  have:=z5s (v:=fin.toNat) (by omega) []
  rwa [List.append_nil] at this
 simp only [e1,e2,e3]
 rw [if_pos ⟨trivial,trivial,by omega,by omega,by omega,by omega⟩]
 congr 1
 omega
theorem zht {base fin:Int} {body:List UInt8} (h:z3p base body=some fin):(0<=base/\base<=1099511627776)/\(fin=0\/(base<fin/\fin<=1099511627776))/\body=shB base fin:=by
 unfold z3p at h
 simp only at h
 split at h
 rotate_left
 ·cases h
 rename_i hc
 obtain ⟨h1,h2,h3,h4,h5,h6⟩:=hc
 simp only [Option.some.injEq] at h
 have i1:=z63 h1
 have i2:=z63 i1.2
 have i3:=zcu i2.2
 refine ⟨by omega,by omega,?_⟩
 have e:=i3.2
 rw [h2] at e
 simp only [Option.some.injEq] at e
 rw [e]
 unfold shB uI
 have e1:base.toNat=(z08 (z0m (some body)).2).1:=by omega
 have e2:fin.toNat=(z08 (z08 (z0m (some body)).2).2).1:=by omega
 rw [e1,e2,List.append_nil]
 rfl
theorem z25.mono {m n:Int} {bs:List BatM} (h:z25 n bs) (hm:m<=n):z25 m bs:=by
 cases bs with
 | nil=>trivial
 | cons b bs=>exact ⟨h.1,h.2.1,by have:=h.2.2.1;omega,h.2.2.2⟩
theorem z25.valid:∀ {n:Int} {bs:List BatM},z25 n bs->∀ b ∈ bs,z0c b=0/\b.p=b
 | _,b::bs,h,x,hx=>by
  rcases List.mem_cons.1 hx with rfl|hx
  ·exact ⟨h.1,h.2.1⟩
  ·exact h.2.2.2.valid x hx
theorem zij:z10 []=none:=by
 rw [zi6,if_pos (by simp)]
theorem ze9 {bs r:List UInt8} (h:bs.length<=262144) {k:Nat} (hk:k<bs.length+8):z10 ((z21 bs++r).take k)=none:=by
 cases hf:z10 ((z21 bs++r).take k) with
 | none=>rfl
 | some q =>
  exfalso
  obtain ⟨body,n⟩:=q
  obtain ⟨h1,h2,h3,h4⟩:=z5n hf
  rw [List.length_take] at h2
  have e1:((z21 bs++r).take k).take n=(z21 bs++r).take n:=by rw [List.take_take,Nat.min_eq_left (by omega)]
  rw [e1] at h4
  have e2:=z6n h3 ((z21 bs++r).drop n)
  rw [<- h4,List.take_append_drop,z6n h] at e2
  simp only [Option.some.injEq,Prod.mk.injEq] at e2
  omega
theorem zfq:∀ {bs:List BatM} {n:Int} {k:Nat} {rest:List UInt8},z25 n bs->bs.length<=k->z10 rest=none->z2h k n (bs.flatMap frL++rest)=(bs,(bs.flatMap frL).length)
 | [],n,0,rest,_,_,_=>rfl
 | [],n,k+1,rest,_,_,hr=>by
  unfold z2h
  rw [List.flatMap_nil,List.nil_append,hr]
  rfl
 | b::bs,n,0,rest,_,hk,_=>by simp at hk
 | b::bs,n,k+1,rest,⟨hv,hp,hn,ho⟩,hk,hr=>by
  have hl:=z4g hv
  have hf:=z3q hv
  unfold z2h
  rw [List.flatMap_cons,List.append_assoc]
  have e:z10 (frL b++(bs.flatMap frL++rest))=some (z1p b,(z1p b).length+8):=z6n hl.2 _
  rw [e]
  simp only
  rw [zck hv]
  simp only
  rw [hp,if_neg (by omega),<- hf.2,List.drop_left,zfq ho (by simpa using hk) hr,List.length_append]
theorem zil:∀ {k:Nat} {n:Int} {raw:List UInt8},z25 n (z2h k n raw).1/\raw.take (z2h k n raw).2=(z2h k n raw).1.flatMap frL/\(z2h k n raw).2<=raw.length
 | 0,n,raw=>⟨trivial,by simp [z2h],Nat.zero_le _⟩
 | k+1,n,raw=>by
  unfold z2h
  cases hf:z10 raw with
  | none=>exact ⟨trivial,by simp,Nat.zero_le _⟩
  | some q =>
   obtain ⟨body,m⟩:=q
   simp only
   cases hd:z3r body with
   | none=>exact ⟨trivial,by simp,Nat.zero_le _⟩
   | some b =>
    simp only
    by_cases hb:b.base<n
    ·rw [if_pos hb];exact ⟨trivial,by simp,Nat.zero_le _⟩
    rw [if_neg hb]
    obtain ⟨i1,i2,i3⟩:=zil (k:=k) (n:=b.base+z0d b) (raw:=raw.drop m)
    obtain ⟨d1,d2,d3⟩:=zbn hd
    obtain ⟨f1,f2,f3,f4⟩:=z5n hf
    rw [List.length_drop] at i3
    refine ⟨⟨d1,d3,by omega,i1⟩,?_,by simp only;omega⟩
    simp only
    rw [List.take_add,f4,i2,List.flatMap_cons,<- d2]
    rfl
theorem z99:∀ {n:Int} {bs:List BatM},z25 n bs->bs.length*10<=(bs.flatMap frL).length
 | _,[],_=>by simp
 | _,b::bs,⟨h1,_,_,h⟩=>by
  have:=z99 h
  have:=z3q h1
  rw [List.flatMap_cons,List.length_append,List.length_cons]
  omega
theorem z2n (s:SegA):s.file.length=(shL s.base s.fin).length+(s.bs.flatMap frL).length:=by
 unfold SegA.file
 rw [List.length_append]
theorem zi7 {s:SegA} (h:SegOk s) {rest:List UInt8} (hr:z10 rest=none):z2m s.base (s.file++rest)=some (s,s.file.length):=by
 have hl:=zap s.base s.fin
 unfold z2m
 have e0:s.file++rest=z21 (shB s.base s.fin)++(s.bs.flatMap frL++rest):=by
  unfold SegA.file shL
  rw [List.append_assoc]
 have e:z10 (s.file++rest)=some (shB s.base s.fin,(shB s.base s.fin).length+8):=by
  rw [e0]
  exact z6n (by omega) _
 rw [e]
 simp only
 rw [zrr h.base h.fin]
 simp only
 have e2:(s.file++rest).drop ((shB s.base s.fin).length+8)=s.bs.flatMap frL++rest:=by
  rw [e0,<- z71 (show (shB s.base s.fin).length<=262144 by omega),List.drop_left]
 have e3:s.bs.length<=(s.file++rest).length:=by
  have:=z99 h.bs
  rw [List.length_append,z2n]
  omega
 rw [e2,zfq h.bs e3 hr,z2n]
 unfold shL
 rw [z71 (by omega)]
theorem zik {s:SegA} (h:SegOk s):z2m s.base s.file=some (s,s.file.length):=by
 have:=zi7 h zij
 rwa [List.append_nil] at this
theorem z7u {base:Int} {raw:List UInt8} {s:SegA} {m:Nat} (h:z2m base raw=some (s,m)):SegOk s/\s.base=base/\raw.take m=s.file/\m<=raw.length/\m=s.file.length:=by
 unfold z2m at h
 cases hf:z10 raw with
 | none=>rw [hf] at h;cases h
 | some q =>
  obtain ⟨body,k⟩:=q
  rw [hf] at h
  simp only at h
  cases hh:z3p base body with
  | none=>rw [hh] at h;cases h
  | some fin =>
   rw [hh] at h
   simp only [Option.some.injEq,Prod.mk.injEq] at h
   obtain ⟨rfl,rfl⟩:=h
   obtain ⟨h1,h2,h3⟩:=zht hh
   obtain ⟨i1,i2,i3⟩:=zil (k:=raw.length) (n:=base) (raw:=raw.drop k)
   obtain ⟨f1,f2,f3,f4⟩:=z5n hf
   rw [List.length_drop] at i3
   have e:raw.take (k+(z2h raw.length base (raw.drop k)).2)=SegA.file ⟨base,fin,(z2h raw.length base (raw.drop k)).1⟩:=by
    rw [List.take_add,f4,i2,h3]
    rfl
   refine ⟨⟨h1,h2,i1⟩,rfl,e,by omega,?_⟩
   rw [<- e,List.length_take]
   omega
theorem z25.take:∀ {n:Int} {bs:List BatM} (k:Nat),z25 n bs->z25 n (bs.take k)
 | _,[],k,_=>by simp [z25]
 | _,b::bs,0,_=>trivial
 | _,b::bs,k+1,⟨h1,h2,h3,h4⟩=>⟨h1,h2,h3,h4.take k⟩
theorem zkq:∀ {n:Int} {bs:List BatM} (k:Nat),z25 n bs->∃ j rest,j<=bs.length/\(bs.flatMap frL).take k=(bs.take j).flatMap frL++rest/\z10 rest=none/\∀ m,m<=bs.length->((bs.take m).flatMap frL).length<=k->m<=j
 | _,[],k,_=>⟨0,[],by simp,by simp,zij,λm hm _=>hm⟩
 | n,b::bs,k,⟨h1,h2,h3,h4⟩=>by
  have hl:=z4g h1
  have hf:=z3q h1
  by_cases hk:k<(frL b).length
  ·refine ⟨0,(frL b++bs.flatMap frL).take k,by omega,by simp,ze9 hl.2 (by omega),λm hm h=>?_⟩
   cases m with
   | zero=>omega
   | succ m =>
    rw [List.take_succ_cons,List.flatMap_cons,List.length_append] at h
    omega
  ·obtain ⟨j,rest,i1,i2,i3,i4⟩:=zkq (k-(frL b).length) h4
   refine ⟨j+1,rest,by simp;omega,?_,i3,λm hm h=>?_⟩
   ·rw [List.flatMap_cons,List.take_append,List.take_of_length_le (by omega),i2,List.take_succ_cons,List.flatMap_cons,List.append_assoc]
   ·cases m with
    | zero=>omega
    | succ m =>
     rw [List.take_succ_cons,List.flatMap_cons,List.length_append] at h
     have:=i4 m (by simpa using hm) (by omega)
     omega
def SegA.cut (s:SegA) (j:Nat):SegA:=⟨s.base,s.fin,s.bs.take j⟩
theorem SegOk.cut {s:SegA} (h:SegOk s) (j:Nat):SegOk (s.cut j):=⟨h.base,h.fin,h.bs.take j⟩
theorem zux {s:SegA} (h:SegOk s) (k:Nat):(k<(shL s.base s.fin).length/\z2m s.base (s.file.take k)=none) \/
  ∃ j,j<=s.bs.length/\(s.cut j).file.length<=k/\z2m s.base (s.file.take k)=some (s.cut j,(s.cut j).file.length)/\∀ m,m<=s.bs.length->(s.cut m).file.length<=k->m<=j:=by
 have hl:=zap s.base s.fin
 have hsl:(shL s.base s.fin).length=(shB s.base s.fin).length+8:=z71 (by omega)
 by_cases hk:k<(shL s.base s.fin).length
 ·left
  refine ⟨hk,?_⟩
  unfold z2m
  have e:z10 (s.file.take k)=none:=ze9 (by omega) (by omega)
  rw [e]
 ·right
  obtain ⟨j,rest,i1,i2,i3,i4⟩:=zkq (k-(shL s.base s.fin).length) h.bs
  have e:s.file.take k=(s.cut j).file++rest:=by
   unfold SegA.file SegA.cut
   rw [List.take_append,List.take_of_length_le (by omega),i2,List.append_assoc]
  refine ⟨j,i1,?_,by rw [e];exact zi7 (h.cut j) i3,λm hm h2=>i4 m hm ?_⟩
  ·have:=congrArg List.length e
   rw [List.length_take,List.length_append] at this
   omega
  ·rw [z2n] at h2
   have:(s.cut m).bs=s.bs.take m:=rfl
   rw [this] at h2
   have:(shL (s.cut m).base (s.cut m).fin).length=(shL s.base s.fin).length:=rfl
   omega
theorem z20 {α:Type} (l:List α) (x:α):(l++[x]).getLast? = some x:=by simp
theorem z42 (bs:List BatM) (b:BatM):z0n (bs++[b])=b.base+z0d b:=by
 unfold z0n
 rw [z20]
theorem zga (x:Int) (bs:List BatM) (b:BatM):z1t x (bs++[b])=max (z1t x bs) (z3i b):=by
 unfold z1t
 rw [List.foldl_append]
 rfl
theorem z25.next:∀ {n:Int} {bs:List BatM},0<=n->z25 n bs->(bs≠[]->n<z0n bs)/\(bs=[]->z0n bs=0)/\z0n bs<=1099511627777
 | _,[],_,_=>⟨λh=>absurd rfl h,λ_=>rfl,by decide⟩
 | n,b::bs,hn,⟨h1,h2,h3,h4⟩=>by
  obtain ⟨s1,-,⟨-,hba,-⟩,-,s2⟩:=z1e b h1
  obtain ⟨i1,i2,i3⟩:=h4.next (by omega)
  by_cases hb:bs=[]
  ·subst hb
   have e:z0n [b]=b.base+z0d b:=z42 [] b
   rw [e]
   exact ⟨λ_=>by omega,(λh=>by cases h),by omega⟩
  ·have e:z0n (b::bs)=z0n bs:=by
    unfold z0n
    cases bs with
    | nil=>exact absurd rfl hb
    | cons c cs=>rfl
   rw [e]
   have:=i1 hb
   exact ⟨λ_=>by omega,(λh=>by cases h),i3⟩
theorem z25.snoc:∀ {n:Int} {bs:List BatM} {b:BatM},0<=n->z25 n bs->z0c b=0->b.p=b->n<=b.base->z0n bs<=b.base->z25 n (bs++[b])
 | n,[],b,_,_,hv,hp,hn,_=>⟨hv,hp,hn,trivial⟩
 | n,a::bs,b,h0,⟨h1,h2,h3,h4⟩,hv,hp,hn,hx=>by
  obtain ⟨s1,-,⟨-,hba,-⟩,-,s2⟩:=z1e a h1
  refine ⟨h1,h2,h3,?_⟩
  have i:=h4.next (by omega)
  by_cases hb:bs=[]
  ·subst hb
   have e:z0n [a]=a.base+z0d a:=z42 [] a
   exact z25.snoc (by omega) h4 hv hp (by omega) (by rw [i.2.1 rfl];omega)
  ·have e:z0n (a::bs)=z0n bs:=by
    unfold z0n
    cases bs with
    | nil=>exact absurd rfl hb
    | cons c cs=>rfl
   rw [e] at hx
   have:=i.1 hb
   exact z25.snoc (by omega) h4 hv hp (by omega) hx
theorem z59 {s:SegA} (h:SegOk s):s.base<=s.reach/\s.fin<=s.reach/\z0n s.bs<=s.reach/\s.reach<=1099511627777/\(s.bs≠[]->s.base<z0n s.bs):=by
 obtain ⟨i1,i2,i3⟩:=h.bs.next h.base.1
 have h1:=h.base
 have h2:=h.fin
 unfold SegA.reach
 refine ⟨by omega,by omega,by omega,by omega,i1⟩
section
variable {w:World} {l r:List HP} {Q:Post} {S:World->Prop}
theorem z8v {P:Program} {t:TypeId} {sz:Nat} {α:Type} {enc:α->List Value} {n:Nat} {ps:Array (Nat × Value)} {el:TypeId} {bytes:Nat} {k:Sl->Prog} (hs:Sat w l) [ht:SlT P t el sz bytes] [hE:EncN enc sz] (xs:List α)
  (h:∀ x w',Sat w' (slc el sz x (xs.flatMap enc)::l)->S w'/\(k x).wp P S w' Q) (hc:z4d P t n ps=some (el,(xs.flatMap enc).toArray):=by kernel_rfl) (hn:xs.length=n:=by rfl) :
  (Prog.act (Instr.buildSlice t n ps) sL (u1 k)).wp P S w Q:=by
 have hp:=hs.push (o:=.cells (xs.flatMap enc).toArray el) (w':={ w with heap:=w.heap.push (.cells (xs.flatMap enc).toArray el) }) rfl
 have hsz:(xs.flatMap enc).toArray.size=n*sz:=by rw [List.size_toArray,z3s,hn]
 have h1:Sat { w with heap:=w.heap.push (.cells (xs.flatMap enc).toArray el) } (slc el sz ⟨some ⟨w.heap.size,0,none⟩,n,n⟩ (xs.flatMap enc)::l):=by
  have:=hp.slc_of (sz:=sz) hsz
  rwa [List.toList_toArray] at this
 have h2:=h ⟨some ⟨w.heap.size,0,none⟩,n,n⟩ _ h1
 exact ⟨(⟨some ⟨w.heap.size,0,none⟩,n,n⟩,()),_,zge hc,h2.1,h2.2⟩
theorem zoh {P:Program} {α:Type} {enc:α->List Value} {xs ys:List α} {t tx ty el el':TypeId} {sz bytes sz' bytes':Nat} {x y:Sl} {k:Sl->Prog} (hs:Sat w l) [ht:SlT P t el sz bytes] [htx:SlT P tx el' sz' bytes'] [hf:FocS l x el sz (xs.flatMap enc) r] [hy:FocR l y sz (ys.flatMap enc)] [hE:EncN enc sz]
  (h:∀ z w',Sat w' (slc el sz z ((xs++ys).flatMap enc)::r)->S w'/\(k z).wp P S w' Q) (hb:(xs.length+ys.length)*bytes<=140737488355328/\xs.length+ys.length<=9223372036854775807:=by omega) :
  (Prog.act (app t tx ty (.slice x.a x.len x.cap) (.slice y.a y.len y.cap)) sL (u1 k)).wp P S w Q:=by
 have h1:x.len=xs.length:=(hs.focS x).rd.len hE.len hE.pos
 have h2:=hs.slen y (xs:=ys) (enc:=enc)
 refine zp7 hs (hy.rd w hs) (λu hu=>?_) (by rw [h1,h2];exact hb.1) (by rw [h1,h2];exact hb.2) λz w' _ hs'=>h z w' ?_
 ·obtain ⟨a,-,hu⟩:=List.mem_flatMap.1 hu
  exact hE.one a u hu
 ·rw [List.flatMap_append];exact hs'
end
abbrev cB (b:BatM):Array Value:=#[.int .i64 b.base,.int .i64 b.pid,.int .i64 b.epoch,.int .i64 b.seq,.int .i64 b.kind,.int .i64 b.time,.slice b.x.a b.x.len b.x.cap]
abbrev cR (r:RecM):Array Value:=#[.string r.key,.string r.value,.bool r.gone,.int .i64 r.time]
theorem zbo (time:Int):∀ (rs:List RecM) (ahead:ByteArray) (r:RecM),z1r time ahead (rs++[r])=z1r time ahead rs++z3l time (match rs.getLast? with|none=>ahead|some x=>x.key) r
 | [],ahead,r=>by simp [z1r]
 | a::rs,ahead,r=>by
  show z3l time ahead a++z1r time a.key (rs++[r])=z3l time ahead a++z1r time a.key rs++_
  rw [zbo time rs a.key r,List.append_assoc]
  congr 3
  cases rs with
  | nil=>rfl
  | cons b bs=>rfl
theorem znv {b:BatM} (hv:z0c b=0) (i:Nat):(z1r b.time ⟨#[]⟩ (b.rs.take i)).length<=133696:=by
 obtain ⟨h64,hrs⟩:=z2p hv
 have h1:=zcf (time:=b.time) (n:=2048) (rs:=b.rs.take i) (ahead:=⟨#[]⟩) λr hr=>by
  obtain ⟨h1,h2,-⟩:=z3c (hrs r (List.mem_of_mem_take hr))
  omega
 have h2:(b.rs.take i).length<=64:=by rw [List.length_take];omega
 have:(b.rs.take i).length*(41+2048)<=64*(41+2048):=Nat.mul_le_mul_right _ h2
 omega
def hdL (b:BatM):List UInt8:=1::UInt8.ofNat b.kind.toNat::(uI b.base++uI b.pid)
def z4u (b:BatM):List UInt8:=if b.pid>0 then uI b.epoch++(if z0y b then [] else uI b.seq) else []
theorem zdo (b:BatM):z1p b=(hdL b++z4u b++uI b.time)++if z0y b then [] else uI b.rs.length++z1r b.time ⟨#[]⟩ b.rs:=by
 unfold z1p hdL z4u
 simp only [List.cons_append,List.append_assoc]
section
variable {w:World} {l r:List HP}
set_option maxHeartbeats 1000000 in
theorem zv7 (b:BatM) [hb:FocR l b.x 4 (b.rs.flatMap z03)] (hs:Sat w l) :
  Ret P F.a36 #[.agg (zw b).toArray] w λvs w'=>(z0c b≠0/\vs=[.slice none 0 0,.int .i64 (z0c b)]/\Sat w' l)\/(z0c b=0/\∃ z:Sl,vs=[z.v,.int .i64 0]/\Sat w' (slc T.a38 1 z ((z1p b).flatMap zg)::l)) :=
 zq7 b.base b.pid b.epoch b.seq b.kind b.time b.x <| by
  unfold z01n
  have hlx:=hs.slen b.x (xs:=b.rs) (enc:=z03)
  refine z0b hs λa0 w' hs=>?_
  refine z02 hs ?_
  refine za (zdq b hs) λ_ w' hs=>?_
  obtain ⟨rfl,hs⟩:=hs
  refine ze ?_
  refine wp_lt ?_
  refine zk (λh=>?_) λh=>?_
  ·refine wp_lt ?_
   exact ⟨rfl,.inl ⟨h,rfl,hs.tail⟩⟩
  have hv:z0c b=0:=Decidable.not_not.1 h
  obtain ⟨-,-,⟨hk,hba,hpi,hep,hsq,htm⟩,hfit,-⟩:=z1e b hv
  obtain ⟨h64,hrs⟩:=z2p hv
  refine zx (λq w'=>∃ z:Sl,q=(z,())/\Sat w' (slc T.a38 1 z ((hdL b).flatMap zg)::pt a0 (.cells (cB b) T.a1)::l)) ?_ ?_
  ·have ek:IntKind.wrap .u8 b.kind=(((UInt8.ofNat b.kind.toNat).toNat:Nat):Int):=by
    rw [wu8 (by omega) (by omega),UInt8.toNat_ofNat'];omega
   have hul1:=z1c b.base
   have hul2:=z1c b.pid
   refine z0i hs λw' hs=>?_
   refine z2c hs ?_
   refine z2c hs ?_
   refine z2c hs ?_
   have fin:∀ {w':World} {z1 z2 z3:Sl},Sat w' (slc T.a38 1 z1 (([1,UInt8.ofNat b.kind.toNat]:List UInt8).flatMap zg)::slc T.a38 1 z2 ((uI b.base).flatMap zg)::slc T.a38 1 z3 ((uI b.pid).flatMap zg)::pt a0 (.cells (cB b) T.a1)::l) ->
     (Prog.act (Instr.buildSlice T.a23 3 #[(0,z1.v),(1,z2.v),(2,z3.v)]) sL (u1 λl17=>.call F.a147 [l17.v] sL (u1 λl18=>.untick <| .done 1 [l18.v]))).wp P (λ_=>True) w' (Post.catch (λe vs w'=>e=0/\((z0c b≠0/\vs=[.slice none 0 0,.int .i64 (z0c b)]/\Sat w' l)\/(z0c b=0/\∃ z:Sl,vs=[z.v,.int .i64 0]/\Sat w' (slc T.a38 1 z ((z1p b).flatMap zg)::l)))) 1 λvs w'=>∃ x,vs=z2y [.one .slc] x/\∃ z:Sl,x=(z,())/\Sat w' (slc T.a38 1 z ((hdL b).flatMap zg)::pt a0 (.cells (cB b) T.a1)::l)):=by
    intro w' z1 z2 z3 hs
    refine z8x hs (enc:=z0r) [z1,z2,z3] λz4 w' hs=>?_
    refine za (zvk z4 z1 z2 z3 [1,UInt8.ofNat b.kind.toNat] (uI b.base) (uI b.pid) (by simp only [List.length_cons,List.length_nil];omega) hs) λ_ w' hs=>?_
    obtain ⟨z5,rfl,hs⟩:=hs
    refine ze ?_
    refine zm ?_
    refine zj ⟨z5,rfl,?_⟩
    have e:[1,UInt8.ofNat b.kind.toNat]++(uI b.base++uI b.pid)=hdL b:=by unfold hdL;simp
    rw [e] at hs
    exact hs.sub
   rw [ek]
   refine zh7 ?_ ?_
   ·refine z8v hs (enc:=zg) [1,UInt8.ofNat b.kind.toNat] λz1 w' hs=>⟨(by first|trivial|(repeat (first|exact trivial|exact λ_=>z0w hs|exact λ_=>z15 hs|refine And.intro ?_ ?_))),?_⟩
    refine za (z5j b.base (by omega) hs) λ_ w' hs=>?_
    obtain ⟨z2,rfl,hs⟩:=hs
    refine ze ?_ (by first|trivial|(repeat (first|exact trivial|exact λ_=>z0w hs|exact λ_=>z15 hs|refine And.intro ?_ ?_)))
    refine za (z5j b.pid (by omega) hs) λ_ w' hs=>?_
    obtain ⟨z3,rfl,hs⟩:=hs
    refine ze ?_ (by first|trivial|(repeat (first|exact trivial|exact λ_=>z0w hs|exact λ_=>z15 hs|refine And.intro ?_ ?_)))
    refine zm ?_
    exact fin hs.sub
   ·refine za (z5j b.base (by omega) hs) λ_ w' hs=>?_
    obtain ⟨z2,rfl,hs⟩:=hs
    refine ze ?_ (by first|trivial|(repeat (first|exact trivial|exact λ_=>z0w hs|exact λ_=>z15 hs|refine And.intro ?_ ?_)))
    refine zh7 ?_ ?_
    ·refine z8v hs (enc:=zg) [1,UInt8.ofNat b.kind.toNat] λz1 w' hs=>⟨(by first|trivial|(repeat (first|exact trivial|exact λ_=>z0w hs|exact λ_=>z15 hs|refine And.intro ?_ ?_))),?_⟩
     refine za (z5j b.pid (by omega) hs) λ_ w' hs=>?_
     obtain ⟨z3,rfl,hs⟩:=hs
     refine ze ?_ (by first|trivial|(repeat (first|exact trivial|exact λ_=>z0w hs|exact λ_=>z15 hs|refine And.intro ?_ ?_)))
     refine zm ?_
     exact fin hs.sub
    ·refine za (z5j b.pid (by omega) hs) λ_ w' hs=>?_
     obtain ⟨z3,rfl,hs⟩:=hs
     refine ze ?_ (by first|trivial|(repeat (first|exact trivial|exact λ_=>z0w hs|exact λ_=>z15 hs|refine And.intro ?_ ?_)))
     refine z8v hs (enc:=zg) [1,UInt8.ofNat b.kind.toNat] λz1 w' hs=>⟨(by first|trivial|(repeat (first|exact trivial|exact λ_=>z0w hs|exact λ_=>z15 hs|refine And.intro ?_ ?_))),?_⟩
     refine zm ?_
     exact fin hs.sub
  rintro _ w1 ⟨z,rfl,hs⟩
  have hdl:(hdL b).length<=22:=by
   have hul1:=z1c b.base
   have hul2:=z1c b.pid
   unfold hdL
   simp only [List.length_cons,List.length_append]
   omega
  refine zd hs ?_
  refine zx (λq w'=>∃ z:Sl,q=(z,())/\Sat w' (slc T.a38 1 z ((hdL b++z4u b).flatMap zg)::pt a0 (.cells (cB b) T.a1)::l)) ?_ ?_
  ·refine zk (λh2=>?_) λh2=>?_
   rotate_left
   ·refine zj ⟨z,rfl,?_⟩
    have e:z4u b=[]:=by unfold z4u;rw [if_neg h2]
    rw [e,List.append_nil]
    exact hs
   have hul:=z1c b.epoch
   refine zd hs ?_
   refine za (z5j b.epoch (by omega) hs) λ_ w' hs=>?_
   obtain ⟨z2,rfl,hs⟩:=hs
   refine ze ?_
   refine wp_app' (xs:=hdL b) (ys:=uI b.epoch) (enc:=zg) hs λz3 w' hs=>?_
   refine z02 hs ?_
   refine za (z7f b hs) λ_ w' hs=>?_
   obtain ⟨rfl,hs⟩:=hs
   refine ze ?_
   refine z5h ?_
   refine zk (λh3=>?_) λh3=>?_
   ·have h3:z0y b=false:=by simpa using h3
    have hul2:=z1c b.seq
    refine zd hs ?_
    refine za (z5j b.seq (by omega) hs) λ_ w' hs=>?_
    obtain ⟨z4,rfl,hs⟩:=hs
    refine ze ?_
    refine wp_app' (xs:=hdL b++uI b.epoch) (ys:=uI b.seq) (enc:=zg) hs (λz5 w' hs=>?_) (by rw [List.length_append];omega)
    refine z4m ?_
    refine zj ⟨z5,rfl,?_⟩
    have e:z4u b=uI b.epoch++uI b.seq:=by unfold z4u;rw [if_pos h2,h3];rfl
    rw [e,<- List.append_assoc]
    exact hs.sub
   ·have h3:z0y b=true:=by simpa using h3
    refine z4m ?_
    refine zj ⟨z3,rfl,?_⟩
    have e:z4u b=uI b.epoch:=by unfold z4u;rw [if_pos h2,h3,if_pos rfl,List.append_nil]
    rw [e]
    exact hs.sub
  rintro _ w2 ⟨z2,rfl,hs⟩
  have hml:(z4u b).length<=20:=by
   have hul1:=z1c b.epoch
   have hul2:=z1c b.seq
   unfold z4u
   split
   ·split
    ·simp only [List.length_append,List.length_nil];omega
    ·simp only [List.length_append];omega
   ·simp
  have htl:=z1c b.time
  refine zd hs ?_
  refine za (z5j b.time (by omega) hs) λ_ w' hs=>?_
  obtain ⟨z3,rfl,hs⟩:=hs
  refine ze ?_
  refine wp_app' (xs:=hdL b++z4u b) (ys:=uI b.time) (enc:=zg) hs (λz4 w' hs=>?_) (by rw [List.length_append];omega)
  refine z02 hs ?_
  refine za (z7f b hs) λ_ w' hs=>?_
  obtain ⟨rfl,hs⟩:=hs
  refine ze ?_
  refine zk (λh3=>?_) λh3=>?_
  ·refine ⟨rfl,.inr ⟨hv,z4,rfl,?_⟩⟩
   rw [zdo,h3,if_pos rfl,List.append_nil]
   exact hs.sub
  have h3:z0y b=false:=by simpa using h3
  have hcl:=z1c ((b.rs.length:Nat):Int)
  refine zd hs ?_
  rw [hlx]
  refine za (z5j ((b.rs.length:Nat):Int) (by omega) hs) λ_ w' hs=>?_
  obtain ⟨z5,rfl,hs⟩:=hs
  refine ze ?_
  generalize hX:hdL b++z4u b++uI b.time=X at hs
  have hXl:X.length<=60:=by rw [<- hX];simp only [List.length_append];omega
  refine wp_app' (xs:=X) (ys:=uI (b.rs.length:Nat)) (enc:=zg) hs (λz6 w' hs=>?_) (by omega)
  refine zd hs ?_
  generalize hY:X++uI ((b.rs.length:Nat):Int)=Y at hs
  have hYl:Y.length<=80:=by rw [<- hY];simp only [List.length_append];omega
  have hfin:z1p b=Y++z1r b.time ⟨#[]⟩ b.rs:=by
   rw [zdo,hX,h3,if_neg (by simp),<- hY,List.append_assoc]
  refine zx (λq w'=>∃ z:Sl,q=(z,())/\Sat w' (slc T.a38 1 z ((z1p b).flatMap zg)::l)) ?_ ?_
  rotate_left
  ·rintro _ w' ⟨z,rfl,hs⟩
   exact ⟨rfl,.inr ⟨hv,z,rfl,hs⟩⟩
  have hrec:=znv hv
  refine z0e (λm v w=>∃ (i:Nat) (z:Sl),v=(z,((match (b.rs.take i).getLast? with|none=>(⟨#[]⟩:ByteArray)|some x=>x.key),((i:Int),())))/\i<=b.rs.length/\b.rs.length-i=m/\Sat w (slc T.a38 1 z ((Y++z1r b.time ⟨#[]⟩ (b.rs.take i)).flatMap zg)::pt a0 (.cells (cB b) T.a1)::l)) b.rs.length ⟨0,z6,rfl,by omega,rfl,by
   rw [List.take_zero]
   show Sat _ (slc T.a38 1 z6 ((Y++[]).flatMap zg)::_)
   rw [List.append_nil]
   exact hs.sub⟩ ?_
  clear hs
  rintro m _ w ⟨i,z,rfl,hi,hm,hs⟩
  refine zk (λhc=>?_) λhc=>?_
  rotate_left
  ·refine zv (zj ⟨z,rfl,?_⟩)
   have hc:¬ ((i:Int)<((b.x.len:Nat):Int)):=hc
   have hi2:i=b.rs.length:=by omega
   rw [hi2,List.take_length,<- hfin] at hs
   exact hs.sub
  have hc:((i:Int)<((b.x.len:Nat):Int)):=hc
  have hil:i<b.rs.length:=by omega
  refine z23 hs (xs:=b.rs) (enc:=z03) i hil ?_
  refine z05 hs λa1 w' hs=>?_
  refine z09 hs λw' hs=>?_
  refine zd hs ?_
  obtain ⟨hr1,hr2,hr3,hr4⟩:=z3c (hrs b.rs[i] (List.getElem_mem hil))
  have hah:∀ x,(match (b.rs.take i).getLast? with|none=>(⟨#[]⟩:ByteArray)|some x=>x.key)=x->x.size<=1024:=by
   intro x hx
   cases hq:(b.rs.take i).getLast? with
   | none=>rw [hq] at hx;subst hx;show 0<=1024;omega
   | some y =>
    rw [hq] at hx
    subst hx
    exact (z3c (hrs y (List.mem_of_mem_take (List.mem_of_getLast? hq)))).1
  have hsn:=zbo b.time (b.rs.take i) ⟨#[]⟩ b.rs[i]
  rw [<- List.take_succ_eq_append_getElem hil] at hsn
  have hln:=hrec (i+1)
  rw [hsn,List.length_append] at hln
  have hlast:(match (b.rs.take (i+1)).getLast? with|none=>(⟨#[]⟩:ByteArray)|some x=>x.key)=b.rs[i].key:=by
   rw [List.take_succ_eq_append_getElem hil,z20]
  generalize (match (b.rs.take i).getLast? with|none=>(⟨#[]⟩:ByteArray)|some x=>x.key)=ahead at *
  have hah:=hah ahead rfl
  refine za (zou ahead b.rs[i].key (by omega) hs) λ_ w' hs=>?_
  obtain ⟨rfl,hs⟩:=hs
  refine ze ?_
  refine wp_lt ?_
  have hal:=z7e (bl ahead) (bl b.rs[i].key)
  rw [z14,z14] at hal
  have hrl:z3l b.time ahead b.rs[i]=(z3b (b.rs[i].time-b.time)++([z4z b.rs[i].gone]++(uI (z07 (bl ahead) (bl b.rs[i].key):Nat)++z40 ahead b.rs[i].key)))++if b.rs[i].gone then [] else uI b.rs[i].value.size++bl b.rs[i].value:=by
   unfold z3l
   simp only [List.append_assoc,List.cons_append,List.nil_append,List.singleton_append]
  generalize hZ:Y++z1r b.time ⟨#[]⟩ (b.rs.take i)=Z at *
  have hZl:Z.length<=200000:=by rw [<- hZ,List.length_append];omega
  have htl1:=zcl (b.rs[i].time-b.time)
  have htl2:=z1c ((z07 (bl ahead) (bl b.rs[i].key):Nat):Int)
  have htl3:(z40 ahead b.rs[i].key).length<=1034:=by
   unfold z40
   have:=z1c (((b.rs[i].key.size-z07 (bl ahead) (bl b.rs[i].key):Nat)):Int)
   rw [List.length_append,List.length_drop,z14]
   omega
  refine zx (λq w'=>∃ z:Sl,q=(z,())/\Sat w' (slc T.a38 1 z ((Z++(z3b (b.rs[i].time-b.time)++([z4z b.rs[i].gone]++(uI (z07 (bl ahead) (bl b.rs[i].key):Nat)++z40 ahead b.rs[i].key)))).flatMap zg)::pt a1 (.cells (cR b.rs[i]) T.a3)::pt a0 (.cells (cB b) T.a1)::l)) ?_ ?_
  ·refine z0i hs λw' hs=>?_
   refine zd hs ?_
   refine zd hs ?_
   refine z2c hs ?_
   refine z2c hs ?_
   refine wp_must (by omega) ?_
   rw [w64 (by omega) (by omega)]
   refine za (zyd (b.rs[i].time-b.time) (by omega) hs) λ_ w' hs=>?_
   obtain ⟨u1_,rfl,hs⟩:=hs
   refine ze ?_ (by first|trivial|(repeat (first|exact trivial|exact λ_=>z0w hs|exact λ_=>z15 hs|refine And.intro ?_ ?_)))
   refine za (zzp b.rs[i].gone hs) λ_ w' hs=>?_
   obtain ⟨u2_,rfl,hs⟩:=hs
   refine ze ?_ (by first|trivial|(repeat (first|exact trivial|exact λ_=>z0w hs|exact λ_=>z15 hs|refine And.intro ?_ ?_)))
   refine za (z5j ((z07 (bl ahead) (bl b.rs[i].key):Nat):Int) (by omega) hs) λ_ w' hs=>?_
   obtain ⟨u3_,rfl,hs⟩:=hs
   refine ze ?_ (by first|trivial|(repeat (first|exact trivial|exact λ_=>z0w hs|exact λ_=>z15 hs|refine And.intro ?_ ?_)))
   refine zm ?_
   have ext:(ByteArray.extract b.rs[i].key (z07 (bl ahead) (bl b.rs[i].key)) b.rs[i].key.size).size=b.rs[i].key.size-z07 (bl ahead) (bl b.rs[i].key):=by rw [ByteArray.size_extract];omega
   have exb:bl (ByteArray.extract b.rs[i].key (z07 (bl ahead) (bl b.rs[i].key)) b.rs[i].key.size)=(bl b.rs[i].key).drop (z07 (bl ahead) (bl b.rs[i].key)):=by
    unfold bl
    rw [ByteArray.data_extract,Array.toList_extract,List.extract_eq_take_drop]
    exact List.take_of_length_le (by rw [List.length_drop];exact Nat.le_refl _)
   rw [Int.toNat_natCast]
   refine za (zoa (ByteArray.extract b.rs[i].key (z07 (bl ahead) (bl b.rs[i].key)) b.rs[i].key.size) (by omega) hs) λ_ w' hs=>?_
   obtain ⟨u4_,rfl,hs⟩:=hs
   refine ze ?_
   rw [ext,exb] at hs
   have hs:Sat _ (slc T.a38 1 u4_ ((z40 ahead b.rs[i].key).flatMap zg)::_):=hs
   refine z8x hs (enc:=z0r) [u1_,u2_,u3_,u4_] λu5_ w' hs=>?_
   refine za (zua u5_ u1_ u2_ u3_ u4_ (z3b (b.rs[i].time-b.time)) [z4z b.rs[i].gone] (uI (z07 (bl ahead) (bl b.rs[i].key):Nat)) (z40 ahead b.rs[i].key) (by simp only [List.length_cons,List.length_nil];omega) hs) λ_ w' hs=>?_
   obtain ⟨u6_,rfl,hs⟩:=hs
   refine ze ?_
   refine wp_app' (xs:=Z) (ys:=z3b (b.rs[i].time-b.time)++([z4z b.rs[i].gone]++(uI (z07 (bl ahead) (bl b.rs[i].key):Nat)++z40 ahead b.rs[i].key))) (enc:=zg) hs (λz5 w' hs=>?_) (by simp only [List.length_append,List.length_cons,List.length_nil];omega)
   refine zm ?_
   refine zj ⟨z5,rfl,?_⟩
   exact hs.sub
  rintro _ w3 ⟨z5,rfl,hs⟩
  refine zd hs ?_
  refine zx (λq w'=>∃ z:Sl,q=(z,())/\Sat w' (slc T.a38 1 z ((Z++z3l b.time ahead b.rs[i]).flatMap zg)::pt a1 (.cells (cR b.rs[i]) T.a3)::pt a0 (.cells (cB b) T.a1)::l)) ?_ ?_
  ·refine zk (λh5=>?_) λh5=>?_
   ·have h5:b.rs[i].gone=false:=by simpa using h5
    refine zd hs ?_
    refine za (zoa b.rs[i].value (by omega) hs) λ_ w' hs=>?_
    obtain ⟨u,rfl,hs⟩:=hs
    refine ze ?_
    have hvl:=z1c ((b.rs[i].value.size:Nat):Int)
    have hvs:=z14 b.rs[i].value
    refine wp_app' (xs:=Z++(z3b (b.rs[i].time-b.time)++([z4z b.rs[i].gone]++(uI (z07 (bl ahead) (bl b.rs[i].key):Nat)++z40 ahead b.rs[i].key)))) (ys:=uI (b.rs[i].value.size:Nat)++bl b.rs[i].value) (enc:=zg) hs (λz7 w' hs=>?_) (by simp only [List.length_append,List.length_cons,List.length_nil];omega)
    refine zj ⟨z7,rfl,?_⟩
    rw [hrl,if_neg (by rw [h5];simp),<- List.append_assoc]
    exact hs.sub
   ·have h5:b.rs[i].gone=true:=by simpa using h5
    refine zj ⟨z5,rfl,?_⟩
    rw [hrl,if_pos h5,List.append_nil]
    exact hs.sub
  rintro _ w4 ⟨z7,rfl,hs⟩
  refine zd hs ?_
  refine wp_lt ?_
  have e5:IntKind.wrap .i64 ((i:Int)+1)=((i+1:Nat):Int):=by rw [w64 (by omega) (by omega)];omega
  rw [e5]
  refine z0q (b.rs.length-(i+1)) ?_
  refine ⟨i+1,z7,by rw [hlast],by omega,rfl,?_⟩
  rw [hsn,<- List.append_assoc,hZ]
  exact hs.sub
end
section
variable {w:World} {l r:List HP} {b:BatM}
theorem zb8 (n lo hi:Int) (hs:Sat w l):Ret P F.a130 #[.int .i64 n,.int .i64 lo,.int .i64 hi] w λvs w'=>vs=[.bool (!decide (lo<=n/\n<=hi))]/\Sat w' l :=
 zn9 n lo hi <| by
  unfold zwa
  refine wp_lt ?_
  refine ⟨rfl,?_,hs⟩
  congr 2
  rw [Bool.eq_iff_iff]
  simp only [Bool.or_eq_true,decide_eq_true_eq,Bool.not_eq_true',decide_eq_false_iff_not]
  omega
theorem zai (b:BatM) [hb:FocR l b.x 4 (b.rs.flatMap z03)] (hs:Sat w l):Ret P F.a128 #[.agg (zw b).toArray] w λvs w'=>vs=[.int .i64 (z0d b)]/\Sat w' l :=
 zm1 b.base b.pid b.epoch b.seq b.kind b.time b.x <| by
  unfold zwq z0d
  have hl:=hs.slen b.x (xs:=b.rs) (enc:=z03)
  refine z0b hs λa0 w' hs=>?_
  refine z02 hs ?_
  refine za (z7b b hs) λ_ _ hs=>?_
  obtain ⟨rfl,hs⟩:=hs
  refine ze ?_
  refine zk (λh=>?_) λh=>?_
  ·rw [if_pos h];exact ⟨rfl,rfl,hs.tail⟩
  ·rw [if_neg h]
   refine zd hs ?_
   refine wp_lt ?_
   rw [hl]
   exact ⟨rfl,rfl,hs.tail⟩
theorem zks (b:BatM) [hb:FocR l b.x 4 (b.rs.flatMap z03)] (hs:Sat w l):Ret P F.a129 #[.agg (zw b).toArray] w λvs w'=>vs=[.int .i64 (z0c b)]/\Sat w' l :=
 zln b.base b.pid b.epoch b.seq b.kind b.time b.x <| by
  unfold zwv z0c
  have hl:=hs.slen b.x (xs:=b.rs) (enc:=z03)
  refine z0b hs λa0 w' hs=>?_
  refine zx (λv w'=>v=(decide (¬ z4q b),())/\Sat w' (pt a0 (.cells #[.int .i64 b.base,.int .i64 b.pid,.int .i64 b.epoch,.int .i64 b.seq,.int .i64 b.kind,.int .i64 b.time,.slice b.x.a b.x.len b.x.cap] T.a1)::l)) ?_ ?_
  ·have hno:∀ {w'},¬ z4q b->Sat w' (pt a0 (.cells #[.int .i64 b.base,.int .i64 b.pid,.int .i64 b.epoch,.int .i64 b.seq,.int .i64 b.kind,.int .i64 b.time,.slice b.x.a b.x.len b.x.cap] T.a1)::l)->((true,()):Bool × Unit)=(decide (¬ z4q b),())/\Sat w' (pt a0 (.cells #[.int .i64 b.base,.int .i64 b.pid,.int .i64 b.epoch,.int .i64 b.seq,.int .i64 b.kind,.int .i64 b.time,.slice b.x.a b.x.len b.x.cap] T.a1)::l):=λh hs=>⟨by rw [decide_eq_true h],hs⟩
   refine zd hs ?_
   refine za (zb8 b.kind 0 3 hs) λ_ _ hs=>?_
   obtain ⟨rfl,hs⟩:=hs
   refine ze ?_
   refine zd hs ?_
   refine zk (λh1=>?_) λh1=>?_
   ·exact zj (hno (λh=>h1 h.1) hs)
   refine za (zb8 b.base 0 1099511627776 hs) λ_ _ hs=>?_
   obtain ⟨rfl,hs⟩:=hs
   refine ze ?_
   refine zd hs ?_
   refine zk (λh2=>?_) λh2=>?_
   ·exact zj (hno (λh=>h2 h.2.1) hs)
   refine za (zb8 b.pid 0 1048576 hs) λ_ _ hs=>?_
   obtain ⟨rfl,hs⟩:=hs
   refine ze ?_
   refine zd hs ?_
   refine zk (λh3=>?_) λh3=>?_
   ·exact zj (hno (λh=>h3 h.2.2.1) hs)
   refine za (zb8 b.epoch 0 32767 hs) λ_ _ hs=>?_
   obtain ⟨rfl,hs⟩:=hs
   refine ze ?_
   refine zd hs ?_
   refine zk (λh4=>?_) λh4=>?_
   ·exact zj (hno (λh=>h4 h.2.2.2.1) hs)
   refine za (zb8 b.seq 0 2147483647 hs) λ_ _ hs=>?_
   obtain ⟨rfl,hs⟩:=hs
   refine ze ?_
   refine zd hs ?_
   refine zk (λh5=>?_) λh5=>?_
   ·exact zj (hno (λh=>h5 h.2.2.2.2.1) hs)
   refine za (zb8 b.time 0 1099511627776 hs) λ_ _ hs=>?_
   obtain ⟨rfl,hs⟩:=hs
   refine ze ?_
   refine zj ⟨?_,hs⟩
   have:z4q b↔(0<=b.time/\b.time<=1099511627776):=⟨λh=>h.2.2.2.2.2,λh=>⟨Decidable.not_not.1 h1,Decidable.not_not.1 h2,Decidable.not_not.1 h3,Decidable.not_not.1 h4,Decidable.not_not.1 h5,h⟩⟩
   rw [decide_not,decide_eq_decide.2 this]
  clear hs
  rintro _ w ⟨rfl,hs⟩
  refine zt ?_
  refine zk (λh1=>?_) λh1=>?_
  ·rw [if_pos (.inl h1)];exact ⟨rfl,rfl,hs.tail⟩
  have hnum:z4q b:=Decidable.not_not.1 h1
  refine zd hs ?_
  refine zd hs ?_
  refine zd hs ?_
  refine zd hs ?_
  refine zk (λh2=>?_) λh2=>?_
  ·rw [if_pos (.inr λh=>h.1 ⟨h2.1,or_assoc.1 h2.2⟩)];exact ⟨rfl,rfl,hs.tail⟩
  have h2:¬ (b.pid=0/\(b.kind≠0\/b.epoch≠0\/b.seq≠0)):=λh=>h2 ⟨h.1,or_assoc.2 h.2⟩
  refine zx (λv w'=>v=(decide (¬ z49 b),())/\Sat w' (pt a0 (.cells #[.int .i64 b.base,.int .i64 b.pid,.int .i64 b.epoch,.int .i64 b.seq,.int .i64 b.kind,.int .i64 b.time,.slice b.x.a b.x.len b.x.cap] T.a1)::l)) ?_ ?_
  ·refine z0i hs λw' hs=>?_
   refine z02 hs ?_
   refine z2c hs ?_
   refine za (z7b b hs) λ_ w' hs=>?_
   obtain ⟨rfl,hs⟩:=hs
   refine ze ?_ ⟨trivial,λ_=>z0w hs⟩
   refine z02 hs ?_
   refine zm ?_
   refine zk (λh3=>?_) λh3=>?_
   ·refine zm ?_
    refine zj ⟨?_,hs⟩
    rw [decide_eq_true]
    rintro ⟨-,h4⟩
    apply h3
    rw [Bool.eq_iff_iff,beq_iff_eq,hl]
    by_cases hm:z0y b=true
    ·rw [if_pos hm] at h4;simp [hm,h4.2]
    ·rw [if_neg hm] at h4;simp [hm];intro h5;rw [h5] at h4;simp at h4
   have h3:z0y b=true↔b.rs.length=0:=by
    have:=Decidable.not_not.1 h3
    rw [Bool.eq_iff_iff,beq_iff_eq,hl] at this
    rw [this];omega
   refine za (z7b b hs) λ_ _ hs=>?_
   obtain ⟨rfl,hs⟩:=hs
   refine ze ?_
   refine zd hs ?_
   refine zm ?_
   refine zj ⟨?_,hs⟩
   have:¬ z49 b↔(z0y b=true/\b.seq≠0):=by
    unfold z49
    by_cases hm:z0y b=true
    ·rw [if_pos hm]
     have:=h3.1 hm
     constructor
     ·exact λh=>⟨hm,λh5=>h ⟨h2,h5,this⟩⟩
     ·exact λh h5=>h.2 h5.2.1
    ·rw [if_neg hm]
     have:0<b.rs.length:=Nat.pos_of_ne_zero λh=>hm (h3.2 h)
     constructor
     ·exact λh=>absurd ⟨h2,this⟩ h
     ·exact λh=>absurd h.1 hm
   rw [decide_eq_decide.2 this,Bool.decide_and]
   cases z0y b <;> simp [bne]
   rfl
  clear hs
  rintro _ w ⟨rfl,hs⟩
  refine zt ?_
  refine zk (λh3=>?_) λh3=>?_
  ·rw [if_pos (.inr h3)];exact ⟨rfl,rfl,hs.tail⟩
  have hfit:z49 b:=Decidable.not_not.1 h3
  rw [if_neg (λh=>h.elim h1 h3)]
  refine zd hs ?_
  refine zk (λh4=>?_) λh4=>?_
  ·rw [if_pos (by omega)];exact ⟨rfl,rfl,hs.tail⟩
  rw [if_neg (by omega)]
  refine zd hs ?_
  refine zx (λv w'=>z5t b.rs=0/\Sat w' (pt a0 (.cells #[.int .i64 b.base,.int .i64 b.pid,.int .i64 b.epoch,.int .i64 b.seq,.int .i64 b.kind,.int .i64 b.time,.slice b.x.a b.x.len b.x.cap] T.a1)::l)) ?_ ?_
  ·refine z0e (λk v w=>∃ i:Nat,v=((i:Int),())/\i<=b.rs.length/\b.rs.length-i=k/\z5t (b.rs.take i)=0/\Sat w (pt a0 (.cells #[.int .i64 b.base,.int .i64 b.pid,.int .i64 b.epoch,.int .i64 b.seq,.int .i64 b.kind,.int .i64 b.time,.slice b.x.a b.x.len b.x.cap] T.a1)::l)) b.rs.length ⟨0,rfl,by omega,rfl,rfl,hs⟩ ?_
   clear hs
   rintro k _ w ⟨i,rfl,hi,hk,hbad,hs⟩
   refine zt ?_
   refine zk (λhc=>?_) λhc=>?_
   rotate_left
   ·refine zv (zj ⟨?_,hs⟩)
    rwa [List.take_of_length_le (by omega)] at hbad
   have hil:i<b.rs.length:=by omega
   have hbt:=zd4 b.rs i hil hbad
   have hbs':=zcq b.rs i hil hbad
   refine z23 hs i hil ?_
   refine z05 hs λc w' hs=>?_
   refine z09 hs λw' hs=>?_
   refine zd hs ?_
   refine zd hs ?_
   refine zk (λh5=>?_) λh5=>?_
   ·have e:z28 b.rs[i]=7:=by unfold z28;rw [if_pos (by omega)]
    rw [e] at hbt
    have:=hbt (by decide)
    rw [if_pos (by rw [this];decide),this]
    refine zv (zv ?_)
    exact ⟨rfl,rfl,hs.tail.tail⟩
   refine zd hs ?_
   refine za (zb8 b.rs[i].time 0 1099511627776 hs) λ_ _ hs=>?_
   obtain ⟨rfl,hs⟩:=hs
   refine ze ?_
   refine zd hs ?_
   refine zd hs ?_
   refine zk (λh6=>?_) λh6=>?_
   ·have e:z28 b.rs[i]=2:=by
     unfold z28
     rw [if_neg (by omega),if_pos]
     rcases h6 with h6|⟨h6,h7⟩
     ·exact .inl h6
     ·exact .inr ⟨h6,by omega⟩
    rw [e] at hbt
    have:=hbt (by decide)
    rw [if_pos (by rw [this];decide),this]
    refine zv (zv ?_)
    exact ⟨rfl,rfl,hs.tail.tail⟩
   ·have e:z28 b.rs[i]=0:=by
     unfold z28
     rw [if_neg (by omega),if_neg]
     rintro (h7|⟨h7,h8⟩)
     ·exact h6 (.inl h7)
     ·exact h6 (.inr ⟨h7,by omega⟩)
    refine z57 (us':=[.int .i64 ((i+1:Nat):Int)]) (by (try simp (disch:=omega) only [w64]);first|rfl|(congr;omega)) ?_
    refine z0q (b.rs.length-(i+1)) ?_
    exact ⟨i+1,rfl,by omega,rfl,hbs' e,hs.sub⟩
  clear hs
  rintro _ w ⟨hbad,hs⟩
  refine zt ?_
  rw [if_neg (by rw [hbad];simp)]
  have hsp:1<=z0d b/\z0d b<=64:=by
   unfold z0d
   have h3:=hfit.2
   split
   ·omega
   ·rename_i hm
    rw [if_neg hm] at h3
    omega
  obtain ⟨-,hba,-,-,hse,-⟩:=hnum
  refine z0i hs λw' hs=>?_
  refine z2c hs ?_
  refine z02 hs ?_
  refine za (zai b hs) λ_ w' hs=>?_
  obtain ⟨rfl,hs⟩:=hs
  refine ze ?_ ⟨trivial,λ_=>z0w hs⟩
  refine zm ?_
  rw [w64 (x:=b.base+z0d b) (by omega) (by omega),w64 (x:=b.base+z0d b-1) (by omega) (by omega)]
  refine zk (λh5=>?_) λh5=>?_
  ·rw [if_pos (.inl (by omega))];exact ⟨rfl,rfl,hs.tail⟩
  refine zx (λv w'=>v=(decide (b.pid>0/\z0y b=false/\b.seq>2147483647-(z0d b-1)),())/\Sat w' l) ?_ ?_
  ·refine zd hs ?_
   refine z02 hs ?_
   refine zk (λh6=>?_) λh6=>?_
   rotate_left
   ·exact zj ⟨by rw [decide_eq_false (λh=>h6 h.1)],hs.tail⟩
   refine za (z7b b hs) λ_ _ hs=>?_
   obtain ⟨rfl,hs⟩:=hs
   refine ze ?_
   refine zd hs ?_
   refine zd hs ?_
   rw [w64 (x:=b.seq+((b.x.len:Nat):Int)) (by omega) (by omega),w64 (x:=b.seq+((b.x.len:Nat):Int)-1) (by omega) (by omega)]
   refine zj ⟨?_,hs.tail⟩
   have:(b.pid>0/\z0y b=false/\b.seq>2147483647-(z0d b-1))↔(z0y b=false/\b.seq+((b.x.len:Nat):Int)-1>2147483647):=by
    constructor
    ·rintro ⟨-,h7,h8⟩
     refine ⟨h7,?_⟩
     unfold z0d at h8
     rw [if_neg (by rw [h7];simp)] at h8
     omega
    ·rintro ⟨h7,h8⟩
     refine ⟨h6,h7,?_⟩
     unfold z0d
     rw [if_neg (by rw [h7];simp)]
     omega
   rw [decide_eq_decide.2 this,Bool.decide_and]
   cases z0y b <;> rfl
  clear hs
  rintro _ w ⟨rfl,hs⟩
  refine zt ?_
  refine zk (λh6=>?_) λh6=>?_
  ·rw [if_pos (.inr h6)];exact ⟨rfl,rfl,hs⟩
  ·rw [if_neg (λh=>h.elim (λh=>h5 (by omega)) h6)];exact ⟨rfl,rfl,hs⟩
end
end Go.Dec
