/- What the claim of this folder leans on: our own texts, joined, without what it does not use. -/
import Derived.Test.YtfnldnodhfkojaaGreatRows
import Derived.WalkKit
import Derived.ProofKit
import Derived.OpenShut
import Derived.RowKit3
import Derived.OrdersHeld
import Derived.Scope
import Derived.KernelRfl
import Derived.Laws.Sem
import Derived.Laws.StructEq
import Derived.Deep.AppendSrc
import Derived.Laws.BytesArg
import Derived.Laws.RangeString
import Derived.Maps.RangeRun
import Derived.Lib.ConvBytes
import Derived.Lib.SlBytesConst
import Derived.ChangeSlices
import Derived.ChangeMaps5
import Derived.ChangeSame
import Derived.Deep.Slices
import Derived.Deep.Fields
import Derived.Test.YtfnldnodhfkojaaGreatProg
import Derived.Laws.MakeOwn
import Derived.Sort.MapsRangeIn
import Derived.Sort.KeysCollected
import Derived.RangeFuncNested
import Derived.RangeFuncBound
import Derived.RangeFuncCalls
import Derived.RangeFuncLeaves
import Derived.RangeFuncBox
import Derived.OwnWalkIn
import Derived.TacticsInMore
import Derived.RegionIn
import Derived.LoopNIn
import Derived.LoopIn
import Derived.Maps.AppendAt
import Derived.Shelf.Abstract
import Derived.Shelf.Sort.Plain
import Derived.Shelf.Slices.In.SortNone
import Derived.Test.YtfnldnodhfkojaaGreatQPlays1
import Derived.Test.YtfnldnodhfkojaaGreatQPlays2
import Derived.Test.YtfnldnodhfkojaaGreatQPlays3
set_option linter.unusedVariables false
set_option linter.unusedSimpArgs false
namespace Go.Dec
instance:ByE P T.a28 T.a39:=⟨by kernel_rfl,by kernel_rfl,by kernel_rfl⟩
instance:StT P T.a33:=⟨by kernel_rfl⟩
theorem z6w (m:Nat) {k:Int} (hk:0<=k):Int.fdiv (m:Int) k=((m / k.toNat:Nat):Int):=by
 obtain ⟨k,rfl⟩:=Int.eq_ofNat_of_zero_le hk
 rw [Int.fdiv_eq_ediv_of_nonneg _ hk];rfl
theorem zja (m:Nat) {k:Int} (hk:0<=k):Int.tdiv (m:Int) k=((m / k.toNat:Nat):Int):=by
 obtain ⟨k,rfl⟩:=Int.eq_ofNat_of_zero_le hk
 rfl
theorem zer (m:Nat) {k:Int} (hk:0<=k):Int.tmod (m:Int) k=((m % k.toNat:Nat):Int):=by
 obtain ⟨k,rfl⟩:=Int.eq_ofNat_of_zero_le hk
 rfl
theorem z8a (m:Nat):IntKind.wrap .u8 (m:Int)=((m % 256:Nat):Int):=by simp [IntKind.wrap,IntKind.bits,IntKind.signed]
theorem z9n (m:Nat):IntKind.wrap .u32 (m:Int)=((m % 4294967296:Nat):Int):=by simp [IntKind.wrap,IntKind.bits,IntKind.signed]
theorem z79 (m:Nat):IntKind.wrap .u64 (m:Int)=((m % 18446744073709551616:Nat):Int):=by simp [IntKind.wrap,IntKind.bits,IntKind.signed]
theorem z044 (m:Nat):(BitVec.toNat (BitVec.ofInt 8 (IntKind.wrap .u8 (m:Int)) ||| BitVec.ofInt 8 128))=m % 128+128:=by
 rw [z8a,BitVec.ofInt_natCast]
 have h:∀ k:Fin 256,(BitVec.ofNat 8 k.val ||| BitVec.ofInt 8 128).toNat=k.val % 128+128:=by decide +kernel
 have:=h ⟨m % 256,by omega⟩
 rw [this]
 show m % 256 % 128+128=_
 omega
theorem z00j (m:Nat) (hm:m<256):(BitVec.toNat (BitVec.ofInt 8 (m:Int) &&& BitVec.ofInt 8 127))=m % 128:=by
 rw [BitVec.ofInt_natCast]
 have h:∀ k:Fin 256,(BitVec.ofNat 8 k.val &&& BitVec.ofInt 8 127).toNat=k.val % 128:=by decide +kernel
 exact h ⟨m,hm⟩
theorem z04h {n c i:Nat} (hn:n<128 ^ i) (hi:i<=9) (hc:c<256) (h9:i=9->c<=1) :
  IntKind.wrap .u64 (((BitVec.toNat (BitVec.ofInt 64 (n:Int) ||| BitVec.ofInt 64 (IntKind.wrap .u64 (IntKind.wrap .u64 (IntKind.wrap .u8 (((BitVec.toNat (BitVec.ofInt 8 (c:Int) &&& BitVec.ofInt 8 127):Nat):Int)))*2 ^ min (Int.toNat (IntKind.wrap .i64 (7*(i:Int)))) 64))):Nat):Int))=((n+128 ^ i*(c % 128):Nat):Int):=by
 have e1:min (Int.toNat (IntKind.wrap .i64 (7*(i:Int)))) 64=7*i:=by rw [w64 (by omega) (by omega)];omega
 have e2:(2:Nat) ^ (7*i)=128 ^ i:=by rw [Nat.pow_mul]
 have hle:128 ^ i*(c % 128)+128 ^ i<=18446744073709551616:=by
  have hcase:i=0\/i=1\/i=2\/i=3\/i=4\/i=5\/i=6\/i=7\/i=8\/i=9:=by omega
  rcases hcase with rfl|rfl|rfl|rfl|rfl|rfl|rfl|rfl|rfl|rfl <;> simp <;> omega
 rw [z00j c hc,e1,z8a,z79 (c % 128 % 256),show c % 128 % 256 % 18446744073709551616=c % 128 by omega]
 have e3:((c % 128:Nat):Int)*2 ^ (7*i)=((128 ^ i*(c % 128):Nat):Int):=by
  rw [<- e2,Nat.mul_comm (2 ^ (7*i)),Int.natCast_mul];simp
 rw [e3,z79 (128 ^ i*(c % 128)),BitVec.ofInt_natCast,BitVec.ofInt_natCast,BitVec.toNat_or,BitVec.toNat_ofNat,BitVec.toNat_ofNat,Nat.mod_eq_of_lt (show n<2 ^ 64 by omega),Nat.mod_mod,Nat.mod_eq_of_lt (show 128 ^ i*(c % 128)<2 ^ 64 by omega)]
 have h5:=Nat.two_pow_add_eq_or_of_lt (i:=7*i) (b:=n) (by rw [e2];exact hn) (c % 128)
 rw [e2] at h5
 rw [Nat.or_comm,<- h5,z79,Nat.mod_eq_of_lt (by omega),Nat.add_comm]
section
variable {w:World} {l r:List HP} {Q:Post} {S:World->Prop}
theorem zo9 (n:Nat) (hn:n<18446744073709551616) (hs:Sat w l):Ret P F.a161 #[.int .u64 (n:Int)] w λvs w'=>∃ z:Sl,vs=[z.v]/\Sat w' (slc T.a39 1 z ((z3i n).flatMap zh)::l) :=
 zmo n <| by
  unfold zxj
  refine zn (λu w'=>∃ (m:Nat) (z:Sl) (acc:List UInt8),u=((m:Int),z,())/\m<128/\acc.length<=9/\z3i n=acc++[UInt8.ofNat m]/\Sat w' (slc T.a39 1 z (acc.flatMap zh)::l)) ?_ ?_
  ·refine z06 (λk u w=>∃ (z:Sl) (acc:List UInt8),u=((k:Int),z,())/\k<18446744073709551616/\z3i n=acc++z3i k/\Sat w (slc T.a39 1 z (acc.flatMap zh)::l)) n ⟨⟨none,0,0⟩,[],rfl,hn,rfl,hs.slc_nil⟩ ?_
   clear hs
   rintro k _ w ⟨z,acc,rfl,hk,he,hs⟩
   refine zl ?_
   have hal:acc.length<=9:=by
    have h1:=congrArg List.length he
    rw [List.length_append] at h1
    have h2:=z7w n
    have h3:=z7w k
    omega
   refine zf (λh=>?_) λh=>?_
   ·rw [zb8 hk,if_neg (by omega)] at he
    refine z5z hs (xs:=acc) (enc:=zh) (UInt8.ofNat (k % 128+128)) (λz w' hs=>?_) ?_
    ·refine z1k (y:=((k / 128:Nat):Int)) ?_ (z6w k (by decide))
     refine z0l (k / 128) ?_
     exact ⟨z,acc++[UInt8.ofNat (k % 128+128)],rfl,by omega,by rw [he];simp,hs⟩
    ·unfold zh
     rw [z044,z8a]
     simp
   ·rw [zb8 hk,if_pos (by omega)] at he
    exact zk (zg ⟨k,z,acc,rfl,by omega,hal,he,hs⟩)
  clear hs
  rintro _ w ⟨m,z,acc,rfl,hm,hal,he,hs⟩
  refine zl ?_
  refine z5z hs (xs:=acc) (enc:=zh) (UInt8.ofNat m) (λz w' hs=>?_) ?_
  ·refine ⟨rfl,z,rfl,?_⟩
   rw [he];exact hs
  ·unfold zh
   rw [z8a]
   simp
theorem zgw:∀ (k n:Nat) {w:World} {l:List HP},n<128 ^ (k+1)->n<18446744073709551616->Sat w l->Ret P F.a115 #[.int .u64 (n:Int)] w λvs w'=>∃ z:Sl,vs=[z.v]/\Sat w' (slc T.a39 1 z ((z3i n).flatMap zh)::l):=by
 intro k
 induction k with
 | zero =>
  intro n w l hn h64 hs
  refine zds n ?_
  unfold zrg
  rw [zb8 h64,if_pos (by omega)]
  refine z1b ?_ (by omega)
  refine z1t hs (enc:=zh) (UInt8.ofNat n) (λz w' hs=>⟨rfl,z,rfl,hs⟩) ?_
  unfold zh
  rw [z8a];simp
 | succ k ih =>
  intro n w l hn h64 hs
  refine zds n ?_
  unfold zrg
  rw [zb8 h64]
  refine zf (λh=>?_) λh=>?_
  ·rw [if_pos (by omega)]
   refine z1t hs (enc:=zh) (UInt8.ofNat n) (λz w' hs=>⟨rfl,z,rfl,hs⟩) ?_
   unfold zh
   rw [z8a];simp
  ·rw [if_neg (by omega)]
   have e1:IntKind.wrap .u64 (Int.tmod (n:Int) 128+128)=((n % 128+128:Nat):Int):=by
    rw [zer n (by decide)]
    have:((n % Int.toNat 128:Nat):Int)+128=((n % 128+128:Nat):Int):=rfl
    rw [this,z79];omega
   have e2:IntKind.wrap .u64 (Int.tdiv (n:Int) 128)=((n / 128:Nat):Int):=by
    rw [zja n (by decide),z79]
    show ((n / 128 % _:Nat):Int)=_
    omega
   rw [e1,e2]
   refine z1t hs (enc:=zh) (UInt8.ofNat (n % 128+128)) (λy w' hs=>?_) ?_
   ·refine zb (ih (n / 128) (by rw [Nat.pow_succ] at hn;omega) (by omega) hs) λ_ _ hs=>?_
    obtain ⟨z,rfl,hs⟩:=hs
    refine zd ?_
    have hl:=z7w (n / 128)
    have hs:=hs.pick [1,0]
    refine wp_app' (xs:=[UInt8.ofNat (n % 128+128)]) (ys:=z3i (n / 128)) (enc:=zh) hs (λz w' hs=>?_) (by simp;omega)
    have hs:Sat _ (slc T.a39 1 z ((UInt8.ofNat (n % 128+128)::z3i (n / 128)).flatMap zh)::_):=hs
    exact ⟨rfl,z,rfl,hs.sub⟩
   ·unfold zh
    rw [z8a];simp
theorem znh (x:Sl) (ps:List (Sl × List UInt8)) [hx:FocR l x 1 ((ps.map Prod.fst).flatMap z0b)] (hps:∀ p ∈ ps,FocR l p.1 1 (p.2.flatMap zh)) (hpl:ps.length<=1000000) (hn:(ps.flatMap Prod.snd).length<=1000000000) (hs:Sat w l) :
  Ret P F.a149 #[x.v] w λvs w'=>∃ z:Sl,vs=[z.v]/\Sat w' (slc T.a39 1 z ((ps.flatMap Prod.snd).flatMap zh)::l) :=
 zn4 x <| by
  unfold zwh
  have hl:=hs.slen x (xs:=ps.map Prod.fst) (enc:=z0b)
  rw [List.length_map] at hl
  have hstep:∀ i (hi:i<ps.length),(ps.take (i+1)).flatMap Prod.snd=(ps.take i).flatMap Prod.snd++ps[i].2:=λi hi=>by
   rw [List.take_add_one,List.getElem?_eq_getElem hi,Option.toList_some,List.flatMap_append,List.flatMap_singleton]
  have hmany:∀ i,((ps.take i).flatMap Prod.snd).length<=1000000000:=λi=>by
   have:ps.flatMap Prod.snd=(ps.take i).flatMap Prod.snd++(ps.drop i).flatMap Prod.snd:=by rw [<- List.flatMap_append,List.take_append_drop]
   rw [this,List.length_append] at hn
   omega
  refine zn (λu w'=>u=((((ps.flatMap Prod.snd).length:Nat):Int),())/\Sat w' l) ?_ ?_
  ·refine z06 (λk u w=>∃ i:Nat,u=(((((ps.take i).flatMap Prod.snd).length:Nat):Int),(i:Int),())/\i<=ps.length/\ps.length-i=k/\Sat w l) ps.length ⟨0,rfl,by omega,rfl,hs⟩ ?_
   clear hs
   rintro k _ w ⟨i,rfl,hi,hk,hs⟩
   refine zl ?_
   refine zf (λhc=>?_) λhc=>?_
   rotate_left
   ·refine zk (zg ⟨?_,hs⟩)
    rw [List.take_of_length_le (by omega)]
   have hil:i<ps.length:=by omega
   refine z1z hs (xs:=ps.map Prod.fst) (enc:=z0b) i (by rw [List.length_map];exact hil) ?_
   rw [List.getElem_map]
   have hF:=hps _ (List.getElem_mem hil)
   have hpi:=hs.slen ps[i].1 (xs:=ps[i].2) (enc:=zh)
   have h1:=hmany (i+1)
   have h2:=congrArg List.length (hstep i hil)
   rw [List.length_append] at h2
   have e:IntKind.wrap .i64 (((((ps.take i).flatMap Prod.snd).length:Nat):Int)+((ps[i].1.len:Nat):Int))=((((ps.take (i+1)).flatMap Prod.snd).length:Nat):Int):=by rw [w64 (by omega) (by omega)];omega
   refine zix e ?_
   refine z4x (us':=[.int .i64 ((((ps.take (i+1)).flatMap Prod.snd).length:Nat):Int),.int .i64 ((i+1:Nat):Int)]) (by (try simp (disch:=omega) only [w64]);first|rfl|(congr;omega)) ?_
   refine z0l (ps.length-(i+1)) ?_
   exact ⟨i+1,rfl,by omega,rfl,hs⟩
  clear hs
  rintro _ w ⟨rfl,hs⟩
  refine zl ?_
  refine zo3 (ps.flatMap Prod.snd).length hs λz w' hs=>?_
  refine zn (λu w'=>∃ z:Sl,u=(z,())/\Sat w' (slc T.a39 1 z ((ps.flatMap Prod.snd).flatMap zh)::l)) ?_ (by rintro _ w' ⟨z,rfl,hs⟩;refine zl ?_;exact ⟨rfl,z,rfl,hs⟩)
  refine z06 (λk u w=>∃ (i:Nat) (z:Sl),u=(z,(i:Int),())/\i<=ps.length/\ps.length-i=k/\Sat w (slc T.a39 1 z (((ps.take i).flatMap Prod.snd).flatMap zh)::l)) ps.length ⟨0,z,rfl,by omega,rfl,hs⟩ ?_
  clear hs
  rintro k _ w ⟨i,z,rfl,hi,hk,hs⟩
  refine zl ?_
  refine zf (λhc=>?_) λhc=>?_
  rotate_left
  ·refine zk (zg ⟨z,rfl,?_⟩)
   rw [List.take_of_length_le (by omega)] at hs
   exact hs
  have hil:i<ps.length:=by omega
  refine z1z hs (xs:=ps.map Prod.fst) (enc:=z0b) i (by rw [List.length_map];exact hil) ?_
  rw [List.getElem_map]
  have hF:=hps _ (List.getElem_mem hil)
  have h1:=hmany (i+1)
  rw [hstep i hil,List.length_append] at h1
  refine wp_app' (xs:=(ps.take i).flatMap Prod.snd) (ys:=ps[i].2) (enc:=zh) hs (λz w' hs=>?_)
  rw [<- hstep i hil] at hs
  refine z4x (us':=[z.v,.int .i64 ((i+1:Nat):Int)]) (by (try simp (disch:=omega) only [w64]);first|rfl|(congr;omega)) ?_
  refine z0l (ps.length-(i+1)) ?_
  exact ⟨i+1,z,rfl,by omega,rfl,hs⟩
theorem zkr (x:Sl) (bs:List UInt8) [hx:FocR l x 1 (bs.flatMap zh)] (hn:bs.length<=1000000000) (hs:Sat w l) :
  Ret P F.a0 #[x.v] w λvs w'=>∃ z:Sl,vs=[z.v]/\Sat w' (slc T.a39 1 z (bs.flatMap zh)::l) :=
 zi0 x <| by
  unfold zf0
  have hl:=hs.slen x (xs:=bs) (enc:=zh)
  refine zf (λh=>?_) λh=>?_
  ·have h:x.a=none:=by simpa using h
   have:bs=[]:=by
    obtain ⟨h1,h2|⟨b,off,arr,T',fr,ha,-⟩⟩:=hx.rd w hs
    ·exact List.length_eq_zero_iff.1 (by omega)
    ·rw [h] at ha;cases ha
   subst this
   exact ⟨rfl,⟨none,0,0⟩,rfl,hs.slc_nil⟩
  ·refine z8r hs (enc:=zh) [] bs0 (λb w' hs=>?_)
   refine wp_app' (xs:=[]) (ys:=bs) (enc:=zh) hs (λz w' hs=>?_) (by simp;omega)
   exact ⟨rfl,z,rfl,hs⟩
structure RdM where
 bs:List UInt8
 at_:Nat
 e:Int
def RdM.fail (R:RdM) (e:Int):RdM:=⟨R.bs,R.at_,if R.e=0 then e else R.e⟩
def RdM.uint (R:RdM):Nat × RdM:=if R.e≠0 then (0,R) else match z40 0 (R.bs.drop R.at_) with
 | some p=>(p.1,⟨R.bs,R.at_+p.2,R.e⟩)
 | none=>(0,⟨R.bs,R.at_,6⟩)
def RdM.done (R:RdM):RdM:=if R.at_<R.bs.length then R.fail 6 else R
def rdP (T':TypeId) (p:Nat) (R:RdM):HP:=HP.ex λx:Sl=>HP.and (R.at_<=R.bs.length/\R.bs.length<=1000000000) (HP.star (pt p (.cells #[.slice x.a x.len x.cap,.int .i64 R.at_,.int .i64 R.e] T')) (slc T.a39 1 x (R.bs.flatMap zh)))
theorem z2r {T':TypeId} {p:Nat} {R:RdM} (hs:Sat w (rdP T' p R::l)):∃ x:Sl,(R.at_<=R.bs.length/\R.bs.length<=1000000000)/\Sat w (pt p (.cells #[.slice x.a x.len x.cap,.int .i64 R.at_,.int .i64 R.e] T')::slc T.a39 1 x (R.bs.flatMap zh)::l):=by
 obtain ⟨x,hs⟩:=hs.ex
 obtain ⟨h,hs⟩:=hs.and
 exact ⟨x,h,hs.star⟩
theorem z1h {T':TypeId} {p:Nat} (R:RdM) {x:Sl} (h:R.at_<=R.bs.length/\R.bs.length<=1000000000) (hs:Sat w (pt p (.cells #[.slice x.a x.len x.cap,.int .i64 R.at_,.int .i64 R.e] T')::slc T.a39 1 x (R.bs.flatMap zh)::l)):Sat w (rdP T' p R::l) :=
 .ex_mk x (.and_mk h (.star_mk hs))
theorem zom (R:RdM):(R.uint.2).bs=R.bs:=by
 unfold RdM.uint
 split
 ·rfl
 ·split <;> rfl
variable {p:Nat} {R:RdM}
theorem zlz (x:Sl) (bs:List UInt8) [hx:FocR l x 1 (bs.flatMap zh)] (hn:bs.length<=1000000000) (hs:Sat w l) :
  Ret P F.a150 #[x.v] w λvs w'=>∃ p:Nat,vs=[.pointer (some ⟨p,0,none⟩)]/\Sat w' (rdP T.a41 p ⟨bs,0,0⟩::l) :=
 zma x <| by
  unfold zx5
  refine zb (zkr x bs hn hs) λ_ _ hs=>?_
  obtain ⟨z,rfl,hs⟩:=hs
  refine zd ?_
  refine z02 hs λp w' hs=>?_
  exact ⟨rfl,p,rfl,z1h ⟨bs,0,0⟩ ⟨Nat.zero_le _,hn⟩ hs⟩
theorem zcl [hf:Fo l (rdP T.a41) p R r] (hs:Sat w l):Ret P F.a163 #[.pointer (some ⟨p,0,none⟩)] w λvs w'=>vs=[.int .i64 ((R.bs.length-R.at_:Nat):Int)]/\Sat w' (rdP T.a41 p R::r) :=
 zm0 _ <| by
  unfold zx9
  obtain ⟨x,hb,hs⟩:=z2r (hs.perm hf.perm)
  have hl:=hs.slen x (xs:=R.bs) (enc:=zh)
  refine z0a hs λw' hs=>?_
  refine zm ?_
  refine za hs ?_
  refine zm ?_
  refine za hs ?_
  refine z1k (y:=((R.bs.length-R.at_:Nat):Int)) ?_ (by rw [w64 (by omega) (by omega)];omega)
  refine zj ?_
  exact ⟨rfl,rfl,z1h R hb hs⟩
theorem z78 (e:Int) [hf:Fo l (rdP T.a41) p R r] (hs:Sat w l):Ret P F.a162 #[.pointer (some ⟨p,0,none⟩),.int .i64 e] w λvs w'=>vs=[]/\Sat w' (rdP T.a41 p (R.fail e)::r) :=
 zlj _ e <| by
  unfold zx3
  obtain ⟨x,hb,hs⟩:=z2r (hs.perm hf.perm)
  refine zm ?_
  refine za hs ?_
  refine zn (λ_ w'=>Sat w' (rdP T.a41 p (R.fail e)::r)) ?_ (by rintro _ w' hs;refine zl ?_;exact ⟨rfl,rfl,hs⟩)
  refine zf (λh=>?_) λh=>?_
  ·refine zm ?_
   refine z0d hs λw' hs=>?_
   refine zg ?_
   have e1:R.fail e=⟨R.bs,R.at_,e⟩:=by unfold RdM.fail;rw [if_pos h]
   rw [e1]
   exact z1h ⟨R.bs,R.at_,e⟩ hb hs
  ·have e1:R.fail e=R:=by unfold RdM.fail;rw [if_neg h]
   rw [e1]
   exact zg (z1h R hb hs)
theorem zoi [hf:Fo l (rdP T.a41) p R r] (he:R.e=0) (hs:Sat w l):Ret P F.a165 #[.pointer (some ⟨p,0,none⟩)] w λvs w'=>vs=[.int .u64 ((R.uint.1:Nat):Int)]/\Sat w' (rdP T.a41 p R.uint.2::r) :=
 zli _ <| by
  unfold zxl
  have hs:=hs.perm hf.perm
  refine zn (λ_ w'=>z40 0 (R.bs.drop R.at_)=none/\Sat w' (rdP T.a41 p R::r)) ?_ ?_
  rotate_left
  ·rintro _ w' ⟨hno,hs⟩
   refine zl ?_
   refine zb (z78 (p:=p) 6 hs) λ_ _ hs=>?_
   obtain ⟨rfl,hs⟩:=hs
   refine zd ?_
   have e1:R.uint=(0,R.fail 6):=by unfold RdM.uint RdM.fail;rw [if_neg (by rw [he];simp),hno,if_pos he]
   rw [e1]
   exact ⟨rfl,rfl,hs⟩
  refine z06 (λk u w=>∃ i n:Nat,u=((n:Int),(i:Int),())/\i<=10/\10-i=k/\n<128 ^ i/\z40 0 (R.bs.drop R.at_)=(z40 i ((R.bs.drop R.at_).drop i)).map (λq=>(n+128 ^ i*q.1,i+q.2))/\Sat w (rdP T.a41 p R::r)) 10
   ⟨0,0,rfl,by omega,rfl,by simp,by simp,hs⟩ ?_
  clear hs
  rintro k _ w ⟨i,n,rfl,hi,hk,hn,hnum,hs⟩
  refine zl ?_
  refine zf (λhc=>?_) λhc=>?_
  rotate_left
  ·refine zk (zg ⟨?_,hs⟩)
   rw [hnum]
   have:z40 i ((R.bs.drop R.at_).drop i)=none:=by
    cases (R.bs.drop R.at_).drop i with
    | nil=>rfl
    | cons c q=>rw [z7v,if_pos (by omega)]
   rw [this];rfl
  refine zb (zcl (p:=p) hs) λ_ _ hs=>?_
  obtain ⟨rfl,hs⟩:=hs
  refine zd ?_
  refine zf (λhc2=>?_) λhc2=>?_
  ·refine zk (zg ⟨?_,hs⟩)
   rw [hnum,List.drop_drop,List.drop_eq_nil_of_le (by omega)];rfl
  obtain ⟨x,hb,hs⟩:=z2r hs
  have hl:=hs.slen x (xs:=R.bs) (enc:=zh)
  have hlt:R.at_+i<R.bs.length:=by omega
  refine z0a hs λw' hs=>?_
  refine zm ?_
  refine za hs ?_
  refine zm ?_
  refine za hs ?_
  refine z1z hs (xs:=R.bs) (enc:=zh) (R.at_+i) hlt ?_ (by rw [w64 (by omega) (by omega)];omega)
  rw [List.drop_drop,List.drop_eq_getElem_cons hlt] at hnum
  generalize R.bs[R.at_+i]=c at hnum
  have hc256:=c.toNat_lt
  refine wp_lt ?_
  refine zj ?_
  have hz:∀ {X:Option (Nat × Nat)},z40 i (c::R.bs.drop (R.at_+i+1))=X->z40 0 (R.bs.drop R.at_)=X.map (λq=>(n+128 ^ i*q.1,i+q.2)):=λ{X} h=>by rw [hnum,h]
  refine zf (λh9=>?_) λh9=>?_
  ·refine zk (zg ⟨?_,z1h R hb hs⟩)
   refine hz (X:=none) ?_
   rw [z7v]
   rw [if_pos (by right;omega)]
  refine wp_must (by rw [w64 (by omega) (by omega)];omega) ?_
  have h91:i=9->c.toNat<=1:=λe=>by
   apply Nat.le_of_not_lt
   intro h
   exact h9 ⟨by omega,by omega⟩
  rw [z04h hn (by omega) (by omega) h91]
  refine wp_lt ?_
  refine zf (λh128=>?_) λh128=>?_
  ·refine z1k (y:=((i+1:Nat):Int)) ?_ (by rw [w64 (by omega) (by omega)];omega)
   refine z0l (10-(i+1)) ?_
   have hpos:0<128 ^ i:=Nat.pow_pos (by decide)
   have hmul:128 ^ i*(c.toNat % 128)<=128 ^ i*127:=Nat.mul_le_mul_left _ (by omega)
   refine ⟨i+1,_,rfl,by omega,rfl,by rw [Nat.pow_succ];omega,?_,z1h R hb hs⟩
   rw [hnum]
   rw [z7v]
   rw [if_neg (by omega),if_pos (by omega),List.drop_drop,<- Nat.add_assoc]
   cases z40 (i+1) (R.bs.drop (R.at_+i+1)) with
   | none=>rfl
   | some q =>
    simp only [Option.map_some,Option.some.injEq,Prod.mk.injEq]
    refine ⟨?_,by omega⟩
    rw [Nat.pow_succ,Nat.mul_add,Nat.mul_assoc,Nat.add_assoc]
  refine zf (λh0=>?_) λh0=>?_
  ·refine zk (zg ⟨?_,z1h R hb hs⟩)
   refine hz (X:=none) ?_
   rw [z7v]
   rw [if_neg (by omega),if_neg (by omega),if_pos (by omega)]
  have hsome:=hz (X:=some (c.toNat,1)) (by rw [z7v,if_neg (by omega),if_neg (by omega),if_neg (by omega)])
  have e1:R.uint=(n+128 ^ i*c.toNat,⟨R.bs,R.at_+(i+1),R.e⟩):=by
   unfold RdM.uint
   rw [if_neg (by rw [he];simp),hsome];rfl
  rw [e1]
  refine zm ?_
  refine za hs ?_
  refine zm ?_
  have e2:IntKind.wrap .i64 ((R.at_:Int)+IntKind.wrap .i64 ((i:Int)+1))=((R.at_+(i+1):Nat):Int):=by rw [w64 (x:=(i:Int)+1) (by omega) (by omega),w64 (by omega) (by omega)];omega
  rw [e2]
  refine z0d hs λw' hs=>?_
  refine wp_lt ?_
  refine zk (zk ⟨rfl,?_,z1h ⟨R.bs,R.at_+(i+1),R.e⟩ ⟨by show R.at_+(i+1)<=R.bs.length;omega,hb.2⟩ hs⟩)
  rw [show c.toNat % 128=c.toNat by omega]
theorem zc9 [hf:Fo l (rdP T.a41) p R r] (hs:Sat w l):Ret P F.a159 #[.pointer (some ⟨p,0,none⟩)] w λvs w'=>vs=[.bool (decide (R.e=0))]/\Sat w' (rdP T.a41 p R::r) :=
 zmj _ <| by
  unfold zwl
  obtain ⟨x,hb,hs⟩:=z2r (hs.perm hf.perm)
  refine z0h ?_
  refine za hs ?_
  refine wp_lt ?_
  refine ⟨rfl,?_,z1h R hb hs⟩
  by_cases h:R.e=0 <;> simp [h]
theorem znw [hf:Fo l (rdP T.a41) p R r] (hs:Sat w l):Ret P F.a157 #[.pointer (some ⟨p,0,none⟩)] w λvs w'=>vs=[.int .u64 ((R.uint.1:Nat):Int)]/\Sat w' (rdP T.a41 p R.uint.2::r) :=
 zmi _ <| by
  unfold zwq
  refine zb (zc9 (p:=p) hs) λ_ _ hs=>?_
  obtain ⟨rfl,hs⟩:=hs
  refine zd ?_
  refine zf (λh=>?_) λh=>?_
  ·have h:R.e≠0:=by simpa using h
   have e1:R.uint=(0,R):=by unfold RdM.uint;rw [if_pos h]
   rw [e1]
   exact ⟨rfl,rfl,hs⟩
  ·have h:R.e=0:=by simpa using h
   refine zm ?_
   refine zb (zoi (p:=p) h hs) λ_ _ hs=>?_
   obtain ⟨rfl,hs⟩:=hs
   refine zd ?_
   refine wp_lt ?_
   exact ⟨rfl,rfl,hs⟩
theorem z02l [hf:Fo l (rdP T.a41) p R r] (hs:Sat w l):Ret P F.a153 #[.pointer (some ⟨p,0,none⟩)] w λvs w'=>vs=[.int .i64 R.e]/\Sat w' (rdP T.a41 p R::r) :=
 zm4 _ <| by
  unfold zxn
  obtain ⟨x,hb,hs⟩:=z2r (hs.perm hf.perm)
  refine z0g ?_ (by simp)
  refine zm ?_
  refine za hs ?_
  refine wp_lt ?_
  exact ⟨rfl,rfl,z1h R hb hs⟩
theorem z01r [hf:Fo l (rdP T.a41) p R r] (hs:Sat w l):Ret P F.a152 #[.pointer (some ⟨p,0,none⟩)] w λvs w'=>vs=[.int .i64 R.done.e]/\Sat w' (rdP T.a41 p R.done::r) :=
 zmx _ <| by
  unfold zwe
  refine z0g ?_ (by simp)
  refine zm ?_
  refine zb (zcl (p:=p) hs) λ_ _ hs=>?_
  obtain ⟨rfl,hs⟩:=hs
  refine zd ?_
  refine zn (λ_ w'=>Sat w' (rdP T.a41 p R.done::r)) ?_ ?_
  ·unfold RdM.done
   refine zf (λh=>?_) λh=>?_
   ·rw [if_pos (by omega)]
    refine zm ?_
    refine zb (z78 (p:=p) 6 hs) λ_ _ hs=>?_
    obtain ⟨rfl,hs⟩:=hs
    refine zd ?_
    exact zg hs
   ·rw [if_neg (by omega)]
    exact zg hs
  clear hs
  rintro _ w hs
  refine zl ?_
  obtain ⟨x,hb,hs⟩:=z2r hs
  refine zm ?_
  refine za hs ?_
  refine wp_lt ?_
  exact ⟨rfl,rfl,z1h R.done hb hs⟩
end
theorem zwy {n:Int} (h:0<=n/\n<9223372036854775808):IntKind.wrap .u64 n=((n.toNat:Nat):Int):=by
 obtain ⟨m,rfl⟩:=Int.eq_ofNat_of_zero_le h.1
 show IntKind.wrap .u64 ((m:Nat):Int)=_
 rw [z79];omega
def uI (n:Int):List UInt8:=z3i n.toNat
theorem z1a (n:Int):0<(uI n).length/\(uI n).length<=10:=z7w _
section
variable {w:World} {l r:List HP} {Q:Post} {S:World->Prop}
theorem z5a (n:Int) (hn:0<=n/\n<9223372036854775808) (hs:Sat w l):Ret P F.a161 #[.int .u64 (IntKind.wrap .u64 n)] w λvs w'=>∃ z:Sl,vs=[z.v]/\Sat w' (slc T.a39 1 z ((uI n).flatMap zh)::l):=by
 rw [zwy hn]
 exact zo9 n.toNat (by omega) hs
theorem z6l (n:Int) (hn:0<=n/\n<9223372036854775808) (hs:Sat w l):Ret P F.a115 #[.int .u64 (IntKind.wrap .u64 n)] w λvs w'=>∃ z:Sl,vs=[z.v]/\Sat w' (slc T.a39 1 z ((uI n).flatMap zh)::l):=by
 rw [zwy hn]
 exact zgw 9 n.toNat (by omega) (by omega) hs
theorem zug (x a b c:Sl) (aa bs cs:List UInt8) [hx:FocR l x 1 ([a,b,c].flatMap z0b)] [ha:FocR l a 1 (aa.flatMap zh)] [hb:FocR l b 1 (bs.flatMap zh)] [hc:FocR l c 1 (cs.flatMap zh)] (hn:aa.length+bs.length+cs.length<=1000000000) (hs:Sat w l) :
  Ret P F.a149 #[x.v] w λvs w'=>∃ z:Sl,vs=[z.v]/\Sat w' (slc T.a39 1 z ((aa++(bs++cs)).flatMap zh)::l):=by
 have:=@znh w l x [(a,aa),(b,bs),(c,cs)] hx (by
  intro p hp
  rcases List.mem_cons.1 hp with rfl|hp
  ·exact ha
  rcases List.mem_cons.1 hp with rfl|hp
  ·exact hb
  ·rw [List.mem_singleton.1 hp];exact hc) (by simp) (by simp;omega) hs
 simpa using this
theorem zw5 (x a b c d:Sl) (aa bs cs ds:List UInt8) [hx:FocR l x 1 ([a,b,c,d].flatMap z0b)] [ha:FocR l a 1 (aa.flatMap zh)] [hb:FocR l b 1 (bs.flatMap zh)] [hc:FocR l c 1 (cs.flatMap zh)] [hd:FocR l d 1 (ds.flatMap zh)]
  (hn:aa.length+bs.length+cs.length+ds.length<=1000000000) (hs:Sat w l) :
  Ret P F.a149 #[x.v] w λvs w'=>∃ z:Sl,vs=[z.v]/\Sat w' (slc T.a39 1 z ((aa++(bs++(cs++ds))).flatMap zh)::l):=by
 have:=@znh w l x [(a,aa),(b,bs),(c,cs),(d,ds)] hx (by
  intro p hp
  rcases List.mem_cons.1 hp with rfl|hp
  ·exact ha
  rcases List.mem_cons.1 hp with rfl|hp
  ·exact hb
  rcases List.mem_cons.1 hp with rfl|hp
  ·exact hc
  ·rw [List.mem_singleton.1 hp];exact hd) (by simp) (by simp;omega) hs
 simpa using this
theorem z6h {P:Program} {t:TypeId} {sz:Nat} {α:Type} {enc:α->List Value} {n:Nat} {ps:Array (Nat × Value)} {el:TypeId} {bytes:Nat} {k:Sl->Prog} (hs:Sat w l) [ht:SlT P t el sz bytes] [hE:EncN enc sz] (xs:List α)
  (h:∀ x w',Sat w' (slc el sz x (xs.flatMap enc)::l)->(k x).wp P S w' Q) (hc:z4o P t n ps=some (el,(xs.flatMap enc).toArray):=by kernel_rfl) (hn:xs.length=n:=by rfl) (hS:∀ w',S w':=by exact λ_=>trivial) :
  (Prog.act (Instr.buildSlice t n ps) sL (u1 k)).wp P S w Q:=z8r hs xs hc (λb w' hs=>h _ w' hs) (by simp) hn hS
end
def z50 (R:RdM):List UInt8:=R.bs.drop R.at_
theorem zr9 {R:RdM} (hb:R.at_<=R.bs.length) :
  (R.e=0/\R.uint.1<18446744073709551616/\R.uint.2.e=0/\R.uint.2.at_<=R.uint.2.bs.length/\R.uint.2.bs=R.bs/\z50 R=z3i R.uint.1++z50 R.uint.2) \/
  (R.uint.1=0/\R.uint.2.e≠0/\R.uint.2.at_<=R.uint.2.bs.length/\(R.e=0->∀ m z,m<18446744073709551616->z50 R≠z3i m++z)):=by
 unfold RdM.uint z50
 by_cases h0:R.e=0
 ·rw [if_neg (by rw [h0];simp)]
  cases hn:z40 0 (R.bs.drop R.at_) with
  | none =>
   refine .inr ⟨rfl,(show (6:Int)≠0 by decide),hb,λ_ m z hm he=>?_⟩
   rw [he,zho hm] at hn
   cases hn
  | some p =>
   obtain ⟨v,k⟩:=p
   obtain ⟨h1,h2⟩:=zj4 hn
   have h3:=zjn _ _ _ _ hn
   rw [List.length_drop] at h3
   refine .inl ⟨h0,h2,h0,by show R.at_+k<=R.bs.length;omega,rfl,?_⟩
   show R.bs.drop R.at_=z3i v++R.bs.drop (R.at_+k)
   rw [<- h1,<- List.drop_drop,List.take_append_drop]
 ·rw [if_pos h0]
  exact .inr ⟨rfl,h0,hb,λh=>absurd h h0⟩
theorem zk3 {R:RdM}:(z50 R).length=R.bs.length-R.at_:=by unfold z50;rw [List.length_drop]
theorem z5v {w:World} {l:List HP} {T':TypeId} {p:Nat} {R:RdM} (hs:Sat w (rdP T' p R::l)):R.at_<=R.bs.length/\R.bs.length<=1000000000:=by
 obtain ⟨x,h,-⟩:=z2r hs
 exact h
theorem zrp {R:RdM} (hb:R.at_<=R.bs.length):R.done.e=0↔R.e=0/\z50 R=[]:=by
 have hl:=zk3 (R:=R)
 unfold RdM.done RdM.fail
 by_cases h:R.at_<R.bs.length
 ·rw [if_pos h]
  constructor
  ·intro h2
   by_cases h3:R.e=0
   ·simp [h3] at h2
   ·simp [h3] at h2
  ·rintro ⟨-,h2⟩
   rw [h2] at hl;simp at hl;omega
 ·rw [if_neg h]
  exact ⟨λh2=>⟨h2,List.length_eq_zero_iff.1 (by omega)⟩,λh2=>h2.1⟩
def zig (n:Int):Nat:=if 0<=n then (2*n).toNat else (-2*n-1).toNat
def zag (m:Nat):Int:=if m % 2=1 then -((m / 2:Nat):Int)-1 else ((m / 2:Nat):Int)
def z3h (n:Int):List UInt8:=z3i (zig n)
theorem zza (n:Int):zag (zig n)=n:=by
 unfold zag zig
 split <;> split <;> omega
theorem zyr (m:Nat):zig (zag m)=m:=by
 unfold zag zig
 split <;> split <;> omega
theorem zjb {n:Int} (h : -9223372036854775808<=n/\n<9223372036854775808):zig n<18446744073709551616:=by
 unfold zig
 split <;> omega
theorem zcx (n:Int):0<(z3h n).length/\(z3h n).length<=10:=z7w _
theorem xor_zero (x:BitVec 64):x ^^^ BitVec.ofInt 64 0=x:=by
 have:BitVec.ofInt 64 0=0#64:=by decide
 rw [this,BitVec.xor_zero]
theorem zk9 (x:BitVec 64) {n:Int} (hn:BitVec.ofInt 64 n=BitVec.allOnes 64):(x ^^^ BitVec.ofInt 64 n).toNat=18446744073709551615-x.toNat:=by
 rw [hn,BitVec.xor_allOnes,BitVec.toNat_not]
theorem toNat_ofInt (n:Int):(BitVec.ofInt 64 n).toNat=(n % 18446744073709551616).toNat:=by rw [BitVec.toNat_ofInt];rfl
theorem z47 (n:Int):IntKind.wrap .u64 n=n % 18446744073709551616:=by simp [IntKind.wrap,IntKind.bits,IntKind.signed]
theorem z01a {n:Int} (h : -9223372036854775808<=n/\n<9223372036854775808):Int.fdiv n 9223372036854775808=if 0<=n then 0 else -1:=by
 rw [Int.fdiv_eq_ediv_of_nonneg _ (by omega)]
 split <;> omega
theorem zuu {n:Int} (h : -9223372036854775808<=n/\n<9223372036854775808) :
  (BitVec.toNat (BitVec.ofInt 64 (IntKind.wrap .u64 (IntKind.wrap .u64 n*2)) ^^^ BitVec.ofInt 64 (IntKind.wrap .u64 (Int.fdiv n 9223372036854775808))))=zig n:=by
 rw [z01a h,z47,z47]
 unfold zig
 by_cases h0:0<=n
 ·rw [if_pos h0,if_pos h0,z47,Int.zero_emod,xor_zero,toNat_ofInt];omega
 ·rw [if_neg h0,if_neg h0,zk9 _ (by rw [z47];decide),toNat_ofInt];omega
theorem zvp {m:Nat} (h:m<18446744073709551616) :
  IntKind.wrap .i64 (((BitVec.toNat (BitVec.ofInt 64 (IntKind.wrap .i64 (Int.fdiv (m:Int) 2)) ^^^ BitVec.ofInt 64 (IntKind.wrap .i64 (0-IntKind.wrap .i64 (IntKind.wrap .u64 (((BitVec.toNat (BitVec.ofInt 64 (m:Int) &&& BitVec.ofInt 64 1):Nat):Int)))))):Nat):Int))=zag m:=by
 have e1:(BitVec.toNat (BitVec.ofInt 64 (m:Int) &&& BitVec.ofInt 64 1))=m % 2:=by
  rw [BitVec.toNat_and,toNat_ofInt,toNat_ofInt]
  have h1:((m:Int) % 18446744073709551616).toNat=m:=by omega
  have h2:((1:Int) % 18446744073709551616).toNat=1:=by decide
  rw [h1,h2,Nat.and_one_is_mod]
 have e2:Int.fdiv (m:Int) 2=((m / 2:Nat):Int):=by rw [Int.fdiv_eq_ediv_of_nonneg _ (by omega)];omega
 rw [e1,e2,z47,w64 (x:=((m / 2:Nat):Int)) (by omega) (by omega)]
 unfold zag
 by_cases h0:m % 2=1
 ·rw [if_pos h0,h0]
  have e3:IntKind.wrap .i64 (0-IntKind.wrap .i64 ((((1:Nat):Int)) % 18446744073709551616)) = -1:=by decide
  rw [e3,zk9 _ (by decide),toNat_ofInt]
  have e4:((((m / 2:Nat):Int)) % 18446744073709551616).toNat=m / 2:=by omega
  rw [e4]
  have e5:IntKind.wrap .i64 ((18446744073709551615-m / 2:Nat):Int) = -((m / 2:Nat):Int)-1:=by
   rw [zok];split <;> omega
  exact e5
 ·rw [if_neg h0]
  have h2:m % 2=0:=by omega
  rw [h2]
  have e3:IntKind.wrap .i64 (0-IntKind.wrap .i64 ((((0:Nat):Int)) % 18446744073709551616))=0:=by decide
  rw [e3,xor_zero,toNat_ofInt]
  have e4:((((m / 2:Nat):Int)) % 18446744073709551616).toNat=m / 2:=by omega
  rw [e4,w64 (by omega) (by omega)]
def RdM.within (R:RdM) (lo hi:Int):Int × RdM :=
 if R.uint.2.e≠0 then (0,R.uint.2) else if zag R.uint.1<lo\/zag R.uint.1>hi then (0,⟨R.bs,R.at_,8⟩) else (zag R.uint.1,R.uint.2)
theorem zjv {R:RdM} (h:R.e≠0):R.uint=(0,R):=by unfold RdM.uint;rw [if_pos h]
section
variable {w:World} {l r:List HP} {p:Nat} {R:RdM}
theorem zym (n:Int) (hn : -9223372036854775808<=n/\n<9223372036854775808) (hs:Sat w l):Ret P F.a148 #[.int .i64 n] w λvs w'=>∃ z:Sl,vs=[z.v]/\Sat w' (slc T.a39 1 z ((z3h n).flatMap zh)::l) :=
 zln n <| by
  unfold zx2 z3h
  have hz:=zjb hn
  rw [zuu hn]
  generalize zig n=m at hz ⊢
  rw [z79,Nat.mod_eq_of_lt hz]
  refine zb (zo9 m hz hs) λ_ _ hs=>?_
  obtain ⟨z,rfl,hs⟩:=hs
  refine zd ?_
  exact ⟨rfl,z,rfl,hs⟩
theorem zzg (n:Int) (hn : -9223372036854775808<=n/\n<9223372036854775808) (hs:Sat w l):Ret P F.a113 #[.int .i64 n] w λvs w'=>∃ z:Sl,vs=[z.v]/\Sat w' (slc T.a39 1 z ((z3h n).flatMap zh)::l) :=
 zn2 n <| by
  unfold zxz
  have hz:=zjb hn
  refine zf (λh=>?_) λh=>?_
  ·have e:IntKind.wrap .u64 (2*IntKind.wrap .u64 n)=((zig n:Nat):Int):=by
    rw [z47,z47];unfold zig;rw [if_pos (by omega)];omega
   rw [e]
   refine zb (zgw 9 (zig n) (by omega) hz hs) λ_ _ hs=>?_
   obtain ⟨z,rfl,hs⟩:=hs
   refine zd ?_
   exact ⟨rfl,z,rfl,hs⟩
  ·have e:IntKind.wrap .u64 (IntKind.wrap .u64 (2*IntKind.wrap .u64 (IntKind.wrap .i64 (0-IntKind.wrap .i64 (n+1))))+1)=((zig n:Nat):Int):=by
    rw [w64 (x:=n+1) (by omega) (by omega),w64 (by omega) (by omega),z47,z47,z47];unfold zig;rw [if_neg (by omega)];omega
   rw [e]
   refine zb (zgw 9 (zig n) (by omega) hz hs) λ_ _ hs=>?_
   obtain ⟨z,rfl,hs⟩:=hs
   refine zd ?_
   exact ⟨rfl,z,rfl,hs⟩
theorem z01t [hf:Fo l (rdP T.a41) p R r] (hs:Sat w l):Ret P F.a155 #[.pointer (some ⟨p,0,none⟩)] w λvs w'=>vs=[.int .i64 (zag R.uint.1)]/\Sat w' (rdP T.a41 p R.uint.2::r) :=
 zmr _ <| by
  unfold zwi
  have hb:=(z5v (hs.perm hf.perm)).1
  have hlt:R.uint.1<18446744073709551616:=by rcases zr9 hb with h|h <;> omega
  refine zb (znw (p:=p) hs) λ_ _ hs=>?_
  obtain ⟨rfl,hs⟩:=hs
  refine zd ?_
  refine wp_lt ?_
  rw [zvp hlt]
  refine wp_lt ?_
  exact ⟨rfl,rfl,hs⟩
theorem zsa (lo hi:Int) [hf:Fo l (rdP T.a41) p R r] (hs:Sat w l):Ret P F.a158 #[.pointer (some ⟨p,0,none⟩),.int .i64 lo,.int .i64 hi] w λvs w'=>vs=[.int .i64 (R.within lo hi).1]/\Sat w' (rdP T.a41 p (R.within lo hi).2::r) :=
 zld _ lo hi <| by
  unfold zwb
  have hb0:=z5v (hs.perm hf.perm)
  refine zb (zc9 (p:=p) hs) λ_ _ hs=>?_
  obtain ⟨rfl,hs⟩:=hs
  refine zd ?_
  refine zf (λh=>?_) λh=>?_
  ·have h:R.e≠0:=by simpa using h
   unfold RdM.within
   rw [zjv h,if_pos h]
   exact ⟨rfl,rfl,hs⟩
  have h:R.e=0:=by simpa using h
  obtain ⟨x,hb,hs⟩:=z2r hs
  refine zm ?_
  refine za hs ?_
  refine wp_lt ?_
  have hs:Sat _ (rdP T.a41 p R::r):=z1h R hb hs
  refine zb (z01t (p:=p) hs) λ_ _ hs=>?_
  obtain ⟨rfl,hs⟩:=hs
  refine zd ?_
  refine wp_lt ?_
  have hbs:=zom R
  unfold RdM.within
  have hb2:=z5v hs
  generalize R.uint.1=m at *
  generalize R.uint.2=R1 at *
  obtain ⟨x,-,hs⟩:=z2r hs
  refine zm ?_
  refine za hs ?_
  refine zn (λ_ w'=>Sat w' (rdP T.a41 p (if R1.e≠0 then R1 else if zag m<lo\/zag m>hi then ⟨R.bs,R.at_,8⟩ else R1)::r)) ?_ ?_
  ·refine zf (λh2=>?_) λh2=>?_
   ·obtain ⟨h3,h4⟩:=h2
    have e:(if R1.e≠0 then R1 else if zag m<lo\/zag m>hi then (⟨R.bs,R.at_,8⟩:RdM) else R1)=⟨R.bs,R.at_,8⟩:=by rw [if_neg (by rw [h3];simp),if_pos h4]
    refine zm ?_
    refine z0d hs λw' hs=>?_
    refine zm ?_
    have hs:Sat w' (rdP T.a41 p ⟨R.bs,R.at_,0⟩::r):=z1h (x:=x) ⟨R.bs,R.at_,0⟩ hb0 (by rw [hbs,h3] at hs;exact hs)
    refine zb (z78 (p:=p) 8 hs) λ_ w' hs=>?_
    obtain ⟨rfl,hs⟩:=hs
    refine zd ?_
    refine zg ?_
    rw [e]
    exact hs
   ·refine zg ?_
    have e:(if R1.e≠0 then R1 else if zag m<lo\/zag m>hi then (⟨R.bs,R.at_,8⟩:RdM) else R1)=R1:=by
     by_cases h3:R1.e=0
     ·rw [if_neg (by rw [h3];simp),if_neg (λh4=>h2 ⟨h3,h4⟩)]
     ·rw [if_pos h3]
    rw [e]
    exact z1h R1 hb2 hs
  clear hs
  rintro _ w hs
  refine zl ?_
  by_cases h3:R1.e=0
  ·rw [if_neg (by rw [h3];simp)] at hs ⊢
   by_cases h4:zag m<lo\/zag m>hi
   ·rw [if_pos h4] at hs ⊢
    obtain ⟨x,-,hs⟩:=z2r hs
    refine zm ?_
    refine za hs ?_
    refine z1b ?_ (by simp)
    exact ⟨rfl,rfl,z1h ⟨R.bs,R.at_,8⟩ hb0 hs⟩
   ·rw [if_neg h4] at hs ⊢
    obtain ⟨x,-,hs⟩:=z2r hs
    refine zm ?_
    refine za hs ?_
    refine z0g ?_ (by rw [h3];simp)
    refine wp_lt ?_
    exact ⟨rfl,rfl,z1h R1 hb2 hs⟩
  ·rw [if_pos h3] at hs ⊢
   obtain ⟨x,-,hs⟩:=z2r hs
   refine zm ?_
   refine za hs ?_
   refine z1b ?_ h3
   exact ⟨rfl,rfl,z1h R1 hb2 hs⟩
end
abbrev Lf:=Option (List UInt8)
def z0t:Lf->Nat × Lf
 | none=>(0,none)
 | some bs=>match z40 0 bs with
  | none=>(0,none)
  | some p=>(p.1,some (bs.drop p.2))
def z1v (lo hi:Int) (s:Lf):Int × Lf:=match (z0t s).2 with
 | none=>(0,none)
 | some t=>if zag (z0t s).1<lo\/zag (z0t s).1>hi then (0,none) else (zag (z0t s).1,some t)
def z14:Lf->Nat × Lf
 | some (c::t)=>(c.toNat,some t)
 | _=>(0,none)
def z4y:Lf->Bool × Lf
 | some (c::t)=>if c.toNat<=1 then (decide (c.toNat=1),some t) else (false,none)
 | _=>(false,none)
def z1q (most:Nat) (s:Lf):ByteArray × Lf:=match (z0t s).2 with
 | none=>(⟨#[]⟩,none)
 | some t=>if (z0t s).1<=most/\(z0t s).1<=t.length then (⟨(t.take (z0t s).1).toArray⟩,some (t.drop (z0t s).1)) else (⟨#[]⟩,none)
def z0c (most:Int) (s:Lf):Int × Lf:=(if ((z0t s).1:Int)>most then most+1 else (z0t s).1,(z0t s).2)
abbrev bl (s:ByteArray):List UInt8:=s.data.toList
theorem z7a {v:Nat} (h:v<18446744073709551616) (t:List UInt8):z0t (some (z3i v++t))=(v,some t):=by
 unfold z0t
 simp only [zho h,List.drop_left]
theorem z6z {s:Lf} {t:List UInt8} (h:(z0t s).2=some t):(z0t s).1<18446744073709551616/\s=some (z3i (z0t s).1++t):=by
 cases s with
 | none=>cases h
 | some bs =>
  cases hn:z40 0 bs with
  | none =>
   have e:z0t (some bs)=(0,none):=by unfold z0t;simp only [hn]
   rw [e] at h;cases h
  | some p =>
   obtain ⟨v,k⟩:=p
   have e:z0t (some bs)=(v,some (bs.drop k)):=by unfold z0t;simp only [hn]
   rw [e] at h ⊢
   obtain ⟨h1,h2⟩:=zj4 hn
   simp only [Option.some.injEq] at h ⊢
   subst h
   exact ⟨h2,by rw [<- h1,List.take_append_drop]⟩
theorem zkj {lo hi n:Int} (h1:lo<=n) (h2:n<=hi) (hn : -9223372036854775808<=n/\n<9223372036854775808) (t:List UInt8):z1v lo hi (some (z3h n++t))=(n,some t):=by
 unfold z1v z3h
 simp only [z7a (zjb hn),zza]
 rw [if_neg (by omega)]
theorem zl8 {lo hi:Int} {s:Lf} {t:List UInt8} (h:(z1v lo hi s).2=some t):(lo<=(z1v lo hi s).1/\(z1v lo hi s).1<=hi)/\s=some (z3h (z1v lo hi s).1++t):=by
 unfold z1v at h ⊢
 cases hu:(z0t s).2 with
 | none=>rw [hu] at h;cases h
 | some t' =>
  have h2:=z6z hu
  rw [hu] at h
  simp only at h ⊢
  split at h
  ·cases h
  rename_i h3
  simp only [Option.some.injEq] at h
  subst h
  rw [if_neg h3]
  refine ⟨by omega,?_⟩
  unfold z3h
  rw [zyr]
  exact h2.2
theorem zbt {s:Lf} {t:List UInt8} (h:(z14 s).2=some t):(z14 s).1<256/\s=some (UInt8.ofNat (z14 s).1::t):=by
 match s,h with
 | some (c::r),h =>
  have h:some r=some t:=h
  cases h
  refine ⟨c.toNat_lt,?_⟩
  show some (c::t)=some (UInt8.ofNat c.toNat::t)
  rw [UInt8.ofNat_toNat]
 | some [],h=>cases h
 | none,h=>cases h
def z54 (b:Bool):UInt8:=if b then 1 else 0
theorem zrc (b:Bool) (t:List UInt8):z4y (some (z54 b::t))=(b,some t):=by
 cases b <;> rfl
theorem ztx {s:Lf} {t:List UInt8} (h:(z4y s).2=some t):s=some (z54 (z4y s).1::t):=by
 match s,h with
 | some (c::r),h =>
  unfold z4y at h ⊢
  simp only at h ⊢
  split at h
  ·rename_i h1
   simp only [Option.some.injEq] at h
   subst h
   rw [if_pos h1]
   congr 2
   by_cases h2:c.toNat=1
   ·rw [decide_eq_true h2];exact UInt8.toNat_inj.1 h2
   ·rw [decide_eq_false h2];exact UInt8.toNat_inj.1 (by show c.toNat=0;omega)
  ·cases h
 | some [],h=>cases h
 | none,h=>cases h
theorem z0z (s:ByteArray):(bl s).length=s.size:=rfl
theorem zfh (l:List UInt8):bl ⟨l.toArray⟩=l:=by simp [bl]
theorem zcf {a b:ByteArray} (h:bl a=bl b):a=b:=by
 cases a;cases b;exact congrArg ByteArray.mk (Array.ext' h)
theorem zfd {most:Nat} (x:ByteArray) (h:x.size<=most) (hm:most<4294967296) (t:List UInt8):z1q most (some (uI x.size++(bl x++t)))=(x,some t):=by
 unfold z1q uI
 have e:((x.size:Int)).toNat=x.size:=by omega
 rw [e]
 simp only [z7a (show x.size<18446744073709551616 by omega)]
 rw [if_pos ⟨h,by rw [List.length_append,z0z];omega⟩,<- z0z,List.take_left,List.drop_left]
theorem zif {most:Nat} {s:Lf} {t:List UInt8} (h:(z1q most s).2=some t):(z1q most s).1.size<=most/\s=some (uI (z1q most s).1.size++(bl (z1q most s).1++t)):=by
 unfold z1q at h ⊢
 cases hu:(z0t s).2 with
 | none=>rw [hu] at h;cases h
 | some t' =>
  have h2:=z6z hu
  rw [hu] at h
  simp only at h ⊢
  split at h
  rotate_left
  ·cases h
  rename_i h3
  simp only [Option.some.injEq] at h
  subst h
  rw [if_pos h3]
  have e:(ByteArray.mk (t'.take (z0t s).1).toArray).size=(z0t s).1:=by
   show (t'.take (z0t s).1).length=_
   rw [List.length_take];omega
  refine ⟨by rw [e];exact h3.1,?_⟩
  rw [e,zfh,List.take_append_drop]
  unfold uI
  exact h2.2
theorem z5h {most n:Int} (h0:0<=n) (hn:n<=most) (hm:most<9223372036854775808) (t:List UInt8):z0c most (some (uI n++t))=(n,some t):=by
 unfold z0c uI
 rw [z7a (by omega),if_neg (by simp only;omega)]
 congr 1
 simp only;omega
theorem z60 {most:Int} (hm:0<=most) {s:Lf} {t:List UInt8} (h:(z0c most s).2=some t):(0<=(z0c most s).1/\(z0c most s).1<=most+1)/\((z0c most s).1<=most->s=some (uI (z0c most s).1++t)):=by
 have h2:=z6z (show (z0t s).2=some t from h)
 unfold z0c
 simp only
 split
 ·exact ⟨⟨by omega,by omega⟩,λh3=>absurd h3 (by omega)⟩
 ·refine ⟨⟨by omega,by omega⟩,λh3=>?_⟩
  unfold uI
  rw [Int.toNat_natCast]
  exact h2.2
def z04:List UInt8->List UInt8->Nat
 | a::x,b::y=>if a=b then z04 x y+1 else 0
 | _,_=>0
theorem z7y:∀ x y:List UInt8,z04 x y<=x.length/\z04 x y<=y.length
 | [],_=>by simp [z04]
 | _::_,[]=>by simp [z04]
 | a::x,b::y=>by
  have:=z7y x y
  unfold z04
  split <;> simp <;> omega
theorem z9u:∀ x y:List UInt8,x.take (z04 x y)=y.take (z04 x y)
 | [],_=>by simp [z04]
 | _::_,[]=>by simp [z04]
 | a::x,b::y=>by
  unfold z04
  split
  ·rename_i h
   rw [List.take_succ_cons,List.take_succ_cons,h,z9u x y]
  ·rfl
theorem zco:∀ {x y:List UInt8} {i:Nat} (h1:i<=x.length) (h2:i<=y.length),x.take i=y.take i->(i=x.length\/i=y.length\/x[i]? ≠ y[i]?)->z04 x y=i
 | [],y,i,h1,h2,_,_=>by simp at h1;simp [z04,h1]
 | _::_,[],i,h1,h2,_,_=>by simp at h2;simp [z04,h2]
 | a::x,b::y,0,_,_,_,h=>by
  unfold z04
  rw [if_neg]
  rintro rfl
  rcases h with h|h|h
  ·simp at h
  ·simp at h
  ·simp at h
 | a::x,b::y,i+1,h1,h2,ht,h=>by
  rw [List.take_succ_cons,List.take_succ_cons,List.cons.injEq] at ht
  unfold z04
  rw [if_pos ht.1,zco (by simpa using h1) (by simpa using h2) ht.2]
  rcases h with h|h|h
  ·left;simpa using h
  ·right;left;simpa using h
  ·right;right;simpa using h
def z4h (ahead key:ByteArray):List UInt8:=uI (key.size-z04 (bl ahead) (bl key):Nat)++(bl key).drop (z04 (bl ahead) (bl key))
def z4j (time:Int) (ahead:ByteArray) (r:RecM):List UInt8 :=
 z3h (r.time-time)++(z54 r.gone::(uI (z04 (bl ahead) (bl r.key):Nat)++(z4h ahead r.key++if r.gone then [] else uI r.value.size++bl r.value)))
def z2g (time:Int):ByteArray->List RecM->List UInt8
 | _,[]=>[]
 | ahead,r::rs=>z4j time ahead r++z2g time r.key rs
def z2e (b:BatM):List UInt8 :=
 1::UInt8.ofNat b.kind.toNat::(uI b.base++(uI b.pid++((if b.pid>0 then uI b.epoch++(if z0x b then [] else uI b.seq) else [])++(uI b.time++if z0x b then [] else uI b.rs.length++z2g b.time ⟨#[]⟩ b.rs))))
def BatM.p (b:BatM):BatM:={ b with x:=⟨none,0,0⟩ }
def z59 (ahead:ByteArray) (n:Int) (rest:ByteArray):ByteArray:=ahead.extract 0 n.toNat++rest
def z3s (time:Int) (ahead:ByteArray) (s:Lf):Option RecM × Lf :=
 if (z0c 1024 (z4y (z1v (-1099511627776) 1099511627776 s).2).2).1>ahead.size then (none,(z1q 1024 (z0c 1024 (z4y (z1v (-1099511627776) 1099511627776 s).2).2).2).2) else
 let a:=z1v (-1099511627776) 1099511627776 s
 let b:=z4y a.2
 let c:=z0c 1024 b.2
 let d:=z1q 1024 c.2
 let e:=if b.1 then (⟨#[]⟩,d.2) else z1q 1024 d.2
 if e.2.isSome=true/\(z04 (bl ahead) (bl (z59 ahead c.1 d.1)):Int)=c.1 then (some ⟨z59 ahead c.1 d.1,e.1,b.1,time+a.1⟩,e.2) else (none,e.2)
def z4r (time:Int):Nat->ByteArray->Lf->Option (List RecM × Lf)
 | 0,_,s=>some ([],s)
 | n+1,ahead,s=>match (z3s time ahead s).1 with
  | none=>none
  | some x=>(z4r time n x.key (z3s time ahead s).2).map λq=>(x::q.1,q.2)
theorem zo1 (ahead rest:ByteArray) (n:Int):bl (z59 ahead n rest)=(bl ahead).take n.toNat++bl rest:=by
 unfold z59 bl
 simp [List.extract_eq_take_drop]
theorem zt8 (ahead key:ByteArray):z59 ahead (z04 (bl ahead) (bl key):Nat) ⟨((bl key).drop (z04 (bl ahead) (bl key))).toArray⟩=key:=by
 apply zcf
 rw [zo1,zfh,Int.toNat_natCast,z9u,List.take_append_drop]
theorem z3p {r:RecM} (h:z2c r=0):r.key.size<=1024/\r.value.size<=1024/\(0<=r.time/\r.time<=1099511627776)/\(r.gone=true->r.value=⟨#[]⟩):=by
 unfold z2c at h
 split at h
 ·cases h
 rename_i h1
 split at h
 ·cases h
 rename_i h2
 refine ⟨by omega,by omega,by omega,λhg=>?_⟩
 apply Decidable.byContradiction
 intro h3
 exact h2 (.inr ⟨hg,zkf.2 h3⟩)
theorem zr0 {time:Int} (ht:0<=time/\time<=1099511627776) {r:RecM} (hr:z2c r=0) (ahead:ByteArray) (t:List UInt8):z3s time ahead (some (z4j time ahead r++t))=(some r,some t):=by
 obtain ⟨h1,h2,h3,h4⟩:=z3p hr
 have hle:=z7y (bl ahead) (bl r.key)
 rw [z0z,z0z] at hle
 have hd:(ByteArray.mk ((bl r.key).drop (z04 (bl ahead) (bl r.key))).toArray).size=r.key.size-z04 (bl ahead) (bl r.key):=by
  show ((bl r.key).drop _).length=_
  rw [List.length_drop,z0z]
 have e0:z4j time ahead r++t=z3h (r.time-time)++(z54 r.gone::(uI (z04 (bl ahead) (bl r.key):Nat)++(uI ((ByteArray.mk ((bl r.key).drop (z04 (bl ahead) (bl r.key))).toArray).size:Nat)++(bl (ByteArray.mk ((bl r.key).drop (z04 (bl ahead) (bl r.key))).toArray)++((if r.gone then [] else uI r.value.size++bl r.value)++t))))):=by
  rw [hd,zfh]
  unfold z4j z4h
  simp only [List.append_assoc,List.cons_append]
 rw [e0]
 generalize hZ:(if r.gone then [] else uI r.value.size++bl r.value)++t=Z
 have e1:=zkj (lo := -1099511627776) (hi:=1099511627776) (n:=r.time-time) (by omega) (by omega) (by omega)
 have e3:=z5h (most:=1024) (n:=(z04 (bl ahead) (bl r.key):Nat)) (by omega) (by omega) (by omega)
 have e4:=zfd (most:=1024) (ByteArray.mk ((bl r.key).drop (z04 (bl ahead) (bl r.key))).toArray) (by rw [hd];omega) (by omega)
 unfold z3s
 simp only [e1,zrc,e3,e4,zt8]
 rw [if_neg (by omega)]
 have e5:(if r.gone=true then ((⟨#[]⟩:ByteArray),some Z) else z1q 1024 (some Z))=(r.value,some t):=by
  by_cases hg:r.gone=true
  ·rw [if_pos hg] at hZ ⊢
   rw [h4 hg,<- hZ];rfl
  ·rw [if_neg hg] at hZ ⊢
   rw [<- hZ,List.append_assoc]
   exact zfd _ h2 (by omega) t
 rw [e5]
 simp only [Option.isSome_some,true_and]
 rw [if_pos trivial,show time+(r.time-time)=r.time by omega]
theorem ztt {time:Int} {ahead:ByteArray} (hah:ahead.size<=1024) {s:Lf} {r:RecM} (h:(z3s time ahead s).1=some r):∃ t,(z3s time ahead s).2=some t/\s=some (z4j time ahead r++t):=by
 unfold z3s at h ⊢
 split at h
 ·cases h
 rename_i hc
 rw [if_neg hc]
 simp only at h ⊢
 generalize ha:z1v (-1099511627776) 1099511627776 s=a at *
 generalize hb:z4y a.2=b at *
 generalize hcc:z0c 1024 b.2=c at *
 generalize hd:z1q 1024 c.2=d at *
 generalize he:(if b.1=true then ((⟨#[]⟩:ByteArray),d.2) else z1q 1024 d.2)=e at *
 split at h
 rotate_left
 ·cases h
 rename_i h5
 rw [if_pos h5]
 obtain ⟨h5,h6⟩:=h5
 obtain ⟨t,ht⟩:=Option.isSome_iff_exists.1 h5
 refine ⟨t,ht,?_⟩
 simp only [Option.some.injEq] at h
 have hd2:d.2=some ((if b.1=true then [] else uI e.1.size++bl e.1)++t):=by
  by_cases hg:b.1=true
  ·rw [if_pos hg] at he ⊢
   rw [<- he] at ht
   exact ht
  ·rw [if_neg hg] at he ⊢
   rw [<- he] at ht ⊢
   rw [List.append_assoc]
   exact (zif ht).2
 rw [<- hd] at hd2
 have h7:=zif hd2
 rw [hd] at h7
 have hc2:c.2=_:=h7.2
 rw [<- hcc] at hc2
 have h8:=z60 (by omega) hc2
 rw [hcc] at h8
 have hle:=z7y (bl ahead) (bl (z59 ahead c.1 d.1))
 have hb2:=h8.2 (by omega)
 rw [<- hb] at hb2
 have ha2:=ztx hb2
 rw [hb,<- ha] at ha2
 have h9:=zl8 ha2
 rw [ha] at h9
 rw [h9.2,<- h]
 unfold z4j z4h
 simp only
 have hn:c.1.toNat=z04 (bl ahead) (bl (z59 ahead c.1 d.1)):=by omega
 have hl1:((bl ahead).take c.1.toNat).length=c.1.toNat:=by rw [List.length_take,hn];omega
 have hdrop:(bl (z59 ahead c.1 d.1)).drop c.1.toNat=bl d.1:=by
  rw [zo1]
  exact List.drop_left' hl1
 have hsz:(z59 ahead c.1 d.1).size-c.1.toNat=d.1.size:=by
  rw [<- z0z,<- z0z,<- hdrop,List.length_drop]
 rw [<- hn,hdrop,hsz,show time+a.1-time=a.1 by omega,show ((c.1.toNat:Nat):Int)=c.1 by omega]
 simp only [List.append_assoc,List.cons_append]
theorem zg7 {time:Int} (ht:0<=time/\time<=1099511627776):∀ {rs:List RecM} (hr:∀ r ∈ rs,z2c r=0) (ahead:ByteArray) (t:List UInt8),z4r time rs.length ahead (some (z2g time ahead rs++t))=some (rs,some t)
 | [],_,_,_=>rfl
 | r::rs,hr,ahead,t=>by
  have e:=zr0 ht (hr r (List.mem_cons_self ..)) ahead (z2g time r.key rs++t)
  show z4r time (rs.length+1) ahead (some ((z4j time ahead r++z2g time r.key rs)++t))=_
  rw [List.append_assoc]
  unfold z4r
  rw [e]
  simp only
  rw [zg7 ht (λx hx=>hr x (List.mem_cons_of_mem _ hx)) r.key t]
  rfl
theorem zhx {time:Int}:∀ {n:Nat} {ahead:ByteArray} (hah:ahead.size<=1024) {s:Lf} {rs:List RecM} {t:List UInt8} (hk:∀ r ∈ rs,r.key.size<=1024) (h:z4r time n ahead s=some (rs,some t)),rs.length=n/\s=some (z2g time ahead rs++t)
 | 0,ahead,hah,s,rs,t,hk,h=>by
  simp only [z4r,Option.some.injEq,Prod.mk.injEq] at h
  obtain ⟨rfl,rfl⟩:=h
  exact ⟨rfl,rfl⟩
 | n+1,ahead,hah,s,rs,t,hk,h=>by
  unfold z4r at h
  cases hx:(z3s time ahead s).1 with
  | none=>rw [hx] at h;cases h
  | some x =>
   rw [hx] at h
   simp only [Option.map_eq_some_iff,Prod.mk.injEq] at h
   obtain ⟨⟨rs',s'⟩,h1,rfl,rfl⟩:=h
   obtain ⟨t1,h2,h3⟩:=ztt hah hx
   rw [h2] at h1
   have hk1:x.key.size<=1024:=hk x (List.mem_cons_self ..)
   obtain ⟨h4,h5⟩:=zhx hk1 (λr hr=>hk r (List.mem_cons_of_mem _ hr)) h1
   simp only [Option.some.injEq] at h5
   refine ⟨by rw [List.length_cons,h4],?_⟩
   rw [h3,h5]
   show some (z4j time ahead x++(z2g time x.key rs'++t))=some ((z4j time ahead x++z2g time x.key rs')++t)
   rw [List.append_assoc]
def z6v:Sl:=⟨none,0,0⟩
structure HdS where
 k:Nat × Lf
 ba:Int × Lf
 pi:Int × Lf
 ep:Int × Lf
 sq:Int × Lf
 tm:Int × Lf
def z3m (k:Nat):Bool:=decide ((k:Int)=2) || decide ((k:Int)=3)
def hdS (s:Lf):HdS :=
 let k:=z14 s
 let ba:=z0c 1099511627776 k.2
 let pi:=z0c 1048576 ba.2
 let ep:=if pi.1>0 then z0c 32767 pi.2 else (0,pi.2)
 let sq:=if pi.1>0/\z3m k.1=false then z0c 2147483647 ep.2 else (0,ep.2)
 ⟨k,ba,pi,ep,sq,z0c 1099511627776 sq.2⟩
def HdS.b (h:HdS) (rs:List RecM):BatM:=⟨h.ba.1,h.pi.1,h.ep.1,h.sq.1,h.k.1,h.tm.1,z6v,rs⟩
def zkg (h:HdS):Option BatM :=
 if h.tm.2.isSome=false\/h.tm.1>1099511627776 then none else
 if z3m h.k.1=true then (if h.tm.2=some []/\z01 (h.b [])=0 then some (h.b []) else none) else
 if (z0c 64 h.tm.2).1>64 then none else
 match z4r h.tm.1 (z0c 64 h.tm.2).1.toNat ⟨#[]⟩ (z0c 64 h.tm.2).2 with
 | none=>none
 | some q=>if q.2=some []/\z01 (h.b q.1)=0 then some (h.b q.1) else none
def z6b (raw:List UInt8):Option BatM:=if (z14 (some raw)).1≠1 then none else zkg (hdS (z14 (some raw)).2)
theorem zj5:∀ {rs:List RecM},z5i rs=0->∀ r ∈ rs,z2c r=0
 | [],_,r,h=>by cases h
 | x::rs,h,r,hr=>by
  have h:(if z2c x≠0 then z2c x else z5i rs)=0:=h
  by_cases hx:z2c x≠0
  ·rw [if_pos hx] at h;exact absurd h hx
  rw [if_neg hx] at h
  rcases List.mem_cons.1 hr with rfl|hr
  ·exact Decidable.not_not.1 hx
  ·exact zj5 h r hr
theorem z24 {b:BatM} (hv:z01 b=0):b.rs.length<=64/\∀ r ∈ b.rs,z2c r=0:=by
 unfold z01 at hv
 split at hv
 ·cases hv
 split at hv
 ·cases hv
 rename_i h2
 split at hv
 ·rename_i h3;exact absurd hv h3
 rename_i h3
 exact ⟨by omega,zj5 (Decidable.not_not.1 h3)⟩
theorem znk {b:BatM} (h:0<=b.kind):z3m b.kind.toNat=z0x b:=by
 unfold z3m z0x
 rw [Int.toNat_of_nonneg h]
theorem zw8 {b:BatM} (hv:z01 b=0):∃ s1 s2 s3 s4 s5,hdS (z14 (some (z2e b))).2=⟨(b.kind.toNat,s1),(b.base,s2),(b.pid,s3),(b.epoch,s4),(b.seq,s5),(b.time,some (if z0x b then [] else uI b.rs.length++z2g b.time ⟨#[]⟩ b.rs))⟩:=by
 obtain ⟨-,-,⟨hk,hba,hpi,hep,hsq,htm⟩,hfit,-⟩:=z1d b hv
 unfold z2e
 generalize hY:(if z0x b then [] else uI b.rs.length++z2g b.time ⟨#[]⟩ b.rs)=Y
 have e1:∀ t,z14 (some (UInt8.ofNat b.kind.toNat::t))=(b.kind.toNat,some t):=λt=>by
  show ((UInt8.ofNat b.kind.toNat).toNat,some t)=_
  rw [UInt8.toNat_ofNat']
  congr 1
  omega
 have e2:=z5h (most:=1099511627776) (n:=b.base) hba.1 hba.2 (by omega)
 have e3:=z5h (most:=1048576) (n:=b.pid) hpi.1 hpi.2 (by omega)
 have e4:=z5h (most:=32767) (n:=b.epoch) hep.1 hep.2 (by omega)
 have e5:=z5h (most:=2147483647) (n:=b.seq) hsq.1 hsq.2 (by omega)
 have e6:=z5h (most:=1099511627776) (n:=b.time) htm.1 htm.2 (by omega)
 show ∃ s1 s2 s3 s4 s5,hdS (some (UInt8.ofNat b.kind.toNat::_))=_
 unfold hdS
 simp only [e1,e2,e3,znk hk.1]
 by_cases hp:b.pid>0
 ·rw [if_pos hp,if_pos hp]
  by_cases hm:z0x b=true
  ·have hs0:b.seq=0:=by have:=hfit.2;rw [if_pos hm] at this;exact this.1
   simp only [hm,if_true,Bool.true_eq_false,and_false,if_false,List.append_nil,List.append_assoc,e4,e6]
   exact ⟨_,_,_,_,_,by rw [hs0]⟩
  ·have hm:z0x b=false:=by simpa using hm
   simp only [hm,hp,Bool.false_eq_true,and_self,if_true,if_false,List.append_assoc,e4,e5,e6]
   exact ⟨_,_,_,_,_,rfl⟩
 ·have h0:b.pid=0:=by omega
  have hz:b.kind=0/\b.epoch=0/\b.seq=0:=by
   have:=hfit.1
   refine ⟨?_,?_,?_⟩ <;> (apply Decidable.byContradiction;intro h;apply this;simp [h0,h])
  rw [if_neg hp,if_neg hp,if_neg (λh=>hp h.1)]
  simp only [List.nil_append,e6]
  exact ⟨_,_,_,_,_,by rw [hz.2.1,hz.2.2]⟩
theorem zhu {b:BatM} (hv:z01 b=0):z6b (z2e b)=some b.p:=by
 obtain ⟨s1,s2,s3,s4,s5,h⟩:=zw8 hv
 obtain ⟨-,-,⟨hk,hba,hpi,hep,hsq,htm⟩,hfit,-⟩:=z1d b hv
 obtain ⟨h64,hrs⟩:=z24 hv
 have hb:∀ rs,(HdS.mk (b.kind.toNat,s1) (b.base,s2) (b.pid,s3) (b.epoch,s4) (b.seq,s5) (b.time,some (if z0x b then [] else uI b.rs.length++z2g b.time ⟨#[]⟩ b.rs))).b rs={ b.p with rs:=rs }:=λrs=>by
  unfold HdS.b BatM.p
  simp only [Int.toNat_of_nonneg hk.1]
  rfl
 unfold z6b
 rw [h,if_neg (by show ¬ ((1:Nat)≠1);simp)]
 unfold zkg
 rw [if_neg (by simp only [Option.isSome_some];rintro (h|h);cases h;omega)]
 simp only [hb,znk hk.1]
 by_cases hm:z0x b=true
 ·have h0:b.rs=[]:=by have:=hfit.2;rw [if_pos hm] at this;exact List.length_eq_zero_iff.1 this.2
  rw [if_pos hm,if_pos hm]
  have e:{ b.p with rs:=[] }=b.p:=by rw [<- h0];rfl
  rw [e,if_pos ⟨rfl,hv⟩]
 ·have e1:=z5h (most:=64) (n:=(b.rs.length:Int)) (by omega) (by omega) (by omega) (z2g b.time ⟨#[]⟩ b.rs)
  have e2:=zg7 htm hrs ⟨#[]⟩ []
  rw [List.append_nil] at e2
  rw [if_neg hm,if_neg hm]
  simp only [e1,Int.toNat_natCast,e2]
  rw [if_neg (by omega),if_pos (by first|exact ⟨rfl,hv⟩|exact ⟨trivial,hv⟩)]
  rfl
theorem zo7 {s:Lf} {t:List UInt8} (h:(hdS s).tm.2=some t) (htm:(hdS s).tm.1<=1099511627776) {rs:List RecM} (hv:z01 ((hdS s).b rs)=0) :
  s=some (UInt8.ofNat ((hdS s).b rs).kind.toNat::(uI ((hdS s).b rs).base++(uI ((hdS s).b rs).pid++((if ((hdS s).b rs).pid>0 then uI ((hdS s).b rs).epoch++(if z0x ((hdS s).b rs) then [] else uI ((hdS s).b rs).seq) else [])++(uI ((hdS s).b rs).time++t))))):=by
 obtain ⟨-,-,⟨hk,hba,hpi,hep,hsq,-⟩,hfit,-⟩:=z1d _ hv
 unfold hdS at *
 unfold HdS.b at *
 simp only at *
 generalize e1:z14 s=k at *
 generalize e2:z0c 1099511627776 k.2=ba at *
 generalize e3:z0c 1048576 ba.2=pi at *
 generalize e4:(if pi.1>0 then z0c 32767 pi.2 else (0,pi.2))=ep at *
 generalize e5:(if pi.1>0/\z3m k.1=false then z0c 2147483647 ep.2 else (0,ep.2))=sq at *
 have hmk:z0x (⟨ba.1,pi.1,ep.1,sq.1,k.1,(z0c 1099511627776 sq.2).1,z6v,rs⟩:BatM)=z3m k.1:=rfl
 have h6:=(z60 (by omega) h).2 htm
 have h5:ep.2=some ((if pi.1>0/\z3m k.1=false then uI sq.1 else [])++(uI (z0c 1099511627776 sq.2).1++t)):=by
  generalize (z0c 1099511627776 sq.2).1=tm at *
  by_cases hc:pi.1>0/\z3m k.1=false
  ·rw [if_pos hc] at e5 ⊢
   rw [<- e5] at h6 hsq ⊢
   exact (z60 (by omega) h6).2 hsq.2
  ·rw [if_neg hc] at e5 ⊢
   rw [<- e5] at h6
   exact h6
 generalize (z0c 1099511627776 sq.2).1=tm at *
 have h4:pi.2=some ((if pi.1>0 then uI ep.1 else [])++((if pi.1>0/\z3m k.1=false then uI sq.1 else [])++(uI tm++t))):=by
  by_cases hc:pi.1>0
  ·rw [if_pos hc] at e4 ⊢
   rw [<- e4] at h5 hep ⊢
   exact (z60 (by omega) h5).2 hep.2
  ·rw [if_neg hc] at e4 ⊢
   rw [<- e4] at h5
   exact h5
 rw [<- e3] at h4 hpi
 have h3:=(z60 (by omega) h4).2 hpi.2
 rw [e3] at h3
 rw [<- e2] at h3 hba
 have h2:=(z60 (by omega) h3).2 hba.2
 rw [e2] at h2
 rw [<- e1] at h2
 have h1:=(zbt h2).2
 rw [e1] at h1
 have e:(if pi.1>0 then uI ep.1 else [])++((if pi.1>0/\z3m k.1=false then uI sq.1 else [])++(uI tm++t))=(if pi.1>0 then uI ep.1++(if z3m k.1 then [] else uI sq.1) else [])++(uI tm++t):=by
  by_cases hp:pi.1>0
  ·by_cases hm:z3m k.1=true
   ·simp [hp,hm]
   ·simp [hp,hm]
  ·simp [hp]
 rw [h1,hmk,Int.toNat_natCast,e]
theorem zkl {raw:List UInt8} {b:BatM} (h:z6b raw=some b):z01 b=0/\z2e b=raw/\b.p=b:=by
 unfold z6b at h
 split at h
 ·cases h
 rename_i h1
 have h1:(z14 (some raw)).1=1:=Decidable.not_not.1 h1
 generalize hs:(z14 (some raw)).2=s at h
 have hraw:∀ t,s=some t->raw=1::t:=λt ht=>by
  rw [<- hs] at ht
  have:=(zbt ht).2
  rw [h1] at this
  exact Option.some.inj this
 unfold zkg at h
 split at h
 ·cases h
 rename_i h2
 have h3:(hdS s).tm.2.isSome=true:=by
  cases he:(hdS s).tm.2.isSome with
  | true=>rfl
  | false=>exact absurd (.inl he) h2
 have h4:(hdS s).tm.1<=1099511627776:=by omega
 obtain ⟨t,ht⟩:=Option.isSome_iff_exists.1 h3
 split at h
 ·rename_i hm
  split at h
  rotate_left
  ·cases h
  rename_i h5
  simp only [Option.some.injEq] at h
  subst h
  refine ⟨h5.2,?_,rfl⟩
  have h6:=hraw _ (zo7 h5.1 h4 h5.2)
  rw [h6]
  have hm:z0x ((hdS s).b [])=true:=hm
  unfold z2e
  rw [hm]
  rfl
 ·rename_i hm
  split at h
  ·cases h
  rename_i h7
  cases hr:z4r (hdS s).tm.1 (z0c 64 (hdS s).tm.2).1.toNat ⟨#[]⟩ (z0c 64 (hdS s).tm.2).2 with
  | none=>rw [hr] at h;cases h
  | some q =>
   rw [hr] at h
   simp only at h
   split at h
   rotate_left
   ·cases h
   rename_i h5
   simp only [Option.some.injEq] at h
   subst h
   refine ⟨h5.2,?_,rfl⟩
   obtain ⟨rs,q2⟩:=q
   obtain ⟨rfl,h5⟩:=h5
   have hrs:=(z24 h5).2
   obtain ⟨h8,h9⟩:=zhx (by decide) (λr hr=>(z3p (hrs r hr)).1) hr
   have h10:=z60 (by omega) h9
   have h11:=h10.2 (by omega)
   have h6:=hraw _ (zo7 h11 h4 h5)
   rw [h6]
   have hm:z0x ((hdS s).b rs)≠true:=hm
   unfold z2e
   rw [if_neg hm,if_neg hm]
   have e:((hdS s).b rs).rs.length=(z0c 64 (hdS s).tm.2).1:=by
    have h12:=h10.1
    have h13:rs.length=(z0c 64 (hdS s).tm.2).1.toNat:=h8
    show ((rs.length:Nat):Int)=_
    rw [h13,Int.toNat_of_nonneg h12.1]
   rw [e,List.append_nil]
   rfl
abbrev polyB:BitVec 32:=0xEDB88320#32
def zel (s:BitVec 32):BitVec 32:=(s >>> 1) ^^^ (polyB &&& (0#32-(s &&& 1#32)))
def zem:Nat->BitVec 32->BitVec 32
 | 0,s=>s
 | k+1,s=>zel (zem k s)
def zgi (s:BitVec 32) (c:UInt8):BitVec 32:=zem 8 (s ^^^ BitVec.ofNat 32 c.toNat)
def z42 (s:BitVec 32) (bs:List UInt8):BitVec 32:=bs.foldl zgi s
def ziw (x:BitVec 32) (bs:List UInt8):BitVec 32 := ~~~ (z42 (~~~ x) bs)
def z5w (bs:List UInt8):Nat:=(ziw 0#32 bs).toNat
def z2b (n:Nat):List UInt8:=[UInt8.ofNat n,UInt8.ofNat (n / 256),UInt8.ofNat (n / 65536),UInt8.ofNat (n / 16777216)]
def z0r:List UInt8->Nat
 | a::b::c::d::_=>a.toNat+256*b.toNat+65536*c.toNat+16777216*d.toNat
 | _=>0
def z2a (bs:List UInt8):List UInt8:=z2b bs.length++bs
def z2h (bs:List UInt8):List UInt8:=if bs.length>262144 then [] else z2a bs++z2b (z5w (z2a bs))
def z19 (b:List UInt8):Option (List UInt8 × Nat) :=
 if b.length<8\/z0r b>262144\/z0r b+8>b.length then none else if z0r (b.drop (z0r b+4))=z5w (b.take (z0r b+4)) then some ((b.drop 4).take (z0r b),z0r b+8) else none
def z61 (s:BitVec 32) (b:Bool):BitVec 32:=(s >>> 1) ^^^ (if (s.getLsbD 0 != b)=true then polyB else 0#32)
def z8x (c:BitVec 32):Nat->BitVec 32->BitVec 32
 | 0,s=>s
 | k+1,s=>z61 (z8x c k s) (c.getLsbD k)
theorem zyh (x:BitVec 32):x &&& 1#32=if x.getLsbD 0=true then 1#32 else 0#32:=by
 apply BitVec.eq_of_getLsbD_eq
 intro i hi
 rw [BitVec.getLsbD_and,BitVec.getLsbD_one]
 by_cases h0:i=0
 ·subst h0
  by_cases hx:x.getLsbD 0=true
  ·rw [if_pos hx,hx];rfl
  ·have hx':x.getLsbD 0=false:=by cases h:x.getLsbD 0 with
    | false=>rfl
    | true=>exact absurd h hx
   rw [if_neg hx,hx'];rfl
 ·have:(decide (i=0))=false:=decide_eq_false h0
  by_cases hx:x.getLsbD 0=true
  ·rw [if_pos hx];simp [h0]
  ·rw [if_neg hx];simp [h0]
theorem zzh (x:BitVec 32):zel x=(x >>> 1) ^^^ (if x.getLsbD 0=true then polyB else 0#32):=by
 unfold zel
 rw [zyh]
 by_cases hx:x.getLsbD 0=true
 ·rw [if_pos hx,if_pos hx];rfl
 ·rw [if_neg hx,if_neg hx];rfl
theorem zvw (r c:BitVec 32):zel (r ^^^ c)=z61 r (c.getLsbD 0) ^^^ (c >>> 1):=by
 rw [zzh,BitVec.ushiftRight_xor_distrib,BitVec.getLsbD_xor]
 unfold z61
 have:((r.getLsbD 0 ^^ c.getLsbD 0)=true)=((r.getLsbD 0 != c.getLsbD 0)=true):=by cases r.getLsbD 0 <;> cases c.getLsbD 0 <;> rfl
 simp only [this]
 rw [BitVec.xor_assoc,BitVec.xor_comm (c >>> 1),<- BitVec.xor_assoc]
theorem zpx (c:BitVec 32) (k:Nat):(c >>> k) >>> 1=c >>> (k+1):=by rw [BitVec.shiftRight_add]
theorem zj3 (r c:BitVec 32):∀ k,zem k (r ^^^ c)=z8x c k r ^^^ (c >>> k)
 | 0=>by simp [zem,z8x]
 | k+1=>by
  show zel (zem k (r ^^^ c))=z61 (z8x c k r) (c.getLsbD k) ^^^ _
  rw [zj3 r c k,zvw,zpx]
  congr 2
theorem zs5 (s:BitVec 32) (c:UInt8):zgi s c=z8x (BitVec.ofNat 32 c.toNat) 8 s:=by
 unfold zgi
 rw [zj3]
 have:BitVec.ofNat 32 c.toNat >>> 8=0#32:=by
  apply BitVec.eq_of_toNat_eq
  rw [BitVec.toNat_ushiftRight,BitVec.toNat_ofNat,Nat.shiftRight_eq_div_pow]
  have:=c.toNat_lt
  rw [Nat.mod_eq_of_lt (by omega)]
  show c.toNat / 2 ^ 8=0
  omega
 rw [this];simp
theorem zty (a b c d:UInt8) (r:List UInt8):z0r (a::b::c::d::r)=a.toNat+256*b.toNat+65536*c.toNat+16777216*d.toNat:=rfl
theorem zjy {n:Nat} (h:n<4294967296) (r:List UInt8):z0r (z2b n++r)=n:=by
 unfold z2b z0r
 simp
 omega
theorem ze6:∀ (b:List UInt8),4<=b.length->z2b (z0r b)=b.take 4/\z0r b<4294967296
 | a::b::c::d::r,_=>by
  have h1:=a.toNat_lt
  have h2:=b.toNat_lt
  have h3:=c.toNat_lt
  have h4:=d.toNat_lt
  rw [zty]
  refine ⟨?_,by omega⟩
  have e:∀ (x:UInt8) (n:Nat),n % 256=x.toNat->UInt8.ofNat n=x:=λx n h=>by
   apply UInt8.toNat_inj.1
   simp [h]
  unfold z2b
  rw [e a _ (by omega),e b _ (by omega),e c _ (by omega),e d _ (by omega)]
  rfl
theorem z3v (n:Nat):(z2b n).length=4:=rfl
theorem zgt (bs:List UInt8):z5w bs<4294967296:=(ziw 0#32 bs).isLt
theorem z6i {bs:List UInt8} (h:bs.length<=262144) (r:List UInt8):z19 (z2h bs++r)=some (bs,bs.length+8):=by
 have hs:=zgt (z2a bs)
 have hl:(z2a bs).length=bs.length+4:=by unfold z2a;rw [List.length_append,z3v];omega
 have e0:z2h bs++r=z2a bs++(z2b (z5w (z2a bs))++r):=by unfold z2h;rw [if_neg (by omega),List.append_assoc]
 have e1:z0r (z2h bs++r)=bs.length:=by
  rw [e0];unfold z2a;rw [List.append_assoc];exact zjy (by omega) _
 have e2:(z2h bs++r).length=bs.length+8+r.length:=by
  rw [e0,List.length_append,List.length_append,hl,z3v];omega
 unfold z19
 rw [e1,e2,if_neg (by omega),e0,<- hl,List.drop_left,List.take_left,zjy hs,if_pos rfl]
 congr 2
 unfold z2a
 rw [List.append_assoc,show (4:Nat)=(z2b bs.length).length from rfl,List.drop_left,List.take_left]
theorem z64 {b body:List UInt8} {n:Nat} (h:z19 b=some (body,n)):n=body.length+8/\n<=b.length/\body.length<=262144/\b.take n=z2h body:=by
 unfold z19 at h
 split at h
 ·cases h
 rename_i h1
 split at h
 ·rename_i h2
  simp only [Option.some.injEq,Prod.mk.injEq] at h
  obtain ⟨rfl,rfl⟩:=h
  have hbl:((b.drop 4).take (z0r b)).length=z0r b:=by rw [List.length_take,List.length_drop];omega
  refine ⟨by rw [hbl],by omega,by rw [hbl];omega,?_⟩
  have hh:z2a ((b.drop 4).take (z0r b))=b.take (z0r b+4):=by
   unfold z2a
   rw [hbl,(ze6 b (by omega)).1,Nat.add_comm,List.take_add]
  unfold z2h
  rw [if_neg (by rw [hbl];omega),hh,<- h2,(ze6 (b.drop (z0r b+4)) (by rw [List.length_drop];omega)).1,show z0r b+8=(z0r b+4)+4 from rfl,List.take_add]
 ·cases h
theorem ztd (b:List UInt8):z19 b=if b.length<8\/z0r b>262144\/z0r b+8>b.length then none else if z2h ((b.drop 4).take (z0r b))=b.take (z0r b+8) then some ((b.drop 4).take (z0r b),z0r b+8) else none:=by
 by_cases h1:b.length<8\/z0r b>262144\/z0r b+8>b.length
 ·unfold z19;rw [if_pos h1,if_pos h1]
 rw [if_neg h1]
 by_cases h2:z2h ((b.drop 4).take (z0r b))=b.take (z0r b+8)
 ·rw [if_pos h2]
  have hbl:((b.drop 4).take (z0r b)).length=z0r b:=by rw [List.length_take,List.length_drop];omega
  have h3:=z6i (bs:=(b.drop 4).take (z0r b)) (by rw [hbl];omega) (b.drop (z0r b+8))
  rw [h2,List.take_append_drop,hbl] at h3
  exact h3
 ·rw [if_neg h2]
  cases hf:z19 b with
  | none=>rfl
  | some q =>
   obtain ⟨g1,g2,g3,g4⟩:=z64 (body:=q.1) (n:=q.2) hf
   unfold z19 at hf
   rw [if_neg h1] at hf
   split at hf
   ·simp only [Option.some.injEq] at hf
    subst hf
    exact absurd g4.symm h2
   ·cases hf
def shB (base fin:Int):List UInt8:=83::(uI base++uI fin)
def shL (base fin:Int):List UInt8:=z2h (shB base fin)
def frL (b:BatM):List UInt8:=z2h (z2e b)
structure SegA where
 base:Int
 fin:Int
 bs:List BatM
def SegA.file (s:SegA):List UInt8:=shL s.base s.fin++s.bs.flatMap frL
def z05 (bs:List BatM):Int:=match bs.getLast? with
 | none=>0
 | some b=>b.base+z00 b
def SegA.reach (s:SegA):Int:=max (max s.base s.fin) (z05 s.bs)
def z36 (x:Int) (rs:List RecM):Int:=rs.foldl (λt r=>max t r.time) x
def z2l (b:BatM):Int:=if b.rs=[] then b.time else z36 (-1) b.rs
def z0y (x:Int) (bs:List BatM):Int:=bs.foldl (λt b=>max t (z2l b)) x
def zp (l:List SegA):Int:=match l.getLast? with
 | none=>0
 | some s=>s.reach
def zo (l:List SegA):Int:=match l with
 | []=>0
 | s::_=>s.base
def z1p:Int->List BatM->Prop
 | _,[]=>True
 | n,b::bs=>z01 b=0/\b.p=b/\n<=b.base/\z1p (b.base+z00 b) bs
structure SegOk (s:SegA):Prop where
 base:0<=s.base/\s.base<=1099511627776
 fin:s.fin=0\/(s.base<s.fin/\s.fin<=1099511627776)
 bs:z1p s.base s.bs
def z09:Int->List SegA->Prop
 | _,[]=>True
 | n,s::r=>n<=s.base/\SegOk s/\z09 (max s.reach (s.base+1)) r
def z5s (base:Int) (body:List UInt8):Option Int :=
 let a:=z14 (some body)
 let b:=z0t a.2
 let c:=z0t b.2
 if c.2=some []/\a.1=83/\(b.1:Int)=base/\base<=1099511627776/\c.1<=1099511627776/\(c.1=0\/base<c.1) then some c.1 else none
def z2x:Nat->Int->List UInt8->List BatM × Nat
 | 0,_,_=>([],0)
 | k+1,n,raw=>match z19 raw with
  | none=>([],0)
  | some (body,m)=>match z6b body with
   | none=>([],0)
   | some b=>if b.base<n then ([],0) else (b::(z2x k (b.base+z00 b) (raw.drop m)).1,m+(z2x k (b.base+z00 b) (raw.drop m)).2)
def z4u (base:Int) (raw:List UInt8):Option (SegA × Nat):=match z19 raw with
 | none=>none
 | some (body,m)=>match z5s base body with
  | none=>none
  | some fin=>some (⟨base,fin,(z2x raw.length base (raw.drop m)).1⟩,m+(z2x raw.length base (raw.drop m)).2)
theorem z7o {bs:List UInt8} (h:bs.length<=262144):(z2h bs).length=bs.length+8:=by
 unfold z2h
 rw [if_neg (by omega),List.length_append,z3v]
 show (z2b _++_).length+4=_
 rw [List.length_append,z3v]
 omega
theorem za3 (base fin:Int):3<=(shB base fin).length/\(shB base fin).length<=21:=by
 have h1:=z1a base
 have h2:=z1a fin
 unfold shB
 rw [List.length_cons,List.length_append]
 omega
theorem z4n (base fin:Int):11<=(shL base fin).length/\(shL base fin).length<=29:=by
 have h:=za3 base fin
 unfold shL
 rw [z7o (by omega)]
 omega
theorem zul {time:Int} {ahead:ByteArray} {r:RecM}:(z4j time ahead r).length<=31+r.key.size+10+r.value.size:=by
 unfold z4j z4h
 have h1:=zcx (r.time-time)
 have h2:=z1a ((z04 (bl ahead) (bl r.key):Nat):Int)
 have h3:=z1a (((r.key.size-z04 (bl ahead) (bl r.key):Nat)):Int)
 have h4:=z1a (r.value.size:Int)
 have h5:=z0z r.key
 have h6:=z0z r.value
 simp only [List.length_append,List.length_cons,List.length_drop]
 split
 ·simp only [List.length_nil];omega
 ·simp only [List.length_append];omega
theorem zc3 {time:Int} {n:Nat}:∀ {rs:List RecM} {ahead:ByteArray},(∀ r ∈ rs,r.key.size+r.value.size<=n)->(z2g time ahead rs).length<=rs.length*(41+n)
 | [],_,_=>by simp [z2g]
 | r::rs,ahead,h=>by
  have h1:=zul (time:=time) (ahead:=ahead) (r:=r)
  have h2:=zc3 (time:=time) (n:=n) (rs:=rs) (ahead:=r.key) λx hx=>h x (List.mem_cons_of_mem _ hx)
  have h3:=h r (List.mem_cons_self ..)
  unfold z2g
  rw [List.length_append,List.length_cons,Nat.add_mul]
  omega
theorem zgf {b:BatM} {n:Nat} (h:∀ r ∈ b.rs,r.key.size+r.value.size<=n):2<=(z2e b).length/\(z2e b).length<=62+b.rs.length*(41+n):=by
 have h1:=z1a b.base
 have h2:=z1a b.pid
 have h3:=z1a b.epoch
 have h4:=z1a b.seq
 have h5:=z1a b.time
 have h6:=z1a (b.rs.length:Nat)
 have h7:=zc3 (time:=b.time) (ahead:=⟨#[]⟩) h
 unfold z2e
 simp only [List.length_cons,List.length_append]
 split <;> split <;> simp only [List.length_nil,List.length_append] <;> omega
theorem z4c {b:BatM} (hv:z01 b=0):2<=(z2e b).length/\(z2e b).length<=262144:=by
 obtain ⟨h64,hrs⟩:=z24 hv
 have h:=zgf (b:=b) (n:=2048) λr hr=>by
  obtain ⟨h1,h2,-⟩:=z3p (hrs r hr)
  omega
 have:b.rs.length*(41+2048)<=64*(41+2048):=Nat.mul_le_mul_right _ h64
 omega
theorem z3l {b:BatM} (hv:z01 b=0):10<=(frL b).length/\(frL b).length=(z2e b).length+8:=by
 have h:=z4c hv
 unfold frL
 rw [z7o h.2]
 omega
theorem zqg {base fin:Int} (hb:0<=base/\base<=1099511627776) (hf:fin=0\/(base<fin/\fin<=1099511627776)):z5s base (shB base fin)=some fin:=by
 unfold z5s shB
 have e1:z14 (some (83::(uI base++uI fin)))=(83,some (uI base++uI fin)):=rfl
 have e2:z0t (some (uI base++uI fin))=(base.toNat,some (uI fin)):=z7a (by omega) _
 have e3:z0t (some (uI fin))=(fin.toNat,some []):=by
  have:=z7a (v:=fin.toNat) (by omega) []
  rwa [List.append_nil] at this
 simp only [e1,e2,e3]
 rw [if_pos ⟨trivial,trivial,by omega,by omega,by omega,by omega⟩]
 congr 1
 omega
theorem zi8 {base fin:Int} {body:List UInt8} (h:z5s base body=some fin):(0<=base/\base<=1099511627776)/\(fin=0\/(base<fin/\fin<=1099511627776))/\body=shB base fin:=by
 unfold z5s at h
 simp only at h
 split at h
 rotate_left
 ·cases h
 rename_i hc
 obtain ⟨h1,h2,h3,h4,h5,h6⟩:=hc
 simp only [Option.some.injEq] at h
 have i1:=z6z h1
 have i2:=z6z i1.2
 have i3:=zbt i2.2
 refine ⟨by omega,by omega,?_⟩
 have e:=i3.2
 rw [h2] at e
 simp only [Option.some.injEq] at e
 rw [e]
 unfold shB uI
 have e1:base.toNat=(z0t (z14 (some body)).2).1:=by omega
 have e2:fin.toNat=(z0t (z0t (z14 (some body)).2).2).1:=by omega
 rw [e1,e2,List.append_nil]
 rfl
theorem z1p.mono {m n:Int} {bs:List BatM} (h:z1p n bs) (hm:m<=n):z1p m bs:=by
 cases bs with
 | nil=>trivial
 | cons b bs=>exact ⟨h.1,h.2.1,by have:=h.2.2.1;omega,h.2.2.2⟩
theorem z1p.valid:∀ {n:Int} {bs:List BatM},z1p n bs->∀ b ∈ bs,z01 b=0/\b.p=b
 | _,b::bs,h,x,hx=>by
  rcases List.mem_cons.1 hx with rfl|hx
  ·exact ⟨h.1,h.2.1⟩
  ·exact h.2.2.2.valid x hx
theorem zip:z19 []=none:=by
 rw [ztd,if_pos (by simp)]
theorem ze1 {bs r:List UInt8} (h:bs.length<=262144) {k:Nat} (hk:k<bs.length+8):z19 ((z2h bs++r).take k)=none:=by
 cases hf:z19 ((z2h bs++r).take k) with
 | none=>rfl
 | some q =>
  exfalso
  obtain ⟨body,n⟩:=q
  obtain ⟨h1,h2,h3,h4⟩:=z64 hf
  rw [List.length_take] at h2
  have e1:((z2h bs++r).take k).take n=(z2h bs++r).take n:=by rw [List.take_take,Nat.min_eq_left (by omega)]
  rw [e1] at h4
  have e2:=z6i h3 ((z2h bs++r).drop n)
  rw [<- h4,List.take_append_drop,z6i h] at e2
  simp only [Option.some.injEq,Prod.mk.injEq] at e2
  omega
theorem zfr:∀ {bs:List BatM} {n:Int} {k:Nat} {rest:List UInt8},z1p n bs->bs.length<=k->z19 rest=none->z2x k n (bs.flatMap frL++rest)=(bs,(bs.flatMap frL).length)
 | [],n,0,rest,_,_,_=>rfl
 | [],n,k+1,rest,_,_,hr=>by
  unfold z2x
  rw [List.flatMap_nil,List.nil_append,hr]
  rfl
 | b::bs,n,0,rest,_,hk,_=>by simp at hk
 | b::bs,n,k+1,rest,⟨hv,hp,hn,ho⟩,hk,hr=>by
  have hl:=z4c hv
  have hf:=z3l hv
  unfold z2x
  rw [List.flatMap_cons,List.append_assoc]
  have e:z19 (frL b++(bs.flatMap frL++rest))=some (z2e b,(z2e b).length+8):=z6i hl.2 _
  rw [e]
  simp only
  rw [zhu hv]
  simp only
  rw [hp,if_neg (by omega),<- hf.2,List.drop_left,zfr ho (by simpa using hk) hr,List.length_append]
theorem zhb:∀ {k:Nat} {n:Int} {raw:List UInt8},z1p n (z2x k n raw).1/\raw.take (z2x k n raw).2=(z2x k n raw).1.flatMap frL/\(z2x k n raw).2<=raw.length
 | 0,n,raw=>⟨trivial,by simp [z2x],Nat.zero_le _⟩
 | k+1,n,raw=>by
  unfold z2x
  cases hf:z19 raw with
  | none=>exact ⟨trivial,by simp,Nat.zero_le _⟩
  | some q =>
   obtain ⟨body,m⟩:=q
   simp only
   cases hd:z6b body with
   | none=>exact ⟨trivial,by simp,Nat.zero_le _⟩
   | some b =>
    simp only
    by_cases hb:b.base<n
    ·rw [if_pos hb];exact ⟨trivial,by simp,Nat.zero_le _⟩
    rw [if_neg hb]
    obtain ⟨i1,i2,i3⟩:=zhb (k:=k) (n:=b.base+z00 b) (raw:=raw.drop m)
    obtain ⟨d1,d2,d3⟩:=zkl hd
    obtain ⟨f1,f2,f3,f4⟩:=z64 hf
    rw [List.length_drop] at i3
    refine ⟨⟨d1,d3,by omega,i1⟩,?_,by simp only;omega⟩
    simp only
    rw [List.take_add,f4,i2,List.flatMap_cons,<- d2]
    rfl
theorem z8u:∀ {n:Int} {bs:List BatM},z1p n bs->bs.length*10<=(bs.flatMap frL).length
 | _,[],_=>by simp
 | _,b::bs,⟨h1,_,_,h⟩=>by
  have:=z8u h
  have:=z3l h1
  rw [List.flatMap_cons,List.length_append,List.length_cons]
  omega
theorem z1u (s:SegA):s.file.length=(shL s.base s.fin).length+(s.bs.flatMap frL).length:=by
 unfold SegA.file
 rw [List.length_append]
theorem zi6 {s:SegA} (h:SegOk s) {rest:List UInt8} (hr:z19 rest=none):z4u s.base (s.file++rest)=some (s,s.file.length):=by
 have hl:=za3 s.base s.fin
 unfold z4u
 have e0:s.file++rest=z2h (shB s.base s.fin)++(s.bs.flatMap frL++rest):=by
  unfold SegA.file shL
  rw [List.append_assoc]
 have e:z19 (s.file++rest)=some (shB s.base s.fin,(shB s.base s.fin).length+8):=by
  rw [e0]
  exact z6i (by omega) _
 rw [e]
 simp only
 rw [zqg h.base h.fin]
 simp only
 have e2:(s.file++rest).drop ((shB s.base s.fin).length+8)=s.bs.flatMap frL++rest:=by
  rw [e0,<- z7o (show (shB s.base s.fin).length<=262144 by omega),List.drop_left]
 have e3:s.bs.length<=(s.file++rest).length:=by
  have:=z8u h.bs
  rw [List.length_append,z1u]
  omega
 rw [e2,zfr h.bs e3 hr,z1u]
 unfold shL
 rw [z7o (by omega)]
theorem zi5 {s:SegA} (h:SegOk s):z4u s.base s.file=some (s,s.file.length):=by
 have:=zi6 h zip
 rwa [List.append_nil] at this
theorem zj7 {base:Int} {raw:List UInt8} {s:SegA} {m:Nat} (h:z4u base raw=some (s,m)):SegOk s/\s.base=base/\raw.take m=s.file/\m<=raw.length/\m=s.file.length:=by
 unfold z4u at h
 cases hf:z19 raw with
 | none=>rw [hf] at h;cases h
 | some q =>
  obtain ⟨body,k⟩:=q
  rw [hf] at h
  simp only at h
  cases hh:z5s base body with
  | none=>rw [hh] at h;cases h
  | some fin =>
   rw [hh] at h
   simp only [Option.some.injEq,Prod.mk.injEq] at h
   obtain ⟨rfl,rfl⟩:=h
   obtain ⟨h1,h2,h3⟩:=zi8 hh
   obtain ⟨i1,i2,i3⟩:=zhb (k:=raw.length) (n:=base) (raw:=raw.drop k)
   obtain ⟨f1,f2,f3,f4⟩:=z64 hf
   rw [List.length_drop] at i3
   have e:raw.take (k+(z2x raw.length base (raw.drop k)).2)=SegA.file ⟨base,fin,(z2x raw.length base (raw.drop k)).1⟩:=by
    rw [List.take_add,f4,i2,h3]
    rfl
   refine ⟨⟨h1,h2,i1⟩,rfl,e,by omega,?_⟩
   rw [<- e,List.length_take]
   omega
theorem z1p.take:∀ {n:Int} {bs:List BatM} (k:Nat),z1p n bs->z1p n (bs.take k)
 | _,[],k,_=>by simp [z1p]
 | _,b::bs,0,_=>trivial
 | _,b::bs,k+1,⟨h1,h2,h3,h4⟩=>⟨h1,h2,h3,h4.take k⟩
theorem zkq:∀ {n:Int} {bs:List BatM} (k:Nat),z1p n bs->∃ j rest,j<=bs.length/\(bs.flatMap frL).take k=(bs.take j).flatMap frL++rest/\z19 rest=none/\∀ m,m<=bs.length->((bs.take m).flatMap frL).length<=k->m<=j
 | _,[],k,_=>⟨0,[],by simp,by simp,zip,λm hm _=>hm⟩
 | n,b::bs,k,⟨h1,h2,h3,h4⟩=>by
  have hl:=z4c h1
  have hf:=z3l h1
  by_cases hk:k<(frL b).length
  ·refine ⟨0,(frL b++bs.flatMap frL).take k,by omega,by simp,ze1 hl.2 (by omega),λm hm h=>?_⟩
   cases m with
   | zero=>omega
   | succ m =>
    rw [List.take_succ_cons,List.flatMap_cons,List.length_append] at h
    omega
  ·obtain ⟨j,rest,i1,i2,i3,i4⟩:=zkq (k-(frL b).length) h4
   refine ⟨j+1,rest,by simp;omega,?_,i3,λm hm h=>?_⟩
   ·rw [List.flatMap_cons,List.take_append,List.take_of_length_le (by omega),i2,List.take_succ_cons,List.flatMap_cons,List.append_assoc]
   ·cases m with
    | zero=>omega
    | succ m =>
     rw [List.take_succ_cons,List.flatMap_cons,List.length_append] at h
     have:=i4 m (by simpa using hm) (by omega)
     omega
def SegA.cut (s:SegA) (j:Nat):SegA:=⟨s.base,s.fin,s.bs.take j⟩
theorem SegOk.cut {s:SegA} (h:SegOk s) (j:Nat):SegOk (s.cut j):=⟨h.base,h.fin,h.bs.take j⟩
theorem zuq {s:SegA} (h:SegOk s) (k:Nat):(k<(shL s.base s.fin).length/\z4u s.base (s.file.take k)=none) \/
  ∃ j,j<=s.bs.length/\(s.cut j).file.length<=k/\z4u s.base (s.file.take k)=some (s.cut j,(s.cut j).file.length)/\∀ m,m<=s.bs.length->(s.cut m).file.length<=k->m<=j:=by
 have hl:=za3 s.base s.fin
 have hsl:(shL s.base s.fin).length=(shB s.base s.fin).length+8:=z7o (by omega)
 by_cases hk:k<(shL s.base s.fin).length
 ·left
  refine ⟨hk,?_⟩
  unfold z4u
  have e:z19 (s.file.take k)=none:=ze1 (by omega) (by omega)
  rw [e]
 ·right
  obtain ⟨j,rest,i1,i2,i3,i4⟩:=zkq (k-(shL s.base s.fin).length) h.bs
  have e:s.file.take k=(s.cut j).file++rest:=by
   unfold SegA.file SegA.cut
   rw [List.take_append,List.take_of_length_le (by omega),i2,List.append_assoc]
  refine ⟨j,i1,?_,by rw [e];exact zi6 (h.cut j) i3,λm hm h2=>i4 m hm ?_⟩
  ·have:=congrArg List.length e
   rw [List.length_take,List.length_append] at this
   omega
  ·rw [z1u] at h2
   have:(s.cut m).bs=s.bs.take m:=rfl
   rw [this] at h2
   have:(shL (s.cut m).base (s.cut m).fin).length=(shL s.base s.fin).length:=rfl
   omega
theorem z1g {α:Type} (l:List α) (x:α):(l++[x]).getLast? = some x:=by simp
theorem z3d (bs:List BatM) (b:BatM):z05 (bs++[b])=b.base+z00 b:=by
 unfold z05
 rw [z1g]
theorem zb3 (x:Int) (bs:List BatM) (b:BatM):z0y x (bs++[b])=max (z0y x bs) (z2l b):=by
 unfold z0y
 rw [List.foldl_append]
 rfl
theorem z1p.next:∀ {n:Int} {bs:List BatM},0<=n->z1p n bs->(bs≠[]->n<z05 bs)/\(bs=[]->z05 bs=0)/\z05 bs<=1099511627777
 | _,[],_,_=>⟨λh=>absurd rfl h,λ_=>rfl,by decide⟩
 | n,b::bs,hn,⟨h1,h2,h3,h4⟩=>by
  obtain ⟨s1,-,⟨-,hba,-⟩,-,s2⟩:=z1d b h1
  obtain ⟨i1,i2,i3⟩:=h4.next (by omega)
  by_cases hb:bs=[]
  ·subst hb
   have e:z05 [b]=b.base+z00 b:=z3d [] b
   rw [e]
   exact ⟨λ_=>by omega,(λh=>by cases h),by omega⟩
  ·have e:z05 (b::bs)=z05 bs:=by
    unfold z05
    cases bs with
    | nil=>exact absurd rfl hb
    | cons c cs=>rfl
   rw [e]
   have:=i1 hb
   exact ⟨λ_=>by omega,(λh=>by cases h),i3⟩
theorem z1p.snoc:∀ {n:Int} {bs:List BatM} {b:BatM},0<=n->z1p n bs->z01 b=0->b.p=b->n<=b.base->z05 bs<=b.base->z1p n (bs++[b])
 | n,[],b,_,_,hv,hp,hn,_=>⟨hv,hp,hn,trivial⟩
 | n,a::bs,b,h0,⟨h1,h2,h3,h4⟩,hv,hp,hn,hx=>by
  obtain ⟨s1,-,⟨-,hba,-⟩,-,s2⟩:=z1d a h1
  refine ⟨h1,h2,h3,?_⟩
  have i:=h4.next (by omega)
  by_cases hb:bs=[]
  ·subst hb
   have e:z05 [a]=a.base+z00 a:=z3d [] a
   exact z1p.snoc (by omega) h4 hv hp (by omega) (by rw [i.2.1 rfl];omega)
  ·have e:z05 (a::bs)=z05 bs:=by
    unfold z05
    cases bs with
    | nil=>exact absurd rfl hb
    | cons c cs=>rfl
   rw [e] at hx
   have:=i.1 hb
   exact z1p.snoc (by omega) h4 hv hp (by omega) hx
theorem z38 {s:SegA} (h:SegOk s):s.base<=s.reach/\s.fin<=s.reach/\z05 s.bs<=s.reach/\s.reach<=1099511627777/\(s.bs≠[]->s.base<z05 s.bs):=by
 obtain ⟨i1,i2,i3⟩:=h.bs.next h.base.1
 have h1:=h.base
 have h2:=h.fin
 unfold SegA.reach
 refine ⟨by omega,by omega,by omega,by omega,i1⟩
structure EntA where
 offset:Int
 place:Int
 before:Int
structure IdxA where
 offset:Int
 place:Int
 late:Int
 gap:Int
 l:List EntA
def z6k (gap:Int):IdxA:=⟨-1,-1,-1,gap,[]⟩
def z89 (o p t:Int):Prop:=(0<=o/\o<=1099511627776)/\(0<=p/\p<=4194304)/\(0<=t/\t<=1099511627776)
instance (o p t:Int):Decidable (z89 o p t):=by unfold z89;infer_instance
def zjf (x:IdxA) (p:Int):Bool:=match x.l.getLast? with
 | none=>true
 | some e=>decide (p-e.place>=x.gap)
def z3n (x:IdxA) (o p:Int):List EntA:=if zjf x p then x.l++[⟨o,p,x.late⟩] else x.l
def z6q (x:IdxA) (o p t:Int):Int × IdxA:=if ¬ z89 o p t then (2,x) else if o<=x.offset\/p<=x.place then (21,x) else (0,⟨o,p,max x.late t,x.gap,z3n x o p⟩)
def z7c:IdxA->Int->List BatM->IdxA
 | x,_,[]=>x
 | x,q,b::bs=>z7c (z6q x b.base q (z2l b)).2 (q+(frL b).length) bs
def SegA.idx (gap:Int) (s:SegA):IdxA:=z7c (z6k gap) (shL s.base s.fin).length s.bs
def z3o (l:List EntA) (o:Int):Option EntA:=(l.filter λe=>decide (e.offset<=o)).getLast?
def z1f (l:List EntA) (t:Int):Option EntA:=(l.filter λe=>decide (e.before<t)).getLast?
theorem z9q:∀ (bs:List BatM) (x:IdxA) (q:Int) (b:BatM),z7c x q (bs++[b])=(z6q (z7c x q bs) b.base (q+(bs.flatMap frL).length) (z2l b)).2
 | [],x,q,b=>by simp [z7c]
 | a::bs,x,q,b=>by
  show z7c (z6q x a.base q (z2l a)).2 (q+(frL a).length) (bs++[b])=_
  rw [z9q bs]
  rw [show q+((frL a).length:Int)+((bs.flatMap frL).length:Nat)=q+(((a::bs).flatMap frL).length:Nat) by rw [List.flatMap_cons,List.length_append];omega]
  rfl
theorem zjz:∀ {rs:List RecM} {x:Int},x<=z36 x rs/\∀ r ∈ rs,r.time<=z36 x rs
 | [],x=>⟨Int.le_refl _,λ_ h=>by cases h⟩
 | r::rs,x=>by
  have h:=zjz (rs:=rs) (x:=max x r.time)
  have e:z36 x (r::rs)=z36 (max x r.time) rs:=rfl
  rw [e]
  refine ⟨by omega,λy hy=>?_⟩
  rcases List.mem_cons.1 hy with rfl|hy
  ·omega
  ·exact h.2 y hy
theorem zhn:∀ {rs:List RecM} {x m:Int},x<=m->(∀ r ∈ rs,r.time<=m)->z36 x rs<=m
 | [],x,m,h,_=>h
 | r::rs,x,m,h,hr=>by
  have e:z36 x (r::rs)=z36 (max x r.time) rs:=rfl
  rw [e]
  have:=hr r (List.mem_cons_self ..)
  exact zhn (by omega) λy hy=>hr y (List.mem_cons_of_mem _ hy)
theorem zw6 {b:BatM} (h:z01 b=0):0<=z2l b/\z2l b<=1099511627776:=by
 obtain ⟨-,-,⟨-,-,-,-,-,htm⟩,-,-⟩:=z1d b h
 obtain ⟨-,hrs⟩:=z24 h
 unfold z2l
 split
 ·exact htm
 ·rename_i hne
  obtain ⟨r,hr⟩:=List.exists_mem_of_ne_nil _ hne
  have h1:=(zjz (rs:=b.rs) (x := -1)).2 r hr
  have h2:=(z3p (hrs r hr)).2.2.1
  refine ⟨by omega,zhn (by omega) λr hr=>(z3p (hrs r hr)).2.2.1.2⟩
theorem zbj:∀ {bs:List BatM} {x:Int},x<=z0y x bs/\∀ b ∈ bs,z2l b<=z0y x bs
 | [],x=>⟨Int.le_refl _,λ_ h=>by cases h⟩
 | r::rs,x=>by
  have h:=zbj (bs:=rs) (x:=max x (z2l r))
  have e:z0y x (r::rs)=z0y (max x (z2l r)) rs:=rfl
  rw [e]
  refine ⟨by omega,λy hy=>?_⟩
  rcases List.mem_cons.1 hy with rfl|hy
  ·omega
  ·exact h.2 y hy
theorem zih:∀ {bs:List BatM} {x m:Int},x<=m->(∀ b ∈ bs,z2l b<=m)->z0y x bs<=m
 | [],x,m,h,_=>h
 | r::rs,x,m,h,hr=>by
  have e:z0y x (r::rs)=z0y (max x (z2l r)) rs:=rfl
  rw [e]
  have:=hr r (List.mem_cons_self ..)
  exact zih (by omega) λy hy=>hr y (List.mem_cons_of_mem _ hy)
theorem zri {x:Int} (bs:List BatM) (i:Nat):z0y x (bs.take i)<=z0y x bs :=
 zih zbj.1 λb hb=>zbj.2 b (List.mem_of_mem_take hb)
structure IdxOk (gap q:Int) (bs:List BatM) (x:IdxA):Prop where
 gap:x.gap=gap
 late:x.late=z0y (-1) bs
 offset:x.offset=match bs.getLast? with|none => -1|some b=>b.base
 place:x.place<q+(bs.flatMap frL).length
 lplace:∀ e ∈ x.l,e.place<=x.place
 ent:∀ e ∈ x.l,∃ i,∃ hi:i<bs.length,e=⟨bs[i].base,q+((bs.take i).flatMap frL).length,z0y (-1) (bs.take i)⟩
 first:∀ b,bs.head? = some b->x.l.head? = some ⟨b.base,q,-1⟩
 offs:x.l.Pairwise λa b=>a.offset<b.offset
 befs:x.l.Pairwise λa b=>a.before<=b.before
theorem z9m {n:Int} {bs:List BatM} {b:BatM} (h:z1p n (bs++[b])) (h0:0<=n):z01 b=0/\n<=b.base/\(∀ c,bs.getLast? = some c->c.base<b.base)/\z1p n bs/\z05 bs<=b.base:=by
 induction bs generalizing n with
 | nil=>exact ⟨h.1,h.2.2.1,by simp,trivial,by have:=h.2.2.1;show (0:Int)<=_;omega⟩
 | cons a bs ih =>
  obtain ⟨h1,h2,h3,h4⟩:=h
  obtain ⟨s1,-,⟨-,hba,-⟩,-,s2⟩:=z1d a h1
  obtain ⟨i1,i2,i3,i4,i5⟩:=ih h4 (by omega)
  refine ⟨i1,by omega,λc hc=>?_,⟨h1,h2,h3,i4⟩,?_⟩
  ·cases bs with
   | nil=>simp at hc;subst hc;omega
   | cons d ds=>exact i3 c (by simpa using hc)
  ·cases bs with
   | nil=>show a.base+z00 a<=_;omega
   | cons d ds=>exact i5
theorem zd0 (gap:Int):∀ (m:Nat) {n q:Int} {bs:List BatM},bs.length=m->0<=n->0<=q->z1p n bs->q+(bs.flatMap frL).length<=4194304->IdxOk gap q bs (z7c (z6k gap) q bs)
 | 0,n,q,bs,hm,_,hq,_,_=>by
  have:bs=[]:=List.length_eq_zero_iff.1 hm
  subst this
  exact ⟨rfl,rfl,rfl,by show (-1:Int)<_;simp;omega,(λ_ h=>by cases h),(λ_ h=>by cases h),(λ_ h=>by cases h),.nil,.nil⟩
 | m+1,n,q,bs,hm,hn,hq,hb,hl=>by
  have hne:bs≠[]:=by rintro rfl;cases hm
  obtain ⟨bs,b,rfl⟩:∃ cs b,bs=cs++[b]:=⟨bs.dropLast,bs.getLast hne,(List.dropLast_concat_getLast hne).symm⟩
  rw [List.length_append] at hm
  obtain ⟨hv,hnb,hlb,hb',-⟩:=z9m hb hn
  have hfl:=z3l hv
  have hfl2:((bs++[b]).flatMap frL).length=(bs.flatMap frL).length+(frL b).length:=by simp
  have ih:=zd0 gap m (by simpa using hm) hn hq hb' (by omega)
  have hlt:=zw6 hv
  obtain ⟨-,-,⟨-,hba,-⟩,-,-⟩:=z1d b hv
  rw [z9q]
  generalize hx:z7c (z6k gap) q bs=x at ih
  have hoff:x.offset<b.base:=by
   rw [ih.offset]
   cases hc:bs.getLast? with
   | none=>show (-1:Int)<_;omega
   | some c=>exact hlb c hc
  unfold z6q
  rw [if_neg (by intro h;apply h;exact ⟨by omega,by omega,by omega⟩),if_neg (by have:=ih.place;omega)]
  have hw:∀ (i:Nat) (hi:i<bs.length),(bs++[b])[i]'(by rw [List.length_append];omega)=bs[i]/\(bs++[b]).take i=bs.take i:=λi hi=>⟨List.getElem_append_left hi,by rw [List.take_append_of_le_length (by omega)]⟩
  have hmem:∀ e ∈ z3n x b.base (q+(bs.flatMap frL).length),e ∈ x.l\/e=⟨b.base,q+(bs.flatMap frL).length,x.late⟩:=λe he=>by
   unfold z3n at he
   split at he
   ·rcases List.mem_append.1 he with he|he
    ·exact .inl he
    ·exact .inr (by simpa using he)
   ·exact .inl he
  have hent:∀ e ∈ x.l,e.offset<b.base/\e.before<=x.late:=λe he=>by
   obtain ⟨i,hi,rfl⟩:=ih.ent e he
   refine ⟨?_,by rw [ih.late];exact zri bs i⟩
   have hlast:∀ {n:Int} {bs:List BatM},z1p n bs->0<=n->∀ (i:Nat) (hi:i<bs.length),bs[i].base<z05 bs:=by
    intro n bs hbs hn i hi
    have h1:z1p n (bs.take i++[bs[i]]):=by
     have:=hbs.take (i+1)
     rwa [List.take_succ_eq_append_getElem hi] at this
    have h2:=z9m h1 hn
    have h3:∀ {n:Int} {ds cs:List BatM},z1p n (ds++cs)->0<=n->z05 ds<=z05 (ds++cs):=by
     intro n ds cs h hn
     induction cs generalizing ds with
     | nil=>rw [List.append_nil];exact Int.le_refl _
     | cons c cs ih =>
      have h':z1p n ((ds++[c])++cs):=by rwa [List.append_assoc]
      have i1:=ih h'
      rw [List.append_assoc] at i1
      have h4:z1p n (ds++[c]):=by
       have:=h'.take (ds++[c]).length
       rwa [List.take_left] at this
      have h5:=z9m h4 hn
      obtain ⟨s1,-,-,-,-⟩:=z1d c h5.1
      have e:z05 (ds++[c])=c.base+z00 c:=z3d ds c
      have i1:z05 (ds++[c])<=z05 (ds++(c::cs)):=i1
      have:=h5.2.2.2.2
      omega
    have h6:=h3 (ds:=bs.take i++[bs[i]]) (cs:=bs.drop (i+1)) (by rw [<- List.take_succ_eq_append_getElem hi,List.take_append_drop];exact hbs) hn
    rw [<- List.take_succ_eq_append_getElem hi,List.take_append_drop,List.take_succ_eq_append_getElem hi,z3d] at h6
    obtain ⟨s1,-,-,-,-⟩:=z1d _ h2.1
    omega
   have h7:=hlast hb' hn i hi
   have h8:=(z9m hb hn).2.2.2.2
   show bs[i].base<b.base
   omega
  refine ⟨ih.gap,?_,by rw [z1g],?_,?_,?_,?_,?_,?_⟩
  ·rw [zb3,<- ih.late]
  ·show q+((bs.flatMap frL).length:Int)<_
   omega
  ·intro e he
   show e.place<=q+((bs.flatMap frL).length:Int)
   rcases hmem e he with he|rfl
   ·have:=ih.lplace e he
    have:=ih.place
    omega
   ·exact Int.le_refl _
  ·intro e he
   rcases hmem e he with he|rfl
   ·obtain ⟨i,hi,rfl⟩:=ih.ent e he
    obtain ⟨h1,h2⟩:=hw i hi
    exact ⟨i,by rw [List.length_append];omega,by rw [h1,h2]⟩
   ·refine ⟨bs.length,by simp,?_⟩
    rw [List.getElem_append_right (Nat.le_refl _),List.take_left,ih.late]
    simp
  ·intro a ha
   show (z3n x b.base (q+(bs.flatMap frL).length)).head? = _
   cases bs with
   | nil =>
    simp at ha
    subst ha
    subst hx
    show some (⟨b.base,q+((([]:List BatM).flatMap frL).length:Int),-1⟩:EntA)=_
    congr 2
    simp
   | cons c cs =>
    have h1:=ih.first a (by simpa using ha)
    unfold z3n
    split
    ·rw [List.head?_append,h1];rfl
    ·exact h1
  ·show (z3n x b.base _).Pairwise _
   unfold z3n
   split
   ·refine List.pairwise_append.2 ⟨ih.offs,by simp,λa ha c hc=>?_⟩
    simp at hc
    subst hc
    exact (hent a ha).1
   ·exact ih.offs
  ·show (z3n x b.base _).Pairwise _
   unfold z3n
   split
   ·refine List.pairwise_append.2 ⟨ih.befs,by simp,λa ha c hc=>?_⟩
    simp at hc
    subst hc
    exact (hent a ha).2
   ·exact ih.befs
theorem zrl {α:Type} {p:α->Bool} {l:List α} {i:Nat} (hi:i<=l.length) (h1:∀ x ∈ l.take i,p x=true) (h2:∀ x ∈ l.drop i,p x=false):l.filter p=l.take i:=by
 rw [<- List.take_append_drop i l,List.filter_append,List.filter_eq_self.2 h1,List.filter_eq_nil_iff.2 λx hx=>by rw [h2 x hx];simp,List.append_nil]
 rw [List.take_append_drop]
theorem zfe {α:Type} {p:α->Bool} {l:List α} {i:Nat} (hi:i<=l.length) (hm:l.Pairwise λa b=>p b=true->p a=true) (h1:∀ (h:i-1<l.length),0<i->p l[i-1]=true) (h2:∀ h:i<l.length,p l[i]=false):l.filter p=l.take i:=by
 have hm':∀ (a b:Nat) (hb:b<l.length) (h:a<b),p l[b]=true->p (l[a]'(by omega))=true:=λa b hb h=>List.pairwise_iff_getElem.1 hm a b (by omega) hb h
 refine zrl hi (λx hx=>?_) λx hx=>?_
 ·obtain ⟨j,hj,rfl⟩:=List.mem_iff_getElem.1 hx
  rw [List.length_take] at hj
  rw [List.getElem_take]
  by_cases hji:j=i-1
  ·subst hji;exact h1 (by omega) (by omega)
  ·exact hm' j (i-1) (by omega) (by omega) (h1 (by omega) (by omega))
 ·obtain ⟨j,hj,rfl⟩:=List.mem_iff_getElem.1 hx
  rw [List.length_drop] at hj
  rw [List.getElem_drop]
  cases hp:p (l[i+j]'(by omega)) with
  | false=>rfl
  | true =>
   have h3:=h2 (by omega)
   by_cases hj0:j=0
   ·subst hj0;simp only [Nat.add_zero] at hp;rw [hp] at h3;cases h3
   ·have:=hm' i (i+j) (by omega) (by omega) hp
    rw [this] at h3;cases h3
theorem zi4 {α:Type} {l:List α} {i:Nat} (hi:i<=l.length):(l.take i).getLast? = if i=0 then none else l[i-1]? := by
 cases i with
 | zero=>simp
 | succ i =>
  rw [if_neg (by omega),List.take_succ_eq_append_getElem (by omega),z1g]
  simp
theorem zlh {α:Type} {p:α->Bool} {l:List α} {e:α} (h:(l.filter p).getLast? = some e):∃ a c,l=a++e::c/\p e=true/\∀ x ∈ c,p x=false:=by
 induction l with
 | nil=>simp at h
 | cons y r ih =>
  rw [List.filter_cons] at h
  by_cases hr:(r.filter p)=[]
  ·split at h
   ·rw [hr] at h
    simp at h
    subst h
    exact ⟨[],r,rfl,by assumption,λx hx=>by simpa using List.filter_eq_nil_iff.1 hr x hx⟩
   ·rw [hr] at h;simp at h
  ·have h':(r.filter p).getLast? = some e:=by
    split at h
    ·cases hq:r.filter p with
     | nil=>exact absurd hq hr
     | cons z zs=>rw [hq] at h;simpa using h
    ·exact h
   obtain ⟨a,c,rfl,h1,h2⟩:=ih h'
   exact ⟨y::a,c,rfl,h1,h2⟩
theorem Ret.mono {P:Program} {f:FuncId} {args:Array Value} {w:World} {R R':List Value->World->Prop} (h:Ret P f args w R) (hi:∀ vs w',R vs w'->R' vs w'):Ret P f args w R' :=
 Calls.mono h λe w' ⟨vs,he,hv⟩=>⟨vs,he,hi _ _ hv⟩
def stR (R:RdM):Lf:=if R.e=0 then some (z50 R) else none
theorem z7f {R:RdM} (h:R.e=0):stR R=some (z50 R):=if_pos h
theorem z6m {R:RdM} (h:R.e≠0):stR R=none:=if_neg h
theorem zvt {R:RdM}:(stR R).isSome=decide (R.e=0):=by
 unfold stR;split <;> simp [*]
theorem zd9 {R:RdM}:(R.uint).1=(z0t (stR R)).1/\stR R.uint.2=(z0t (stR R)).2:=by
 by_cases h:R.e=0
 ·rw [z7f h]
  cases hn:z40 0 (R.bs.drop R.at_) with
  | none =>
   have e1:R.uint=(0,⟨R.bs,R.at_,6⟩):=by unfold RdM.uint;rw [if_neg (by rw [h];simp)];simp only [hn]
   have e2:z0t (some (z50 R))=(0,none):=by unfold z0t z50;simp only [hn]
   rw [e1,e2]
   exact ⟨rfl,if_neg (show ¬ (6:Int)=0 by decide)⟩
  | some q =>
   have e1:R.uint=(q.1,⟨R.bs,R.at_+q.2,R.e⟩):=by unfold RdM.uint;rw [if_neg (by rw [h];simp)];simp only [hn]
   have e2:z0t (some (z50 R))=(q.1,some ((z50 R).drop q.2)):=by unfold z0t z50;simp only [hn]
   rw [e1,e2]
   refine ⟨rfl,?_⟩
   show (if R.e=0 then some (R.bs.drop (R.at_+q.2)) else none)=some ((R.bs.drop R.at_).drop q.2)
   rw [if_pos h,List.drop_drop]
 ·rw [zjv h]
  show 0=(z0t (stR R)).1/\stR R=(z0t (stR R)).2
  rw [z6m h]
  exact ⟨rfl,rfl⟩
theorem zhc {R:RdM} {lo hi:Int}:(R.within lo hi).1=(z1v lo hi (stR R)).1/\stR (R.within lo hi).2=(z1v lo hi (stR R)).2:=by
 obtain ⟨h1,h2⟩:=zd9 (R:=R)
 unfold RdM.within z1v
 rw [<- h1,<- h2]
 by_cases h:R.uint.2.e=0
 ·rw [if_neg (by rw [h];simp),z7f h]
  simp only
  by_cases hc:zag R.uint.1<lo\/zag R.uint.1>hi
  ·rw [if_pos hc,if_pos hc]
   exact ⟨rfl,if_neg (show ¬ (8:Int)=0 by decide)⟩
  ·rw [if_neg hc,if_neg hc]
   exact ⟨rfl,z7f h⟩
 ·rw [if_pos h]
  show 0=_/\stR R.uint.2=_
  rw [z6m h]
  exact ⟨rfl,rfl⟩
def rdS (T':TypeId) (p:Nat) (s:Lf):HP:=HP.ex λR:RdM=>HP.and (stR R=s) (rdP T' p R)
section
variable {w:World} {l r:List HP} {p:Nat} {s:Lf} {T':TypeId}
theorem z6u (hs:Sat w (rdS T' p s::l)):∃ R:RdM,stR R=s/\Sat w (rdP T' p R::l):=by
 obtain ⟨R,hs⟩:=hs.ex
 obtain ⟨h,hs⟩:=hs.and
 exact ⟨R,h,hs⟩
theorem z2w {R:RdM} (h:stR R=s) (hs:Sat w (rdP T' p R::l)):Sat w (rdS T' p s::l):=.ex_mk R (.and_mk h hs)
theorem zts (x:Sl) (bs:List UInt8) [hx:FocR l x 1 (bs.flatMap zh)] (hn:bs.length<=1000000000) (hs:Sat w l) :
  Ret P F.a150 #[x.v] w λvs w'=>∃ p:Nat,vs=[.pointer (some ⟨p,0,none⟩)]/\Sat w' (rdS T.a41 p (some bs)::l) :=
 (zlz x bs hn hs).mono λ_ _ h=>by
  obtain ⟨p,rfl,hs⟩:=h
  exact ⟨p,rfl,z2w (R:=⟨bs,0,0⟩) rfl hs⟩
theorem zgq [hf:Fo l (rdS T.a41) p s r] (hs:Sat w l):Ret P F.a157 #[.pointer (some ⟨p,0,none⟩)] w λvs w'=>vs=[.int .u64 ((z0t s).1:Int)]/\Sat w' (rdS T.a41 p (z0t s).2::r):=by
 obtain ⟨R,rfl,hs⟩:=z6u (hs.perm hf.perm)
 refine (znw (p:=p) hs).mono λ_ _ h=>?_
 obtain ⟨rfl,hs⟩:=h
 exact ⟨by rw [zd9.1],z2w zd9.2 hs⟩
theorem zsu (lo hi:Int) [hf:Fo l (rdS T.a41) p s r] (hs:Sat w l):Ret P F.a158 #[.pointer (some ⟨p,0,none⟩),.int .i64 lo,.int .i64 hi] w λvs w'=>vs=[.int .i64 (z1v lo hi s).1]/\Sat w' (rdS T.a41 p (z1v lo hi s).2::r):=by
 obtain ⟨R,rfl,hs⟩:=z6u (hs.perm hf.perm)
 refine (zsa (p:=p) lo hi hs).mono λ_ _ h=>?_
 obtain ⟨rfl,hs⟩:=h
 exact ⟨by rw [zhc.1],z2w zhc.2 hs⟩
theorem zsd [hf:Fo l (rdS T.a41) p s r] (hs:Sat w l):Ret P F.a153 #[.pointer (some ⟨p,0,none⟩)] w λvs w'=>∃ e:Int,vs=[.int .i64 e]/\(e=0↔s.isSome=true)/\Sat w' (rdS T.a41 p s::r):=by
 obtain ⟨R,rfl,hs⟩:=z6u (hs.perm hf.perm)
 refine (z02l (p:=p) hs).mono λ_ _ h=>?_
 obtain ⟨rfl,hs⟩:=h
 exact ⟨R.e,rfl,by rw [zvt,decide_eq_true_iff],z2w rfl hs⟩
theorem zt9 [hf:Fo l (rdS T.a41) p s r] (hs:Sat w l):Ret P F.a152 #[.pointer (some ⟨p,0,none⟩)] w λvs w'=>∃ e:Int,vs=[.int .i64 e]/\(e=0↔s=some [])/\Sat w' r:=by
 obtain ⟨R,rfl,hs⟩:=z6u (hs.perm hf.perm)
 have hb:=(z5v hs).1
 refine (z01r (p:=p) hs).mono λ_ _ h=>?_
 obtain ⟨rfl,hs⟩:=h
 refine ⟨_,rfl,?_,hs.tail⟩
 rw [zrp hb]
 unfold stR
 by_cases h:R.e=0 <;> simp [h]
end
section
variable {w:World} {l r:List HP} {p:Nat} {s:Lf}
theorem zzd (b:Bool) (hs:Sat w l):Ret P F.a147 #[.bool b] w λvs w'=>∃ z:Sl,vs=[z.v]/\Sat w' (slc T.a39 1 z ([z54 b].flatMap zh)::l) :=
 zmn b <| by
  unfold zy1
  refine zf (λh=>?_) λh=>?_
  ·subst h
   refine z1t hs (enc:=zh) (1:UInt8) λz w' hs=>?_
   exact ⟨rfl,z,rfl,hs⟩
  ·have h:b=false:=by simpa using h
   subst h
   refine z1t hs (enc:=zh) (0:UInt8) λz w' hs=>?_
   exact ⟨rfl,z,rfl,hs⟩
theorem zh9 (n:Nat) {x:Sl} {bs:List UInt8} {e:Int} {at_:Nat} (hn:at_+n<=bs.length) (hb:bs.length<=1000000000) (hcap:x.len<=x.cap) [hf:FocB l p (.cells [.slice x.a x.len x.cap,.int .i64 at_,.int .i64 e].toArray T.a41) r] [hr:FocR r x 1 (bs.flatMap zh)] (hs:Sat w l) :
  Ret P F.a164 #[.pointer (some ⟨p,0,none⟩),.int .i64 n] w λvs w'=>vs=[.slice (z12 x.a 1 at_ x.cap) n (x.cap-at_)]/\Sat w' (pt p (.cells #[.slice x.a x.len x.cap,.int .i64 (at_+n:Nat),.int .i64 e] T.a41)::r) :=
 zmm _ n <| by
  unfold zwx
  have hs:=hs.perm hf.perm
  have hl:=hs.slen x (xs:=bs) (enc:=zh)
  refine zm ?_
  refine za hs ?_
  refine zm ?_
  have e2:IntKind.wrap .i64 ((at_:Int)+n)=((at_+n:Nat):Int):=by rw [w64 (by omega) (by omega)];omega
  rw [e2]
  refine z0d hs λw' hs=>?_
  refine z0a hs λw' hs=>?_
  refine zm ?_
  refine za hs ?_
  refine zm ?_
  refine za hs ?_
  refine zm ?_
  refine za hs ?_
  have e3:IntKind.wrap .i64 (((at_+n:Nat):Int)-n)=(at_:Int):=by rw [w64 (by omega) (by omega)];omega
  rw [e3]
  refine wp_must (by omega) ?_
  refine zj ?_
  refine ⟨rfl,?_,hs⟩
  simp only [Int.toNat_natCast,Nat.add_sub_cancel_left]
end
theorem bvi (s:BitVec 32):BitVec.ofInt 32 ((s.toNat:Nat):Int)=s:=by rw [BitVec.ofInt_natCast,BitVec.ofNat_toNat,BitVec.setWidth_eq]
theorem wbv (s:BitVec 32):IntKind.wrap .u32 ((s.toNat:Nat):Int)=((s.toNat:Nat):Int):=by rw [z9n,Nat.mod_eq_of_lt s.isLt]
theorem zt5 (s:BitVec 32):BitVec.ofInt 32 4294967295 ^^^ BitVec.ofInt 32 ((s.toNat:Nat):Int) = ~~~ s:=by
 rw [bvi]
 have:BitVec.ofInt 32 4294967295=BitVec.allOnes 32:=by decide +kernel
 rw [this,BitVec.allOnes_xor]
theorem z03u (s:BitVec 32):BitVec.ofInt 32 (Int.fdiv ((s.toNat:Nat):Int) 2)=s >>> 1:=by
 rw [z6w _ (by decide),BitVec.ofInt_natCast]
 apply BitVec.eq_of_toNat_eq
 have:=s.isLt
 rw [BitVec.toNat_ofNat,BitVec.toNat_ushiftRight,Nat.shiftRight_eq_div_pow]
 show s.toNat / 2 % 2 ^ 32=s.toNat / 2 ^ 1
 omega
theorem z01p (s:BitVec 32):BitVec.ofInt 32 (IntKind.wrap .u32 (0-((s.toNat:Nat):Int)))=0#32-s:=by
 apply BitVec.eq_of_toNat_eq
 have:=s.isLt
 have e:IntKind.wrap .u32 (0-((s.toNat:Nat):Int))=(((4294967296-s.toNat) % 4294967296:Nat):Int):=by
  simp [IntKind.wrap,IntKind.bits,IntKind.signed];omega
 rw [e,BitVec.ofInt_natCast,BitVec.toNat_ofNat,BitVec.toNat_sub]
 simp
theorem zz9 (s:BitVec 32):IntKind.wrap .u32 (((BitVec.toNat (BitVec.ofInt 32 (Int.fdiv ((s.toNat:Nat):Int) 2) ^^^ BitVec.ofInt 32 (IntKind.wrap .u32 (((BitVec.toNat (BitVec.ofInt 32 3988292384 &&& BitVec.ofInt 32 (IntKind.wrap .u32 (0-IntKind.wrap .u32 (((BitVec.toNat (BitVec.ofInt 32 ((s.toNat:Nat):Int) &&& BitVec.ofInt 32 1):Nat):Int))))):Nat):Int)))):Nat):Int))=(((zel s).toNat:Nat):Int):=by
 rw [wbv,wbv,wbv,bvi,bvi,z01p,z03u]
 rfl
theorem zvo (s:BitVec 32) (c:UInt8):IntKind.wrap .u32 (((BitVec.toNat (BitVec.ofInt 32 ((s.toNat:Nat):Int) ^^^ BitVec.ofInt 32 (IntKind.wrap .u32 ((c.toNat:Nat):Int))):Nat):Int))=(((s ^^^ BitVec.ofNat 32 c.toNat).toNat:Nat):Int):=by
 have:=c.toNat_lt
 rw [wbv,bvi,z9n,Nat.mod_eq_of_lt (by omega),BitVec.ofInt_natCast]
section
variable {w:World} {l r:List HP} {Q:Post} {S:World->Prop}
theorem zii (s:BitVec 32) (bs:List UInt8) (i:Nat) (hi:i<bs.length):z42 s (bs.take (i+1))=zgi (z42 s (bs.take i)) bs[i]:=by
 unfold z42
 rw [List.take_add_one,List.getElem?_eq_getElem hi,Option.toList_some,List.foldl_append];rfl
theorem zzw (m:BitVec 32) (x:Sl) (ps:List (Sl × List UInt8)) [hx:FocR l x 1 ((ps.map Prod.fst).flatMap z0b)] (hps:∀ p ∈ ps,FocR l p.1 1 (p.2.flatMap zh)/\p.2.length<=1000000000) (hpl:ps.length<=1000000) (hs:Sat w l) :
  Ret P F.a18 #[.int .u32 ((m.toNat:Nat):Int),x.v] w λvs w'=>vs=[.int .u32 (((ziw m (ps.flatMap Prod.snd)).toNat:Nat):Int)]/\Sat w' l :=
 zqo _ x <| by
  unfold z024
  have hl:=hs.slen x (xs:=ps.map Prod.fst) (enc:=z0b)
  rw [List.length_map] at hl
  rw [zt5,wbv]
  refine wp_lt ?_
  refine zn (λu w'=>u=((((z42 (~~~ m) (ps.flatMap Prod.snd)).toNat:Nat):Int),())/\Sat w' l) ?_ ?_
  rotate_left
  ·rintro _ w' ⟨rfl,hs⟩
   refine zl ?_
   rw [zt5,wbv]
   refine wp_lt ?_
   exact ⟨rfl,rfl,hs⟩
  refine z06 (λk u w=>∃ i:Nat,u=((((z42 (~~~ m) ((ps.take i).flatMap Prod.snd)).toNat:Nat):Int),(i:Int),())/\i<=ps.length/\ps.length-i=k/\Sat w l) ps.length ⟨0,rfl,by omega,rfl,hs⟩ ?_
  clear hs
  rintro k _ w ⟨i,rfl,hi,hk,hs⟩
  refine zl ?_
  refine zf (λhc=>?_) λhc=>?_
  rotate_left
  ·refine zk (zg ⟨?_,hs⟩)
   rw [List.take_of_length_le (by omega)]
  have hil:i<ps.length:=by omega
  obtain ⟨hF,hpl2⟩:=hps _ (List.getElem_mem hil)
  have hpi:=hs.slen ps[i].1 (xs:=ps[i].2) (enc:=zh)
  refine zn (λu w'=>u=((((z42 (~~~ m) ((ps.take (i+1)).flatMap Prod.snd)).toNat:Nat):Int),())/\Sat w' l) ?_ ?_
  rotate_left
  ·rintro _ w' ⟨rfl,hs⟩
   refine zl ?_
   refine z4x (us':=[.int .u32 (((z42 (~~~ m) ((ps.take (i+1)).flatMap Prod.snd)).toNat:Nat):Int),.int .i64 ((i+1:Nat):Int)]) (by (try simp (disch:=omega) only [w64]);first|rfl|(congr;omega)) ?_
   refine z0l (ps.length-(i+1)) ?_
   exact ⟨i+1,rfl,by omega,rfl,hs⟩
  refine z1z hs (xs:=ps.map Prod.fst) (enc:=z0b) i (by rw [List.length_map];exact hil) ?_
  rw [List.getElem_map]
  have hto:z42 (~~~ m) ((ps.take (i+1)).flatMap Prod.snd)=z42 (z42 (~~~ m) ((ps.take i).flatMap Prod.snd)) ps[i].2:=by
   rw [List.take_add_one,List.getElem?_eq_getElem hil,Option.toList_some,List.flatMap_append,List.flatMap_singleton]
   unfold z42
   rw [List.foldl_append]
  rw [hto]
  generalize z42 (~~~ m) ((ps.take i).flatMap Prod.snd)=s0
  generalize ps[i]=q at *
  refine zn (λu w'=>u=((((z42 s0 q.2).toNat:Nat):Int),())/\Sat w' l) ?_ (by rintro _ w' ⟨rfl,hs⟩;refine zl ?_;exact zg ⟨rfl,hs⟩)
  refine z06 (λk u w=>∃ j:Nat,u=((((z42 s0 (q.2.take j)).toNat:Nat):Int),(j:Int),())/\j<=q.2.length/\q.2.length-j=k/\Sat w l) q.2.length ⟨0,rfl,by omega,rfl,hs⟩ ?_
  clear hs
  rintro k _ w ⟨j,rfl,hj,hk,hs⟩
  refine zl ?_
  refine zf (λhc=>?_) λhc=>?_
  rotate_left
  ·refine zk (zg ⟨?_,hs⟩)
   rw [List.take_of_length_le (by omega)]
  have hjl:j<q.2.length:=by omega
  refine zn (λu w'=>u=((((z42 s0 (q.2.take (j+1))).toNat:Nat):Int),())/\Sat w' l) ?_ ?_
  rotate_left
  ·rintro _ w' ⟨rfl,hs⟩
   refine zl ?_
   refine z4x (us':=[.int .u32 (((z42 s0 (q.2.take (j+1))).toNat:Nat):Int),.int .i64 ((j+1:Nat):Int)]) (by (try simp (disch:=omega) only [w64]);first|rfl|(congr;omega)) ?_
   refine z0l (q.2.length-(j+1)) ?_
   exact ⟨j+1,rfl,by omega,rfl,hs⟩
  refine z1z hs (xs:=q.2) (enc:=zh) j hjl ?_
  refine wp_lt ?_
  rw [zvo]
  refine wp_lt ?_
  rw [zii s0 q.2 j hjl]
  generalize z42 s0 (q.2.take j)=s1
  show Prog.wp P _ _ _ _
  refine zn (λu w'=>u=((((zgi s1 q.2[j]).toNat:Nat):Int),())/\Sat w' l) ?_ (by rintro _ w' ⟨rfl,hs⟩;refine zl ?_;exact zg ⟨rfl,hs⟩)
  unfold zgi
  generalize s1 ^^^ BitVec.ofNat 32 q.2[j].toNat=s2
  refine z06 (λk u w=>∃ i:Nat,u=((((zem i s2).toNat:Nat):Int),(i:Int),())/\i<=8/\8-i=k/\Sat w l) 8 ⟨0,rfl,by omega,rfl,hs⟩ ?_
  clear hs
  rintro k _ w ⟨i,rfl,hi,hk,hs⟩
  refine zl ?_
  refine zf (λhc=>?_) λhc=>?_
  rotate_left
  ·obtain rfl:i=8:=by omega
   exact zk (zg ⟨rfl,hs⟩)
  rw [zz9]
  refine wp_lt ?_
  refine z4x (us':=[.int .u32 (((zel (zem i s2)).toNat:Nat):Int),.int .i64 ((i+1:Nat):Int)]) (by (try simp (disch:=omega) only [w64]);first|rfl|(congr;omega)) ?_
  refine z0l (8-(i+1)) ?_
  exact ⟨i+1,rfl,by omega,rfl,hs⟩
theorem z02a (x:Sl) (ps:List (Sl × List UInt8)) [hx:FocR l x 1 ((ps.map Prod.fst).flatMap z0b)] (hps:∀ p ∈ ps,FocR l p.1 1 (p.2.flatMap zh)/\p.2.length<=1000000000) (hpl:ps.length<=1000000) (hs:Sat w l) :
  Ret P F.a20 #[x.v] w λvs w'=>vs=[.int .u32 ((z5w (ps.flatMap Prod.snd):Nat):Int)]/\Sat w' l :=
 zox x <| by
  unfold z02b
  refine zb (zzw 0#32 x ps hps hpl hs) λ_ _ hs=>?_
  obtain ⟨rfl,hs⟩:=hs
  refine zd ?_
  refine wp_lt ?_
  exact ⟨rfl,rfl,hs⟩
theorem zgz (x y:Sl) (bs:List UInt8) [hx:FocR l x 1 ([y].flatMap z0b)] [hy:FocR l y 1 (bs.flatMap zh)] (hn:bs.length<=1000000000) (hs:Sat w l) :
  Ret P F.a20 #[x.v] w λvs w'=>vs=[.int .u32 ((z5w bs:Nat):Int)]/\Sat w' l:=by
 have:=@z02a w l x [(y,bs)] hx (by intro p hp;rw [List.mem_singleton.1 hp];exact ⟨hy,hn⟩) (by simp) hs
 simpa using this
theorem zoj (n:Nat) (hn:n<4294967296) (hs:Sat w l):Ret P F.a21 #[.int .u32 (n:Int)] w λvs w'=>∃ z:Sl,vs=[z.v]/\Sat w' (slc T.a39 1 z ((z2b n).flatMap zh)::l) :=
 zpg n <| by
  unfold z02r
  have e0:IntKind.wrap .u8 (n:Int)=(((UInt8.ofNat n).toNat:Nat):Int):=by rw [z8a];simp
  have e1:IntKind.wrap .u8 (Int.fdiv (n:Int) 256)=(((UInt8.ofNat (n / 256)).toNat:Nat):Int):=by rw [z6w n (by decide),z8a];simp
  have e2:IntKind.wrap .u8 (Int.fdiv (n:Int) 65536)=(((UInt8.ofNat (n / 65536)).toNat:Nat):Int):=by rw [z6w n (by decide),z8a];simp
  have e3:IntKind.wrap .u8 (Int.fdiv (n:Int) 16777216)=(((UInt8.ofNat (n / 16777216)).toNat:Nat):Int):=by rw [z6w n (by decide),z8a];simp
  rw [e0,e1,e2,e3]
  refine z8r hs (enc:=zh) (z2b n) (cs:=((z2b n).flatMap zh).toArray) (by kernel_rfl) (λb w' hs=>?_) (by simp)
  exact ⟨rfl,_,rfl,hs⟩
theorem zof (n:Nat) (hn:n<4294967296) (hs:Sat w l):Ret P F.a118 #[.int .u32 (n:Int)] w λvs w'=>∃ z:Sl,vs=[z.v]/\Sat w' (slc T.a39 1 z ((z2b n).flatMap zh)::l) :=
 zm7 n <| by
  unfold zwu
  refine zn (λu w'=>∃ z:Sl,u=(z,())/\Sat w' (slc T.a39 1 z ((z2b n).flatMap zh)::l)) ?_ (by rintro _ w' ⟨z,rfl,hs⟩;refine zl ?_;exact ⟨rfl,z,rfl,hs⟩)
  refine z06 (λk u w=>∃ (i:Nat) (z:Sl),u=(((n / 256 ^ i:Nat):Int),z,(i:Int),())/\i<=4/\4-i=k/\Sat w (slc T.a39 1 z (((z2b n).take i).flatMap zh)::l)) 4 ⟨0,⟨none,0,0⟩,by simp,by omega,rfl,hs.slc_nil⟩ ?_
  clear hs
  rintro k _ w ⟨i,z,rfl,hi,hk,hs⟩
  refine zl ?_
  refine zf (λhc=>?_) λhc=>?_
  rotate_left
  ·obtain rfl:i=4:=by omega
   exact zk (zg ⟨z,rfl,hs⟩)
  have hil:i<(z2b n).length:=by rw [z3v];omega
  have hto:(z2b n).take (i+1)=(z2b n).take i++[UInt8.ofNat (n / 256 ^ i)]:=by
   rw [List.take_add_one,List.getElem?_eq_getElem hil,Option.toList_some]
   congr 2
   have hcase:i=0\/i=1\/i=2\/i=3:=by omega
   rcases hcase with rfl|rfl|rfl|rfl <;> simp [z2b]
  have hlen:((z2b n).take i).length<=4:=by rw [List.length_take];omega
  refine z5z hs (xs:=(z2b n).take i) (enc:=zh) (UInt8.ofNat (n / 256 ^ i)) (λz w' hs=>?_) ?_
  ·rw [<- hto] at hs
   have hlt:n / 256 ^ i<=n:=Nat.div_le_self ..
   refine z1k (y:=((n / 256 ^ (i+1):Nat):Int)) ?_ ?_
   ·refine z1k (y:=((i+1:Nat):Int)) ?_ (by rw [w64 (by omega) (by omega)];omega)
    refine z0l (4-(i+1)) ?_
    exact ⟨i+1,z,rfl,by omega,rfl,hs⟩
   ·rw [zja _ (by decide),z9n,Nat.pow_succ,<- Nat.div_div_eq_div_mul]
    generalize n / 256 ^ i=m at hlt
    congr 1
    show m / 256 % _=m / 256
    omega
  ·rw [zer _ (by decide)]
   unfold zh
   rw [z8a]
   simp
theorem zv3 {a b c d:Nat} (ha:a<256) (hb:b<256) (hc:c<256) (hd:d<256) :
  IntKind.wrap .u32 (((BitVec.toNat (BitVec.ofInt 32 (IntKind.wrap .u32 (((BitVec.toNat (BitVec.ofInt 32 (IntKind.wrap .u32 (((BitVec.toNat (BitVec.ofInt 32 (IntKind.wrap .u32 (a:Int)) ||| BitVec.ofInt 32 (IntKind.wrap .u32 (IntKind.wrap .u32 (b:Int)*256))):Nat):Int))) ||| BitVec.ofInt 32 (IntKind.wrap .u32 (IntKind.wrap .u32 (c:Int)*65536))):Nat):Int))) ||| BitVec.ofInt 32 (IntKind.wrap .u32 (IntKind.wrap .u32 (d:Int)*16777216))):Nat):Int))=((a+256*b+65536*c+16777216*d:Nat):Int):=by
 have wm:∀ {m:Nat},m<4294967296->IntKind.wrap .u32 (m:Int)=(m:Int):=λ{m} h=>by rw [z9n,Nat.mod_eq_of_lt h]
 have or2:∀ {x y i:Nat},x<2 ^ i->y*2 ^ i+x<4294967296->BitVec.toNat (BitVec.ofInt 32 (x:Int) ||| BitVec.ofInt 32 ((y*2 ^ i:Nat):Int))=x+y*2 ^ i:=λ{x y i} h1 h2=>by
  rw [BitVec.ofInt_natCast,BitVec.ofInt_natCast,BitVec.toNat_or,BitVec.toNat_ofNat,BitVec.toNat_ofNat,Nat.mod_eq_of_lt (show x<2 ^ 32 by omega),Nat.mod_eq_of_lt (show y*2 ^ i<2 ^ 32 by omega),Nat.or_comm,Nat.mul_comm,<- Nat.two_pow_add_eq_or_of_lt h1,Nat.add_comm]
 have m1:((b:Nat):Int)*256=((b*2 ^ 8:Nat):Int):=rfl
 have m2:((c:Nat):Int)*65536=((c*2 ^ 16:Nat):Int):=rfl
 have m3:((d:Nat):Int)*16777216=((d*2 ^ 24:Nat):Int):=rfl
 rw [wm (show a<_ by omega),wm (show b<_ by omega),wm (show c<_ by omega),wm (show d<_ by omega),m1,m2,m3,wm (show b*2 ^ 8<_ by omega),wm (show c*2 ^ 16<_ by omega),wm (show d*2 ^ 24<_ by omega),
  or2 (by omega) (by omega),wm (show a+b*2 ^ 8<_ by omega),or2 (by omega) (by omega),wm (show a+b*2 ^ 8+c*2 ^ 16<_ by omega),or2 (by omega) (by omega),wm (by omega)]
 congr 1
 omega
theorem zut {bs:List UInt8} (h:4<=bs.length):z0r bs=bs[0].toNat+256*bs[1].toNat+65536*bs[2].toNat+16777216*bs[3].toNat:=by
 match bs,h with
 | a::b::c::d::r,_=>rfl
theorem z77 {α:Type} {enc:α->List Value} {xs:List α} {sz m:Nat} {ii:Int} {x:Sl} {T:TypeId} {g':Prop} {p:Pr} {dec:α->p.D} {f:p.D->Prog} (hs:Sat w l) [hf:FocR l x sz (xs.flatMap enc)] [hE:EncN enc sz] [hD:Enc1 enc p dec] [hT:One P T]
  (n:Nat) (hn:n<xs.length) (h:(f (dec xs[n])).wp P S w Q) (hm:m=n*sz:=by rfl) (hi:ii=n:=by rfl) :
  (Prog.ex [.adr] (c1 λa=>(0:Int)<=ii/\ii<((x.len:Nat):Int)/\x.a=some a) (u1 λa=>.read g' (ld T (Addr.add a m)) (.one (.one p)) (u1 f))).wp P S w Q:=by
 subst hm hi
 have hr:=hf.rd w hs
 have hl:x.len=xs.length:=hr.len hE.len hE.pos
 obtain ⟨a,ha,he⟩:=hr.el hE.len (by omega)
 refine ⟨(a,()),⟨by omega,by omega,ha⟩,(dec xs[n],()),λ_=>?_,h⟩
 have:=he n hn
 rw [hD.ok] at this
 have h2:=At.ld1 (P:=P) (T:=T) this rfl
 cases p <;> exact h2
theorem zcp (x:Sl) (bs:List UInt8) [hx:FocR l x 1 (bs.flatMap zh)] (hn:4<=bs.length) (hs:Sat w l):Ret P F.a22 #[x.v] w λvs w'=>vs=[.int .u32 ((z0r bs:Nat):Int)]/\Sat w' l :=
 zrq x <| by
  unfold z01z
  refine z0a hs λw' hs=>?_
  refine z77 hs (xs:=bs) (enc:=zh) 0 (by omega) ?_
  refine z77 hs (xs:=bs) (enc:=zh) 1 (by omega) ?_
  refine z77 hs (xs:=bs) (enc:=zh) 2 (by omega) ?_
  refine z77 hs (xs:=bs) (enc:=zh) 3 (by omega) ?_
  rw [zv3 (by have:=bs[0].toNat_lt;omega) (by have:=bs[1].toNat_lt;omega) (by have:=bs[2].toNat_lt;omega) (by have:=bs[3].toNat_lt;omega),<- zut hn]
  refine wp_lt ?_
  refine zj ?_
  exact ⟨rfl,rfl,hs⟩
theorem zo6 (x:Sl) (ps:List (Sl × List UInt8)) [hx:FocR l x 1 ((ps.map Prod.fst).flatMap z0b)] (hps:∀ p ∈ ps,FocR l p.1 1 (p.2.flatMap zh)/\p.2.length<=1000000000) (hpl:ps.length<=1000000) (hs:Sat w l) :
  Ret P F.a19 #[x.v] w λvs w'=>∃ z:Sl,vs=[z.v]/\Sat w' (slc T.a39 1 z ((z2h (ps.flatMap Prod.snd)).flatMap zh)::l) :=
 zp6 x <| by
  unfold z02z
  have hl:=hs.slen x (xs:=ps.map Prod.fst) (enc:=z0b)
  rw [List.length_map] at hl
  have hstep:∀ i (hi:i<ps.length),(ps.take (i+1)).flatMap Prod.snd=(ps.take i).flatMap Prod.snd++ps[i].2:=λi hi=>by
   rw [List.take_add_one,List.getElem?_eq_getElem hi,Option.toList_some,List.flatMap_append,List.flatMap_singleton]
  have hmany:∀ i,((ps.take i).flatMap Prod.snd).length<=(ps.flatMap Prod.snd).length:=λi=>by
   have:ps.flatMap Prod.snd=(ps.take i).flatMap Prod.snd++(ps.drop i).flatMap Prod.snd:=by rw [<- List.flatMap_append,List.take_append_drop]
   rw [this,List.length_append]
   omega
  refine zn (λu w'=>u=((((ps.flatMap Prod.snd).length:Nat):Int),())/\(ps.flatMap Prod.snd).length<=262144/\Sat w' l) ?_ ?_
  ·refine z06 (λk u w=>∃ i:Nat,u=(((((ps.take i).flatMap Prod.snd).length:Nat):Int),(i:Int),())/\i<=ps.length/\ps.length-i=k/\((ps.take i).flatMap Prod.snd).length<=262144/\Sat w l) ps.length ⟨0,rfl,by omega,rfl,by simp,hs⟩ ?_
   clear hs
   rintro k _ w ⟨i,rfl,hi,hk,hsm,hs⟩
   refine zl ?_
   refine zf (λhc=>?_) λhc=>?_
   rotate_left
   ·rw [List.take_of_length_le (by omega)] at hsm ⊢
    exact zk (zg ⟨rfl,hsm,hs⟩)
   have hil:i<ps.length:=by omega
   refine z1z hs (xs:=ps.map Prod.fst) (enc:=z0b) i (by rw [List.length_map];exact hil) ?_
   rw [List.getElem_map]
   obtain ⟨hF,hpb⟩:=hps _ (List.getElem_mem hil)
   have hpi:=hs.slen ps[i].1 (xs:=ps[i].2) (enc:=zh)
   have h1:=hmany (i+1)
   have h2:=congrArg List.length (hstep i hil)
   rw [List.length_append] at h2
   have e:IntKind.wrap .i64 (((((ps.take i).flatMap Prod.snd).length:Nat):Int)+((ps[i].1.len:Nat):Int))=((((ps.take (i+1)).flatMap Prod.snd).length:Nat):Int):=by rw [w64 (by omega) (by omega)];omega
   refine zix e ?_
   refine zf (λhbig=>?_) λhbig=>?_
   ·refine zk (zk ⟨rfl,⟨none,0,0⟩,rfl,?_⟩)
    have:z2h (ps.flatMap Prod.snd)=[]:=by unfold z2h;rw [if_pos (by omega)]
    rw [this]
    exact hs.slc_nil
   refine z4x (us':=[.int .i64 ((((ps.take (i+1)).flatMap Prod.snd).length:Nat):Int),.int .i64 ((i+1:Nat):Int)]) (by (try simp (disch:=omega) only [w64]);first|rfl|(congr;omega)) ?_
   refine z0l (ps.length-(i+1)) ?_
   exact ⟨i+1,rfl,by omega,rfl,by omega,hs⟩
  clear hs
  rintro _ w ⟨rfl,hsm,hs⟩
  refine zl ?_
  have e8:IntKind.wrap .i64 ((((ps.flatMap Prod.snd).length:Nat):Int)+8)=(((ps.flatMap Prod.snd).length+8:Nat):Int):=by rw [w64 (by omega) (by omega)];omega
  rw [e8,z9n,Nat.mod_eq_of_lt (by omega)]
  refine zo3 ((ps.flatMap Prod.snd).length+8) hs λz w' hs=>?_
  refine zb (zoj (ps.flatMap Prod.snd).length (by omega) hs) λ_ _ hs=>?_
  obtain ⟨y,rfl,hs⟩:=hs
  refine zd ?_
  have hs:=hs.pick [1,0]
  refine wp_app' (xs:=[]) (ys:=z2b (ps.flatMap Prod.snd).length) (enc:=zh) hs (λz w' hs=>?_) (by simp [z3v])
  rw [List.nil_append] at hs
  have hs:Sat w' (slc T.a39 1 z ((z2b (ps.flatMap Prod.snd).length).flatMap zh)::l):=hs.sub
  refine zn (λu w'=>∃ z:Sl,u=(z,())/\Sat w' (slc T.a39 1 z ((z2a (ps.flatMap Prod.snd)).flatMap zh)::l)) ?_ ?_
  ·refine z06 (λk u w=>∃ (i:Nat) (z:Sl),u=(z,(i:Int),())/\i<=ps.length/\ps.length-i=k/\Sat w (slc T.a39 1 z ((z2b (ps.flatMap Prod.snd).length++(ps.take i).flatMap Prod.snd).flatMap zh)::l)) ps.length ⟨0,z,rfl,by omega,rfl,?_⟩ ?_
   ·simpa using hs
   clear hs
   rintro k _ w ⟨i,z,rfl,hi,hk,hs⟩
   refine zl ?_
   refine zf (λhc=>?_) λhc=>?_
   rotate_left
   ·refine zk (zg ⟨z,rfl,?_⟩)
    rw [List.take_of_length_le (by omega)] at hs
    exact hs
   have hil:i<ps.length:=by omega
   refine z1z hs (xs:=ps.map Prod.fst) (enc:=z0b) i (by rw [List.length_map];exact hil) ?_
   rw [List.getElem_map]
   have hF:=(hps _ (List.getElem_mem hil)).1
   have h1:=hmany (i+1)
   rw [hstep i hil,List.length_append] at h1
   refine wp_app' (xs:=z2b (ps.flatMap Prod.snd).length++(ps.take i).flatMap Prod.snd) (ys:=ps[i].2) (enc:=zh) hs (λz w' hs=>?_) (by rw [List.length_append,z3v];omega)
   rw [List.append_assoc,<- hstep i hil] at hs
   refine z4x (us':=[z.v,.int .i64 ((i+1:Nat):Int)]) (by (try simp (disch:=omega) only [w64]);first|rfl|(congr;omega)) ?_
   refine z0l (ps.length-(i+1)) ?_
   exact ⟨i+1,z,rfl,by omega,rfl,hs⟩
  clear hs
  rintro _ w ⟨z,rfl,hs⟩
  refine zl ?_
  have hhl:(z2a (ps.flatMap Prod.snd)).length=(ps.flatMap Prod.snd).length+4:=by unfold z2a;rw [List.length_append,z3v];omega
  have hsl:=zgt (z2a (ps.flatMap Prod.snd))
  refine z1t hs (enc:=z0b) z λy w' hs=>?_
  refine zb (zgz y z (z2a (ps.flatMap Prod.snd)) (by omega) hs) λ_ _ hs=>?_
  obtain ⟨rfl,hs⟩:=hs
  refine zd ?_
  refine zb (zoj (z5w (z2a (ps.flatMap Prod.snd))) hsl hs) λ_ _ hs=>?_
  obtain ⟨u,rfl,hs⟩:=hs
  refine zd ?_
  have hs:=hs.pick [2,0,0]
  refine wp_app' (xs:=z2a (ps.flatMap Prod.snd)) (ys:=z2b (z5w (z2a (ps.flatMap Prod.snd)))) (enc:=zh) hs (λz w' hs=>?_) (by rw [z3v];omega)
  have e:z2h (ps.flatMap Prod.snd)=z2a (ps.flatMap Prod.snd)++z2b (z5w (z2a (ps.flatMap Prod.snd))):=by unfold z2h;rw [if_neg (by omega)]
  rw [<- e] at hs
  exact ⟨rfl,z,rfl,hs.sub⟩
theorem zj6 (x y:Sl) (bs:List UInt8) [hx:FocR l x 1 ([y].flatMap z0b)] [hy:FocR l y 1 (bs.flatMap zh)] (hn:bs.length<=1000000000) (hs:Sat w l) :
  Ret P F.a19 #[x.v] w λvs w'=>∃ z:Sl,vs=[z.v]/\Sat w' (slc T.a39 1 z ((z2h bs).flatMap zh)::l):=by
 have:=@zo6 w l x [(y,bs)] hx (by intro p hp;rw [List.mem_singleton.1 hp];exact ⟨hy,hn⟩) (by simp) hs
 simpa using this
theorem ze5 (x:Sl) (bs:List UInt8) [hx:FocR l x 1 (bs.flatMap zh)] (hcap:x.len<=x.cap) (hn:bs.length<=1000000000) (hs:Sat w l) :
  Ret P F.a17 #[x.v] w λvs w'=>∃ z:Sl,vs=[z.v,.int .i64 ((((z19 bs).getD ([],0)).2:Nat):Int),.bool (z19 bs).isSome]/\Sat w' (slc T.a39 1 z (((z19 bs).getD ([],0)).1.flatMap zh)::l) :=
 zrw x <| by
  unfold z01o
  have hl:=hs.slen x (xs:=bs) (enc:=zh)
  have hno:∀ {w':World},z19 bs=none->Sat w' l->∃ z:Sl,[.slice none 0 0,.int .i64 0,.bool false]=[z.v,.int .i64 ((((z19 bs).getD ([],0)).2:Nat):Int),.bool (z19 bs).isSome]/\Sat w' (slc T.a39 1 z (((z19 bs).getD ([],0)).1.flatMap zh)::l):=λ{w'} h hs=>by
   rw [h];exact ⟨⟨none,0,0⟩,rfl,hs.slc_nil⟩
  refine zf (λh=>?_) λh=>?_
  ·exact ⟨rfl,hno (by unfold z19;rw [if_pos (.inl (by omega))]) hs⟩
  refine zb (zcp x bs (by omega) hs) λ_ _ hs=>?_
  obtain ⟨rfl,hs⟩:=hs
  refine zd ?_
  have hf:=(ze6 bs (by omega)).2
  refine wp_lt ?_
  have e1:IntKind.wrap .i64 ((z0r bs:Nat):Int)=((z0r bs:Nat):Int):=by rw [w64 (by omega) (by omega)]
  have e2:IntKind.wrap .i64 (((x.len:Nat):Int)-8)=((bs.length-8:Nat):Int):=by rw [w64 (by omega) (by omega)];omega
  have e3:IntKind.wrap .i64 (((z0r bs:Nat):Int)+4)=((z0r bs+4:Nat):Int):=by rw [w64 (by omega) (by omega)];omega
  rw [e1,e2,e3]
  refine zf (λh2=>?_) λh2=>?_
  ·exact ⟨rfl,hno (by unfold z19;rw [if_pos (by omega)]) hs⟩
  refine wp_lt ?_
  rw [Int.toNat_natCast]
  have hle:z0r bs+8<=bs.length:=by omega
  have hF1:FocR l ⟨z12 x.a 1 (z0r bs+4) x.cap,x.len-(z0r bs+4),x.cap-(z0r bs+4)⟩ 1 ((bs.drop (z0r bs+4)).flatMap zh):=FocR.post hcap
  have hF2:FocR l ⟨x.a,z0r bs+4,x.cap⟩ 1 ((bs.take (z0r bs+4)).flatMap zh):=FocR.pre (by omega)
  have htl:(bs.take (z0r bs+4)).length<=1000000000:=by rw [List.length_take];omega
  have hdl:4<=(bs.drop (z0r bs+4)).length:=by rw [List.length_drop];omega
  refine zn (λu w'=>u=(decide (z0r (bs.drop (z0r bs+4))≠z5w (bs.take (z0r bs+4))),())/\Sat w' l) ?_ ?_
  ·have hbeq:∀ a b:Nat,(((a:Int) != (b:Int)):Bool)=decide (a≠b):=λa b=>by
    rw [Bool.eq_iff_iff];simp;omega
   refine z0a hs λw' hs=>?_
   refine wp_must ⟨by omega,show ((z0r bs+4:Nat):Int)<=((x.len:Nat):Int) by omega⟩ ?_
   refine wp_must ⟨by omega,show ((z0r bs+4:Nat):Int)<=((x.cap:Nat):Int) by omega⟩ ?_
   refine zh1 ?_ ?_
   ·refine zb (zcp ⟨z12 x.a 1 (z0r bs+4) x.cap,x.len-(z0r bs+4),x.cap-(z0r bs+4)⟩ (bs.drop (z0r bs+4)) hdl hs) λ_ _ hs=>?_
    obtain ⟨rfl,hs⟩:=hs
    refine zd ?_
    refine z1t hs (enc:=z0b) ⟨x.a,z0r bs+4,x.cap⟩ λy w' hs=>?_
    refine zb (zgz y ⟨x.a,z0r bs+4,x.cap⟩ (bs.take (z0r bs+4)) htl hs) λ_ _ hs=>?_
    obtain ⟨rfl,hs⟩:=hs
    refine zd ?_
    refine zj ?_
    exact zg ⟨by rw [hbeq],hs.tail⟩
   ·refine z1t hs (enc:=z0b) ⟨x.a,z0r bs+4,x.cap⟩ λy w' hs=>?_
    refine zb (zcp ⟨z12 x.a 1 (z0r bs+4) x.cap,x.len-(z0r bs+4),x.cap-(z0r bs+4)⟩ (bs.drop (z0r bs+4)) hdl hs) λ_ _ hs=>?_
    obtain ⟨rfl,hs⟩:=hs
    refine zd ?_
    refine zb (zgz y ⟨x.a,z0r bs+4,x.cap⟩ (bs.take (z0r bs+4)) htl hs) λ_ _ hs=>?_
    obtain ⟨rfl,hs⟩:=hs
    refine zd ?_
    refine zj ?_
    exact zg ⟨by rw [hbeq],hs.tail⟩
  clear hs
  rintro _ w ⟨rfl,hs⟩
  refine zl ?_
  refine zf (λh3=>?_) λh3=>?_
  ·exact ⟨rfl,hno (by unfold z19;rw [if_neg (by omega),if_neg h3]) hs⟩
  have h3:z0r (bs.drop (z0r bs+4))=z5w (bs.take (z0r bs+4)):=Decidable.not_not.1 h3
  have hsome:z19 bs=some ((bs.drop 4).take (z0r bs),z0r bs+8):=by unfold z19;rw [if_neg (by omega),if_pos h3]
  rw [hsome]
  refine wp_must ⟨by omega,by omega,show ((z0r bs+4:Nat):Int)<=((x.cap:Nat):Int) by omega⟩ ?_
  have hF3:FocR l ⟨z12 x.a 1 4 x.cap,x.len-4,x.cap-4⟩ 1 ((bs.drop 4).flatMap zh):=FocR.post hcap
  have hF4:FocR l ⟨z12 x.a 1 4 x.cap,z0r bs+4-4,x.cap-4⟩ 1 (((bs.drop 4).take (z0r bs+4-4)).flatMap zh):=FocR.pre (x:=⟨z12 x.a 1 4 x.cap,x.len-4,x.cap-4⟩) (by rw [List.length_drop];omega)
  refine zb (zkr ⟨z12 x.a 1 4 x.cap,z0r bs+4-4,x.cap-4⟩ ((bs.drop 4).take (z0r bs+4-4)) (by rw [List.length_take];omega) hs) λ_ _ hs=>?_
  obtain ⟨z,rfl,hs⟩:=hs
  refine zd ?_
  refine z1k (y:=((z0r bs+8:Nat):Int)) ?_ (by rw [w64 (by omega) (by omega)];omega)
  exact ⟨rfl,z,rfl,hs⟩
end
section
variable {w:World} {l r:List HP} {p:Nat} {s:Lf}
theorem znt {R:RdM} (hb:R.at_<=R.bs.length) (he:R.e=0) (h:R.bs.length-R.at_=0):stR R=some []:=by
 rw [z7f he]
 unfold z50
 rw [List.drop_eq_nil_of_le (by omega)]
theorem zjk {R:RdM} (he:R.e=0) (h:R.at_<R.bs.length):stR R=some (R.bs[R.at_]::R.bs.drop (R.at_+1)):=by
 rw [z7f he]
 unfold z50
 rw [List.drop_eq_getElem_cons h]
theorem zen {x:Sl} {bs:List UInt8} {n k:Nat} (hcap:x.len<=x.cap) (hk:n+k<=bs.length) [hf:FocR l x 1 (bs.flatMap zh)]:FocR l ⟨z12 x.a 1 n x.cap,k,x.cap-n⟩ 1 (((bs.drop n).take k).flatMap zh):=by
 have h:FocR l ⟨z12 x.a 1 n x.cap,x.len-n,x.cap-n⟩ 1 ((bs.drop n).flatMap zh):=FocR.post hcap
 exact FocR.pre (x:=⟨z12 x.a 1 n x.cap,x.len-n,x.cap-n⟩) (by rw [List.length_drop];omega)
theorem zgs [hf:Fo l (rdS T.a41) p s r] (hs:Sat w l):Ret P F.a151 #[.pointer (some ⟨p,0,none⟩)] w λvs w'=>vs=[.int .i64 ((z14 s).1:Int)]/\Sat w' (rdS T.a41 p (z14 s).2::r) :=
 zl1 _ <| by
  unfold zxc
  obtain ⟨R,rfl,hs⟩:=z6u (hs.perm hf.perm)
  have hb:=z5v hs
  refine zb (zc9 (p:=p) hs) λ_ _ hs=>?_
  obtain ⟨rfl,hs⟩:=hs
  refine zd ?_
  refine zf (λh=>?_) λh=>?_
  ·have h:R.e≠0:=by simpa using h
   rw [z6m h]
   exact ⟨rfl,rfl,z2w (z6m h) hs⟩
  have h:R.e=0:=by simpa using h
  refine zm ?_
  refine zb (zcl (p:=p) hs) λ_ _ hs=>?_
  obtain ⟨rfl,hs⟩:=hs
  refine zd ?_
  refine zf (λh2=>?_) λh2=>?_
  ·refine zm ?_
   refine zb (z78 (p:=p) 6 hs) λ_ _ hs=>?_
   obtain ⟨rfl,hs⟩:=hs
   refine zd ?_
   rw [znt hb.1 h (by omega)]
   exact ⟨rfl,rfl,z2w (if_neg (by show ¬ (if R.e=0 then (6:Int) else R.e)=0;rw [if_pos h];decide)) hs⟩
  have hlt:R.at_<R.bs.length:=by omega
  rw [zjk h hlt]
  obtain ⟨x,-,hs⟩:=z2r hs
  have hl:=hs.slen x (xs:=R.bs) (enc:=zh)
  have hcap:x.len<=x.cap:=(hs.pick [1]).slc_cap
  refine zm ?_
  refine zb (zh9 (p:=p) 1 (x:=x) (bs:=R.bs) (at_:=R.at_) (e:=R.e) (by omega) hb.2 hcap hs) λ_ w' hs=>?_
  obtain ⟨rfl,hs⟩:=hs
  refine zd ?_
  refine z77 (hf:=zen hcap (by omega)) hs (xs:=(R.bs.drop R.at_).take 1) (enc:=zh) 0 (by rw [List.length_take,List.length_drop];omega) ?_ rfl rfl
  have hg:((R.bs.drop R.at_).take 1)[0]'(by rw [List.length_take,List.length_drop];omega)=R.bs[R.at_]:=by simp
  rw [hg]
  have hc:=(R.bs[R.at_]).toNat_lt
  refine z1k (y:=((R.bs[R.at_]).toNat:Int)) ?_ (by rw [w64 (by omega) (by omega)])
  refine ⟨rfl,rfl,z2w (R:=⟨R.bs,R.at_+1,R.e⟩) ?_ (z1h ⟨R.bs,R.at_+1,R.e⟩ ⟨by show R.at_+1<=R.bs.length;omega,hb.2⟩ hs)⟩
  rw [z7f (R:=⟨R.bs,R.at_+1,R.e⟩) h]
  rfl
end
section
variable {w:World} {l r:List HP} {p:Nat} {s:Lf}
theorem ztp {P:Program} {t tx ty el:TypeId} {bytes:Nat} {xs:List UInt8} {t0:ByteArray} {x:Sl} {k:Sl->Prog} {Q:Post} {S:World->Prop} (hs:Sat w l) [ht:SlT P t el 1 bytes] [hst:StT P tx] [hf:FocS l x el 1 (xs.flatMap zh) r]
  (h:∀ z w',Sat w' (slc el 1 z ((xs++bl t0).flatMap zh)::r)->(k z).wp P S w' Q) (hb:(xs.length+t0.size)*bytes<=140737488355328/\xs.length+t0.size<=9223372036854775807) (hS:∀ w',S w':=by exact λ_=>trivial) :
  (Prog.act (app t tx ty (.slice x.a x.len x.cap) (.string t0)) sL (u1 k)).wp P S w Q:=by
 have h1:x.len=xs.length:=(hs.focS x).rd.len (enc:=zh) (λ_=>rfl) (by decide)
 obtain ⟨i,z,hi,h2,rfl,hz,hzs⟩:=ht.parts
 have hsrc:Src P i.size tx (.string t0) t0.size (byteCells t0) w:=by rw [h2];exact Src.ofString w hst.ok t0
 have hs':=hs.focS x
 rw [<- h2] at hs'
 obtain ⟨z,w',hrun,hlen,hs',_⟩:=zjc (ty:=ty) ht.ok.1 hi hz hzs hs' hsrc (by rw [h1];exact hb.1) (by rw [h1];exact hb.2)
 refine ⟨(z,()),w',hrun,hS _,h z w' ?_⟩
 rw [h2] at hs'
 rw [List.flatMap_append,z9p (bl t0)]
 exact hs'
theorem zob (t:ByteArray) (ht:t.size<=1000000000) (hs:Sat w l):Ret P F.a160 #[.string t] w λvs w'=>∃ z:Sl,vs=[z.v]/\Sat w' (slc T.a39 1 z ((uI (t.size:Nat)++bl t).flatMap zh)::l) :=
 zll t <| by
  unfold zwd
  refine zb (z5a ((t.size:Nat):Int) (by omega) hs) λ_ w' hs=>?_
  obtain ⟨x,rfl,hs⟩:=hs
  refine zd ?_
  have hl:=hs.slen x
  have hul:=z1a ((t.size:Nat):Int)
  refine ztp (t0:=t) (xs:=uI (t.size:Nat)) hs (λz w' hs=>?_) (by omega)
  exact ⟨rfl,z,rfl,hs⟩
theorem zyt [hf:Fo l (rdS T.a41) p s r] (hs:Sat w l):Ret P F.a154 #[.pointer (some ⟨p,0,none⟩)] w λvs w'=>vs=[.bool (z4y s).1]/\Sat w' (rdS T.a41 p (z4y s).2::r) :=
 zlu _ <| by
  unfold zwk
  obtain ⟨R,rfl,hs⟩:=z6u (hs.perm hf.perm)
  have hb:=z5v hs
  refine zb (zc9 (p:=p) hs) λ_ _ hs=>?_
  obtain ⟨rfl,hs⟩:=hs
  refine zd ?_
  refine zf (λh=>?_) λh=>?_
  ·have h:R.e≠0:=by simpa using h
   rw [z6m h]
   exact ⟨rfl,rfl,z2w (z6m h) hs⟩
  have h:R.e=0:=by simpa using h
  refine z0a hs λw' hs=>?_
  refine zm ?_
  refine zb (zcl (p:=p) hs) λ_ _ hs=>?_
  obtain ⟨rfl,hs⟩:=hs
  refine zd ?_
  obtain ⟨x,-,hs⟩:=z2r hs
  have hl:=hs.slen x (xs:=R.bs) (enc:=zh)
  have hcap:x.len<=x.cap:=(hs.pick [1]).slc_cap
  refine z0h ?_
  refine za hs ?_
  refine z0h ?_
  refine za hs ?_
  by_cases h2:R.bs.length-R.at_=0
  ·refine zgb hs (xs:=R.bs) (enc:=zh) (0:Int) (λhg=>absurd hg (by rw [h2];simp)) ?_
   refine zj ?_
   refine z1b ?_ (by rw [h2];exact .inl rfl)
   refine zm ?_
   have hs:=z1h R hb hs
   refine zb (z78 (p:=p) 6 hs) λ_ _ hs=>?_
   obtain ⟨rfl,hs⟩:=hs
   refine zd ?_
   rw [znt hb.1 h h2]
   exact ⟨rfl,rfl,z2w (if_neg (by show ¬ (if R.e=0 then (6:Int) else R.e)=0;rw [if_pos h];decide)) hs⟩
  ·have hlt:R.at_<R.bs.length:=by omega
   refine zgb hs (xs:=R.bs) (enc:=zh) (((R.bs[R.at_]).toNat:Nat):Int) (λ_=>⟨R.at_,hlt,rfl,rfl⟩) ?_
   refine zj ?_
   rw [zjk h hlt]
   have hc:=(R.bs[R.at_]).toNat_lt
   unfold z4y
   simp only
   refine zf (λh3=>?_) λh3=>?_
   ·rw [if_neg (by omega)]
    refine zm ?_
    have hs:=z1h R hb hs
    refine zb (z78 (p:=p) 6 hs) λ_ _ hs=>?_
    obtain ⟨rfl,hs⟩:=hs
    refine zd ?_
    exact ⟨rfl,rfl,z2w (if_neg (by show ¬ (if R.e=0 then (6:Int) else R.e)=0;rw [if_pos h];decide)) hs⟩
   ·rw [if_pos (by omega)]
    refine zm ?_
    refine zb (zh9 (p:=p) 1 (x:=x) (bs:=R.bs) (at_:=R.at_) (e:=R.e) (by omega) hb.2 hcap hs) λ_ w' hs=>?_
    obtain ⟨rfl,hs⟩:=hs
    refine zd ?_
    refine z77 (hf:=zen hcap (by omega)) hs (xs:=(R.bs.drop R.at_).take 1) (enc:=zh) 0 (by rw [List.length_take,List.length_drop];omega) ?_ rfl rfl
    have hg:((R.bs.drop R.at_).take 1)[0]'(by rw [List.length_take,List.length_drop];omega)=R.bs[R.at_]:=by simp
    rw [hg]
    refine wp_lt ?_
    have e:((((R.bs[R.at_]).toNat:Nat):Int) == 1)=decide ((R.bs[R.at_]).toNat=1):=by
     rw [Bool.eq_iff_iff];simp;omega
    rw [e]
    refine ⟨rfl,rfl,z2w (R:=⟨R.bs,R.at_+1,R.e⟩) ?_ (z1h ⟨R.bs,R.at_+1,R.e⟩ ⟨by show R.at_+1<=R.bs.length;omega,hb.2⟩ hs)⟩
    rw [z7f (R:=⟨R.bs,R.at_+1,R.e⟩) h]
    rfl
theorem znq (most:Nat) (hm:most<=1000000000) [hf:Fo l (rdS T.a41) p s r] (hs:Sat w l):Ret P F.a156 #[.pointer (some ⟨p,0,none⟩),.int .i64 (most:Nat)] w λvs w'=>vs=[.string (z1q most s).1]/\Sat w' (rdS T.a41 p (z1q most s).2::r) :=
 zmp _ _ <| by
  unfold zxr
  obtain ⟨R,rfl,hs⟩:=z6u (hs.perm hf.perm)
  have hb:=z5v hs
  refine zb (zc9 (p:=p) hs) λ_ _ hs=>?_
  obtain ⟨rfl,hs⟩:=hs
  refine zd ?_
  refine zf (λh=>?_) λh=>?_
  ·have h:R.e≠0:=by simpa using h
   rw [z6m h]
   exact ⟨rfl,rfl,z2w (z6m h) hs⟩
  have h:R.e=0:=by simpa using h
  refine zm ?_
  obtain ⟨x,-,hs⟩:=z2r hs
  refine za hs ?_
  refine wp_lt ?_
  refine zm ?_
  have hs:=z1h R hb hs
  refine zb (zoi (p:=p) h hs) λ_ _ hs=>?_
  obtain ⟨rfl,hs⟩:=hs
  refine zd ?_
  refine wp_lt ?_
  refine zm ?_
  have hst:=zd9 (R:=R)
  have hbs:=zom R
  generalize hU:R.uint=U at *
  obtain ⟨v,R'⟩:=U
  have hs:Sat _ (rdP T.a41 p R'::r):=hs
  have hbs:R'.bs=R.bs:=hbs
  have hb':=z5v hs
  obtain ⟨y,-,hs⟩:=z2r hs
  have hl:=hs.slen y (xs:=R'.bs) (enc:=zh)
  have hcap:y.len<=y.cap:=(hs.pick [1]).slc_cap
  refine za hs ?_
  refine wp_lt ?_
  have hend':∀ {w':World} {e:Int} {y:Sl},e≠0->Sat w' (pt p (.cells #[.slice y.a y.len y.cap,.int .i64 R'.at_,.int .i64 e] T.a41)::slc T.a39 1 y (R'.bs.flatMap zh)::r) ->
    (z1q most (stR R)).2=none->(z1q most (stR R)).1=⟨#[]⟩ ->
    (Prog.ex [.adr] (c1 λa27=>some ((⟨p,0,none⟩:Addr))=some a27) (u1 λa28=>.actU (st T.a10 (Addr.add (Addr.add a28 0) 1) (.int .i64 (R.at_:Int))) <| .done 0 [.string (ByteArray.mk #[])])).wp P (λ_=>True) w' λe vs w'=>e=0/\vs=[.string (z1q most (stR R)).1]/\Sat w' (rdS T.a41 p (z1q most (stR R)).2::r):=by
   intro w' e y he hs h1 h2
   refine zm ?_
   refine z0d hs λw' hs=>?_
   rw [h1,h2]
   refine ⟨rfl,rfl,z2w (R:=⟨R'.bs,R.at_,e⟩) (z6m he) (z1h ⟨R'.bs,R.at_,e⟩ ⟨by rw [hbs];exact hb.1,hb'.2⟩ hs)⟩
  refine z4l ?_
  refine zf (λhe=>?_) λhe=>?_
  ·have he:R'.e≠0:=by simpa using he
   refine z3t ?_
   have h1:(z0t (stR R)).2=none:=by rw [<- hst.2];exact z6m he
   refine hend' he hs (by unfold z1q;rw [h1]) (by unfold z1q;rw [h1])
  ·have he:R'.e=0:=by simpa using he
   have h1:(z0t (stR R)).2=some (z50 R'):=by rw [<- hst.2];exact z7f he
   have hv:=z6z h1
   have h0:(z0t (stR R)).1=v:=hst.1.symm
   have hlen:(z50 R').length=R'.bs.length-R'.at_:=zk3
   have ew:IntKind.wrap .u64 (if 0>((most:Nat):Int) then 0 else ((most:Nat):Int))=((most:Nat):Int):=by
    rw [if_neg (by omega),zk6 (by omega) (by omega)]
   rw [ew]
   refine wp_lt ?_
   refine z4l ?_
   refine zf (λh3=>?_) λh3=>?_
   ·refine zm ?_
    have hs:=z1h R' hb' hs
    refine zb (z78 (p:=p) 7 hs) λ_ _ hs=>?_
    obtain ⟨rfl,hs⟩:=hs
    refine zd ?_
    refine z3t ?_
    refine z3t ?_
    obtain ⟨y2,-,hs⟩:=z2r hs
    refine hend' (e:=(R'.fail 7).e) ?_ hs ?_ ?_
    ·show (if R'.e=0 then (7:Int) else R'.e)≠0
     rw [if_pos he];decide
    ·unfold z1q;rw [h1];simp only;rw [h0,if_neg (by omega)]
    ·unfold z1q;rw [h1];simp only;rw [h0,if_neg (by omega)]
   ·refine zm ?_
    have hs:=z1h R' hb' hs
    refine zb (zcl (p:=p) hs) λ_ _ hs=>?_
    obtain ⟨rfl,hs⟩:=hs
    refine zd ?_
    have eu:IntKind.wrap .u64 ((R'.bs.length-R'.at_:Nat):Int)=((R'.bs.length-R'.at_:Nat):Int):=zk6 (by omega) (by omega)
    rw [eu]
    refine wp_lt ?_
    refine zf (λh4=>?_) λh4=>?_
    ·refine zm ?_
     refine zb (z78 (p:=p) 6 hs) λ_ _ hs=>?_
     obtain ⟨rfl,hs⟩:=hs
     refine zd ?_
     refine z3t ?_
     refine z3t ?_
     obtain ⟨y2,-,hs⟩:=z2r hs
     refine hend' (e:=(R'.fail 6).e) ?_ hs ?_ ?_
     ·show (if R'.e=0 then (6:Int) else R'.e)≠0
      rw [if_pos he];decide
     ·unfold z1q;rw [h1];simp only;rw [h0,if_neg (by omega)]
     ·unfold z1q;rw [h1];simp only;rw [h0,if_neg (by omega)]
    ·refine zm ?_
     rw [w64 (by omega) (by omega)]
     obtain ⟨y2,-,hs⟩:=z2r hs
     have hcap2:y2.len<=y2.cap:=(hs.pick [1]).slc_cap
     refine zb (zh9 (p:=p) v (x:=y2) (bs:=R'.bs) (at_:=R'.at_) (e:=R'.e) (by omega) hb'.2 hcap2 hs) λ_ w' hs=>?_
     obtain ⟨rfl,hs⟩:=hs
     refine zd ?_
     refine zsx (hf:=zen hcap2 (by omega)) (bs:=(R'.bs.drop R'.at_).take v) hs ?_
     refine wp_lt ?_
     have e1:z1q most (stR R)=(⟨((z50 R').take v).toArray⟩,some ((z50 R').drop v)):=by
      unfold z1q;rw [h1];simp only;rw [h0,if_pos ⟨by omega,by omega⟩]
     rw [e1]
     refine zk (zk ⟨rfl,rfl,z2w (R:=⟨R'.bs,R'.at_+v,R'.e⟩) ?_ (z1h ⟨R'.bs,R'.at_+v,R'.e⟩ ⟨by show R'.at_+v<=R'.bs.length;omega,hb'.2⟩ hs)⟩)
     rw [z7f (R:=⟨R'.bs,R'.at_+v,R'.e⟩) he]
     unfold z50
     rw [List.drop_drop]
end
section
variable {w:World} {l r:List HP} {p:Nat} {s:Lf}
theorem z91 (most:Int) (hm:0<=most/\most<9223372036854775807) [hf:Fo l (rdS T.a41) p s r] (hs:Sat w l):Ret P F.a49 #[.pointer (some ⟨p,0,none⟩),.int .i64 most] w λvs w'=>vs=[.int .i64 (z0c most s).1]/\Sat w' (rdS T.a41 p (z0c most s).2::r) :=
 zro _ most <| by
  unfold z02g z0c
  refine zb (zgq (p:=p) hs) λ_ _ hs=>?_
  obtain ⟨rfl,hs⟩:=hs
  refine zd ?_
  refine wp_lt ?_
  have e:IntKind.wrap .u64 most=most:=by rw [z47];omega
  rw [e]
  refine zf (λh=>?_) λh=>?_
  ·refine z1k (y:=most+1) ?_ (by rw [w64 (by omega) (by omega)])
   rw [if_pos h]
   exact ⟨rfl,rfl,hs⟩
  ·refine z1k (y:=((z0t s).1:Int)) ?_ (by rw [w64 (by omega) (by omega)])
   rw [if_neg h]
   exact ⟨rfl,rfl,hs⟩
theorem zod (a b:ByteArray) (ha:a.size<=1000000000) (hs:Sat w l):Ret P F.a42 #[.string a,.string b] w λvs w'=>vs=[.int .i64 (z04 (bl a) (bl b):Nat)]/\Sat w' l :=
 zrv a b <| by
  unfold z02j
  refine z1k (y:=((min a.size b.size:Nat):Int)) ?_ (by split <;> omega)
  refine zn (λ_ w'=>(bl a).take (min a.size b.size)=(bl b).take (min a.size b.size)/\Sat w' l) ?_ ?_
  rotate_left
  ·rintro _ w' ⟨ht,hs⟩
   refine zl ?_
   refine wp_lt ?_
   refine ⟨rfl,?_,hs⟩
   rw [zco (i:=min a.size b.size) (by rw [z0z];omega) (by rw [z0z];omega) ht (by rw [z0z,z0z];omega)]
  refine z06 (λk v w=>∃ i:Nat,v=((i:Int),())/\i<=min a.size b.size/\min a.size b.size-i=k/\(bl a).take i=(bl b).take i/\Sat w l) (min a.size b.size) ⟨0,rfl,by omega,rfl,rfl,hs⟩ ?_
  clear hs
  rintro k _ w ⟨i,rfl,hi,hk,ht,hs⟩
  refine zl ?_
  refine zf (λhc=>?_) λhc=>?_
  rotate_left
  ·refine zk (zg ⟨?_,hs⟩)
   have:i=min a.size b.size:=by omega
   rwa [this] at ht
  have h1:i<(bl a).length:=by rw [z0z];omega
  have h2:i<(bl b).length:=by rw [z0z];omega
  refine wp_lt ?_
  refine z0a hs λw' hs=>?_
  refine wp_must (by omega) ?_
  refine wp_must (by omega) ?_
  refine zj ?_
  have hb:∀ (c:ByteArray) (h:i<(bl c).length),bt c (i:Int)=(((bl c)[i]).toNat:Int):=λc h=>by
   unfold bt
   rw [Int.toNat_natCast,List.getD_eq_getElem?_getD,List.getElem?_eq_getElem h];rfl
  rw [hb a h1,hb b h2]
  refine zf (λhd=>?_) λhd=>?_
  ·refine wp_lt ?_
   refine zk (zk ⟨rfl,?_,hs⟩)
   have hne:(bl a)[i]≠(bl b)[i]:=λe=>by rw [e] at hd;simp at hd
   rw [zco (i:=i) (by omega) (by omega) ht (.inr (.inr (by rw [List.getElem?_eq_getElem h1,List.getElem?_eq_getElem h2];simpa using hne)))]
  ·have he:(bl a)[i]=(bl b)[i]:=by
    apply UInt8.toNat_inj.1
    have:(((bl a)[i]).toNat:Int)=(((bl b)[i]).toNat:Int):=by simpa using hd
    omega
   refine z4x (us':=[.int .i64 ((i+1:Nat):Int)]) (by (try simp (disch:=omega) only [w64]);first|rfl|(congr;omega)) ?_
   refine z0l (min a.size b.size-(i+1)) ?_
   exact ⟨i+1,rfl,by omega,rfl,by rw [List.take_succ_eq_append_getElem h1,List.take_succ_eq_append_getElem h2,ht,he],hs⟩
end
theorem zrf {lo hi:Int} (h:lo<=0/\0<=hi) (s:Lf):lo<=(z1v lo hi s).1/\(z1v lo hi s).1<=hi:=by
 unfold z1v
 split
 ·exact h
 ·split
  ·exact h
  ·simp only;omega
theorem zeu {most:Int} (h:0<=most) (s:Lf):0<=(z0c most s).1/\(z0c most s).1<=most+1:=by
 unfold z0c
 simp only
 split <;> omega
theorem zu2 (most:Nat) (s:Lf):(z1q most s).1.size<=most:=by
 unfold z1q
 split
 ·show 0<=most;omega
 ·split
  ·rename_i h
   show (List.take _ _).length<=most
   rw [List.length_take];omega
  ·show 0<=most;omega
section
variable {w:World} {l r:List HP} {p:Nat} {s:Lf}
theorem zz8 (time:Int) (ht:0<=time/\time<=1099511627776) (ahead:ByteArray) (ha:ahead.size<=100000) [hf:Fo l (rdS T.a41) p s r] (hs:Sat w l) :
  Ret P F.a47 #[.pointer (some ⟨p,0,none⟩),.int .i64 time,.string ahead] w λvs w'=>∃ x:RecM,vs=[.agg (zw x).toArray,.bool (z3s time ahead s).1.isSome]/\(∀ y,(z3s time ahead s).1=some y->x=y)/\x.key.size<=2100/\Sat w' (rdS T.a41 p (z3s time ahead s).2::r) :=
 zps _ _ _ <| by
  unfold z01f
  refine zv hs λa0 w' hs=>?_
  have hbd:=zrf (lo := -1099511627776) (hi:=1099511627776) (by decide) s
  refine zb (zsu (p:=p) (-1099511627776) 1099511627776 hs) λ_ _ hs=>?_
  obtain ⟨rfl,hs⟩:=hs
  refine zd ?_
  refine wp_lt ?_
  refine zb (zyt (p:=p) hs) λ_ _ hs=>?_
  obtain ⟨rfl,hs⟩:=hs
  refine zd ?_
  refine zv hs λa4 w' hs=>?_
  rw [w64 (by omega) (by omega)]
  refine zx hs λw' hs=>?_
  refine zb (z91 (p:=p) 1024 (by omega) hs) λ_ _ hs=>?_
  obtain ⟨rfl,hs⟩:=hs
  refine zd ?_
  refine wp_lt ?_
  refine zb (znq (p:=p) 1024 (by omega) hs) λ_ _ hs=>?_
  obtain ⟨rfl,hs⟩:=hs
  refine zd ?_
  refine wp_lt ?_
  have hR:z3s time ahead s=if (z0c 1024 (z4y (z1v (-1099511627776) 1099511627776 s).2).2).1>ahead.size then (none,(z1q 1024 (z0c 1024 (z4y (z1v (-1099511627776) 1099511627776 s).2).2).2).2) else
   let a:=z1v (-1099511627776) 1099511627776 s
   let b:=z4y a.2
   let c:=z0c 1024 b.2
   let d:=z1q 1024 c.2
   let e:=if b.1 then (⟨#[]⟩,d.2) else z1q 1024 d.2
   if e.2.isSome=true/\(z04 (bl ahead) (bl (z59 ahead c.1 d.1)):Int)=c.1 then (some ⟨z59 ahead c.1 d.1,e.1,b.1,time+a.1⟩,e.2) else (none,e.2):=rfl
  simp only at hR
  have hcb:=zeu (most:=1024) (by decide) (z4y (z1v (-1099511627776) 1099511627776 s).2).2
  have hdb:=zu2 1024 (z0c 1024 (z4y (z1v (-1099511627776) 1099511627776 s).2).2).2
  generalize z3s time ahead s=RR at *
  generalize z1v (-1099511627776) 1099511627776 s=a at *
  generalize z4y a.2=b at *
  generalize z0c 1024 b.2=c at *
  generalize z1q 1024 c.2=d at *
  refine zf (λh=>?_) λh=>?_
  ·rw [if_pos h] at hR
   subst hR
   refine zr hs ?_
   refine zx hs λw' hs=>?_
   refine zr hs ?_
   exact ⟨rfl,⟨⟨#[]⟩,⟨#[]⟩,b.1,time+a.1⟩,rfl,(λy hy=>by cases hy),by show 0<=2100;omega,hs.sub⟩
  rw [if_neg h] at hR
  refine wp_must (by omega) ?_
  have hks:(ByteArray.extract ahead 0 (Int.toNat c.1)).size<=1025:=by
   rw [ByteArray.size_extract];omega
  refine wp_must (by omega) ?_
  refine z0d hs λw' hs=>?_
  have ek:ByteArray.extract ahead 0 (Int.toNat c.1)++d.1=z59 ahead c.1 d.1:=rfl
  rw [ek] at hs
  refine za hs ?_
  have hkey:(z59 ahead c.1 d.1).size<=2100:=by
   unfold z59
   rw [ByteArray.size_append]
   omega
  refine zn (λ_ w'=>Sat w' (pt a4 (.cells #[.string (z59 ahead c.1 d.1),.string (if b.1=true then ((⟨#[]⟩:ByteArray),d.2) else z1q 1024 d.2).1,.bool b.1,.int .i64 (time+a.1)] T.a3)::rdS T.a41 p (if b.1=true then ((⟨#[]⟩:ByteArray),d.2) else z1q 1024 d.2).2::pt a0 (.cells #[.string ⟨#[]⟩,.string ⟨#[]⟩,.bool false,.int .i64 0] T.a3)::r)) ?_ ?_
  ·refine zf (λh2=>?_) λh2=>?_
   ·have h2:b.1=false:=by simpa using h2
    refine zb (znq (p:=p) 1024 (by omega) hs) λ_ _ hs=>?_
    obtain ⟨rfl,hs⟩:=hs
    refine zd ?_
    refine z0d hs λw' hs=>?_
    refine zg ?_
    rw [if_neg (by rw [h2];simp)]
    exact hs.sub
   ·have h2:b.1=true:=by simpa using h2
    refine zg ?_
    rw [if_pos h2]
    dsimp only
    exact hs.sub
  rintro _ w1 hs
  generalize (if b.1=true then ((⟨#[]⟩:ByteArray),d.2) else z1q 1024 d.2)=e at *
  refine zn (λq w'=>q=(RR.1.isSome,())/\Sat w' (pt a0 (.cells #[.string (z59 ahead c.1 d.1),.string e.1,.bool b.1,.int .i64 (time+a.1)] T.a3)::rdS T.a41 p e.2::r)) ?_ ?_
  ·refine z0a hs λw' hs=>?_
   refine z036 hs ?_
   refine zb (zsd (p:=p) hs) λ_ _ hs=>?_
   obtain ⟨er,rfl,her,hs⟩:=hs
   refine zd ?_ (by first|trivial|(repeat (first|exact trivial|exact λ_=>z0i hs|exact λ_=>z0n hs|refine And.intro ?_ ?_)))
   refine za hs ?_
   refine zf (λh2=>?_) λh2=>?_
   ·have h2:e.2.isSome=true:=her.1 (by simpa using h2)
    refine zb (zod ahead (z59 ahead c.1 d.1) (by omega) hs) λ_ _ hs=>?_
    obtain ⟨rfl,hs⟩:=hs
    refine zd ?_ (by first|trivial|(repeat (first|exact trivial|exact λ_=>z0i hs|exact λ_=>z0n hs|refine And.intro ?_ ?_)))
    refine zj ?_
    refine zx hs λw' hs=>?_
    refine wp_lt ?_
    refine zj ?_
    refine zg ⟨?_,hs.sub⟩
    have e3:(((z04 (bl ahead) (bl (z59 ahead c.1 d.1)):Nat):Int) == c.1)=RR.1.isSome:=by
     rw [hR]
     by_cases h3:((z04 (bl ahead) (bl (z59 ahead c.1 d.1)):Nat):Int)=c.1
     ·rw [if_pos ⟨h2,h3⟩];simpa using h3
     ·rw [if_neg λh=>h3 h.2];simpa using h3
    rw [e3]
   ·have h2:¬ e.2.isSome=true:=λh=>h2 (by simpa using her.2 h)
    refine zj ?_
    refine zx hs λw' hs=>?_
    refine zj ?_
    refine zg ⟨?_,hs.sub⟩
    rw [hR,if_neg λh=>h2 h.1]
    rfl
  rintro _ w1 ⟨rfl,hs⟩
  refine zr hs ?_
  refine ⟨rfl,⟨z59 ahead c.1 d.1,e.1,b.1,time+a.1⟩,rfl,λy hy=>?_,hkey,?_⟩
  ·rw [hR] at hy
   split at hy
   ·simpa using hy
   ·cases hy
  ·have e4:RR.2=e.2:=by rw [hR];split <;> rfl
   rw [e4]
   exact hs.sub
end
section
variable {P:Program} {w:World} {l r:List HP} {Q:Post} {S:World->Prop} {t:TypeId} {sz:Nat}
theorem zyo {α:Type} {enc:α->List Value} {xs:List α} {x:Sl} {T:TypeId} {m j:Nat} {ii:Int} {gg g':Prop} {p:Pr} {dec:α->p.D} {f:p.D->Prog} (hs:Sat w l) [hf:FocR l x sz (xs.flatMap enc)] [hE:EncN enc sz] [hD:EncF enc j p dec] [hT:One P T]
  (n:Nat) (hn:n<xs.length) (h:(f (dec xs[n])).wp P S w Q) (hm:m=n*sz:=by rfl) (hi:ii=n:=by rfl) :
  (Prog.ex [.adr] (c1 λa=>gg->(0:Int)<=ii/\ii<((x.len:Nat):Int)/\x.a=some a) (u1 λa=>.read g' (ld T (Addr.add (Addr.add a m) j)) (.one (.one p)) (u1 f))).wp P S w Q:=by
 obtain ⟨a,ha,hl,hr⟩:=zac (P:=P) (T:=T) (x:=x) (sz:=sz) (xs:=xs) (enc:=enc) (j:=j) (p:=p) (dec:=dec) hs (n:=n) hn
 subst hm hi
 exact ⟨(a,()),λ_=>⟨by omega,by omega,ha⟩,(dec xs[n],()),λ_=>hr,h⟩
theorem zg0 {α β γ δ:Type} {f:α->β->γ->δ->Prog} (a:α) (b:β) (c:γ) (d:δ) (h:(f a b c d).wp P S w Q):(u4 f (a,b,c,d,())).wp P S w Q:=h
theorem zdd {α:Type} {enc:α->List Value} {n:Nat} {ps:Array (Nat × Value)} {el:TypeId} {bytes:Nat} {k:Sl->Prog} (hs:Sat w l) [ht:SlT P t el sz bytes] [hE:EncN enc sz] (xs:List α)
  (h:∀ x w',Sat w' (slc el sz x (xs.flatMap enc)::l)->(k x).wp P S w' Q) (hc:z4o P t n ps=some (el,(xs.flatMap enc).toArray):=by kernel_rfl) (hn:xs.length=n:=by rfl) (hS:∀ w',S w':=by exact λ_=>trivial) :
  (Prog.act (Instr.buildSlice t n ps) sL (u1 k)).wp P S w Q:=z8r hs xs hc (λb w' hs=>h _ w' hs) (by simp) hn hS
end
section
variable {P:Program} {w:World} {l r:List HP} {Q:Post} {S:World->Prop} {α β γ δ ε ζ η θ:Type}
theorem z35 {f:α->β->Prog} (a:α) (b:β) (h:(f a b).wp P S w Q):(u2 f (a,b,())).wp P S w Q:=h
theorem zwr {f:α->β->γ->Prog} (a:α) (b:β) (c:γ) (h:(f a b c).wp P S w Q):(u3 f (a,b,c,())).wp P S w Q:=h
theorem z041 {f:α->β->γ->δ->ε->Prog} (a:α) (b:β) (c:γ) (d:δ) (e:ε) (h:(f a b c d e).wp P S w Q):(u5 f (a,b,c,d,e,())).wp P S w Q:=h
theorem zat {f:α->β->γ->δ->ε->ζ->η->Prog} (a:α) (b:β) (c:γ) (d:δ) (e:ε) (z:ζ) (y:η) (h:(f a b c d e z y).wp P S w Q):(u7 f (a,b,c,d,e,z,y,())).wp P S w Q:=h
theorem z9l {f:α->β->γ->δ->ε->ζ->η->θ->Prog} (a:α) (b:β) (c:γ) (d:δ) (e:ε) (z:ζ) (y:η) (x:θ) (h:(f a b c d e z y x).wp P S w Q):(u8 f (a,b,c,d,e,z,y,x,())).wp P S w Q:=h
theorem zs7 {f : FuncId} {cap : Array Value} {args : List Value} {s : Sh} {k : HL s.prims → Prog} {vs₀ : List Value} {R : World → Prop} (hok : (P.funcs[f]?).any (fun fn => fn.body.isSome && fn.name != "runtime.NumGoroutine") = true) (x : HL s.prims)
  (hc:Ret P f (args.toArray++cap) w λvs w'=>vs=vs₀/\R w') (hx:z9y vs₀=s.mk x) (h:∀ w',R w'->S w'/\(k x).wp P S w' Q):(Prog.callv (.func (.func f) #[] cap) args s k).wp P S w Q:=by
 refine ⟨f,#[],cap,rfl,hok,?_⟩
 have e:(#[]:Array Value)++args.toArray++cap=args.toArray++cap:=by simp
 rw [e]
 refine Calls.mono hc λe w' ⟨vs,he,hv,hR⟩=>?_
 exact ⟨x,by rw [he,hv,hx],h w' hR⟩
end
section
variable {P:Program} {w:World} {l r:List HP} {Q:Post} {S:World->Prop} {T:TypeId} {sz:Nat} {x:Sl}
theorem At.part {A:Addr} {vs:List Value} (h:At w A vs) (j q:Nat):At w (A.add j) ((vs.drop j).take q):=by
 obtain ⟨b,o,arr,T',fr,rfl,hb,hc⟩:=h
 refine ⟨b,o+j,arr,T',fr,z2t ..,hb,λi hi=>?_⟩
 rw [List.length_take,List.length_drop] at hi
 rw [List.getElem?_take,if_pos (by omega),List.getElem?_drop,Nat.add_assoc,hc (j+i) (by omega)]
end
def ziy:BatM:=⟨0,0,0,0,0,0,z6v,[]⟩
abbrev zeroC:Array Value:=#[.int .i64 0,.int .i64 0,.int .i64 0,.int .i64 0,.int .i64 0,.int .i64 0,.slice none 0 0]
theorem zt1 {P:Program} {p:Prog} {S:World->Prop} {w:World} {Q0 Q:Post} (h:p.wp P S w Q0) (h0:∀ e vs w,Q0 e vs w->e=0) (hQ:∀ vs w,Q0 0 vs w->Q 0 vs w):p.wp P S w Q :=
 Prog.wp_mono p (λe vs w h=>by have:=h0 e vs w h;subst this;exact hQ vs w h) h
theorem zpn (time:Int) (n:Nat) (ahead:ByteArray) (s:Lf):z4r time (n+1) ahead s=match (z3s time ahead s).1 with
  | none=>none
  | some x=>(z4r time n x.key (z3s time ahead s).2).map λq=>(x::q.1,q.2):=rfl
def BatM.at (b:BatM) (z:Sl):BatM:={ b with x:=z }
section
variable {w:World} {l r:List HP} {p:Nat} {s:Lf}
theorem zke (x:Sl) (raw:List UInt8) [hx:FocR l x 1 (raw.flatMap zh)] (hn:raw.length<=1000000000) (hs:Sat w l) :
  Ret P F.a36 #[x.v] w λvs w'=>(∃ b z,z6b raw=some b/\vs=[.agg (zi (b.at z)).toArray,.int .i64 0]/\Sat w' (slc T.a3 4 z (b.rs.flatMap zw)::l)) \/
   (z6b raw=none/\vs=[.agg (zi ziy).toArray,.int .i64 6]/\Sat w' l) :=
 zq0 _ <| by
  unfold z033
  refine zv hs λa0 w' hs=>?_
  refine zv hs λa1 w' hs=>?_
  refine zx hs λw' hs=>?_
  refine zb (zts x raw hn hs) λ_ w' hs=>?_
  obtain ⟨p,rfl,hs⟩:=hs
  refine zd ?_
  refine zb (zgs (p:=p) hs) λ_ _ hs=>?_
  obtain ⟨rfl,hs⟩:=hs
  refine zd ?_
  have hfail:∀ {w':World},Sat w' (pt a1 (.cells zeroC T.a1)::pt a0 (.cells zeroC T.a1)::l)->z6b raw=none ->
    (Prog.read True (ld T.a1 ⟨a1,0,none⟩) (sG [.int .i64,.int .i64,.int .i64,.int .i64,.int .i64,.int .i64,.slc]) (u7 λn4 n5 n6 n7 n8 n9 l10 =>
     .actU (st T.a1 ⟨a0,0,none⟩ (.agg #[.int .i64 n4,.int .i64 n5,.int .i64 n6,.int .i64 n7,.int .i64 n8,.int .i64 n9,l10.v])) <|
     .read True (ld T.a1 ⟨a0,0,none⟩) (sG [.int .i64,.int .i64,.int .i64,.int .i64,.int .i64,.int .i64,.slc]) (u7 λn11 n12 n13 n14 n15 n16 l17 =>
     .done 0 [.agg #[.int .i64 n11,.int .i64 n12,.int .i64 n13,.int .i64 n14,.int .i64 n15,.int .i64 n16,l17.v],.int .i64 6]))).wp P (λ_=>True) w' λe vs w=>e=0/\((∃ b z,z6b raw=some b/\vs=[.agg (zi (b.at z)).toArray,.int .i64 0]/\Sat w (slc T.a3 4 z (b.rs.flatMap zw)::l)) \/
      (z6b raw=none/\vs=[.agg (zi ziy).toArray,.int .i64 6]/\Sat w l)):=by
   intro w' hs hd
   have hs:Sat w' (pt a1 (.cells [.int .i64 0,.int .i64 0,.int .i64 0,.int .i64 0,.int .i64 0,.int .i64 0,.slice none 0 0].toArray T.a1)::pt a0 (.cells [.int .i64 0,.int .i64 0,.int .i64 0,.int .i64 0,.int .i64 0,.int .i64 0,.slice none 0 0].toArray T.a1)::l):=hs
   refine zr hs ?_
   refine zx hs λw' hs=>?_
   refine zr hs ?_
   exact ⟨rfl,.inr ⟨hd,rfl,hs.sub⟩⟩
  replace hs:Sat _ (rdS T.a41 p (z14 (some raw)).2::pt a1 (.cells zeroC T.a1)::pt a0 (.cells zeroC T.a1)::l):=hs.sub
  refine zf (λh=>?_) λh=>?_
  ·refine hfail hs.sub ?_
   unfold z6b
   rw [if_pos (by omega)]
  have hdec:z6b raw=zkg (hdS (z14 (some raw)).2):=by
   unfold z6b
   rw [if_neg (by omega)]
  generalize z6b raw=DD at *
  generalize (z14 (some raw)).2=s at *
  have hH:hdS s=⟨z14 s,z0c 1099511627776 (z14 s).2,z0c 1048576 (z0c 1099511627776 (z14 s).2).2,
   if (z0c 1048576 (z0c 1099511627776 (z14 s).2).2).1>0 then z0c 32767 (z0c 1048576 (z0c 1099511627776 (z14 s).2).2).2 else (0,(z0c 1048576 (z0c 1099511627776 (z14 s).2).2).2),
   if (z0c 1048576 (z0c 1099511627776 (z14 s).2).2).1>0/\z3m (z14 s).1=false then z0c 2147483647 (if (z0c 1048576 (z0c 1099511627776 (z14 s).2).2).1>0 then z0c 32767 (z0c 1048576 (z0c 1099511627776 (z14 s).2).2).2 else (0,(z0c 1048576 (z0c 1099511627776 (z14 s).2).2).2)).2 else (0,(if (z0c 1048576 (z0c 1099511627776 (z14 s).2).2).1>0 then z0c 32767 (z0c 1048576 (z0c 1099511627776 (z14 s).2).2).2 else (0,(z0c 1048576 (z0c 1099511627776 (z14 s).2).2).2)).2),
   z0c 1099511627776 (if (z0c 1048576 (z0c 1099511627776 (z14 s).2).2).1>0/\z3m (z14 s).1=false then z0c 2147483647 (if (z0c 1048576 (z0c 1099511627776 (z14 s).2).2).1>0 then z0c 32767 (z0c 1048576 (z0c 1099511627776 (z14 s).2).2).2 else (0,(z0c 1048576 (z0c 1099511627776 (z14 s).2).2).2)).2 else (0,(if (z0c 1048576 (z0c 1099511627776 (z14 s).2).2).1>0 then z0c 32767 (z0c 1048576 (z0c 1099511627776 (z14 s).2).2).2 else (0,(z0c 1048576 (z0c 1099511627776 (z14 s).2).2).2)).2)).2⟩:=rfl
  refine zb (zgs (p:=p) hs) λ_ _ hs=>?_
  obtain ⟨rfl,hs⟩:=hs
  refine zd ?_
  generalize z14 s=k at *
  refine zb (z91 (p:=p) 1099511627776 (by omega) hs) λ_ _ hs=>?_
  obtain ⟨rfl,hs⟩:=hs
  refine zd ?_
  generalize z0c 1099511627776 k.2=ba at *
  refine zb (z91 (p:=p) 1048576 (by omega) hs) λ_ _ hs=>?_
  obtain ⟨rfl,hs⟩:=hs
  refine zd ?_
  generalize z0c 1048576 ba.2=pi at *
  refine zv hs λa2 w' hs=>?_
  refine zx hs λw' hs=>?_
  refine za hs ?_
  generalize hep:(if pi.1>0 then z0c 32767 pi.2 else (0,pi.2))=ep at *
  generalize hsq:(if pi.1>0/\z3m k.1=false then z0c 2147483647 ep.2 else (0,ep.2))=sq at *
  refine zn (λ_ w'=>Sat w' (pt a2 (.cells [.int .i64 ba.1,.int .i64 pi.1,.int .i64 ep.1,.int .i64 sq.1,.int .i64 k.1,.int .i64 0,.slice none 0 0].toArray T.a1)::rdS T.a41 p sq.2::pt a1 (.cells zeroC T.a1)::pt a0 (.cells zeroC T.a1)::l)) ?_ ?_
  ·refine zf (λh=>?_) λh=>?_
   ·rw [if_pos h] at hep
    refine zb (z91 (p:=p) 32767 (by omega) hs) λ_ _ hs=>?_
    obtain ⟨rfl,hs⟩:=hs
    refine zd ?_
    rw [hep] at hs ⊢
    refine z0d hs λw' hs=>?_
    refine zr hs ?_
    refine zb (z76 ⟨ba.1,pi.1,ep.1,0,k.1,0,z6v,[]⟩ hs) λ_ w' hs=>?_
    obtain ⟨rfl,hs⟩:=hs
    refine zd ?_
    have em:z0x ⟨ba.1,pi.1,ep.1,0,k.1,0,z6v,[]⟩=z3m k.1:=rfl
    rw [em]
    refine z4l ?_
    refine zf (λh2=>?_) λh2=>?_
    ·have h2:z3m k.1=false:=by simpa using h2
     rw [if_pos ⟨h,h2⟩] at hsq
     refine zb (z91 (p:=p) 2147483647 (by omega) hs) λ_ _ hs=>?_
     obtain ⟨rfl,hs⟩:=hs
     refine zd ?_
     rw [hsq] at hs ⊢
     refine z0d hs λw' hs=>?_
     refine z3t ?_
     refine zg ?_
     exact hs.sub
    ·have h2:z3m k.1≠false:=by simpa using h2
     rw [if_neg λh=>h2 h.2] at hsq
     refine z3t ?_
     refine zg ?_
     rw [<- hsq]
     exact hs.sub
   ·rw [if_neg h] at hep
    rw [if_neg λh2=>h h2.1] at hsq
    refine zg ?_
    rw [<- hsq,<- hep]
    exact hs.sub
  rintro _ w1 hs
  refine zb (z91 (p:=p) 1099511627776 (by omega) hs) λ_ _ hs=>?_
  obtain ⟨rfl,hs⟩:=hs
  refine zd ?_
  have htb:=zeu (most:=1099511627776) (by decide) sq.2
  generalize z0c 1099511627776 sq.2=tm at *
  refine z0d hs λw' hs=>?_
  refine zb (zsd (p:=p) hs) λ_ _ hs=>?_
  obtain ⟨er,rfl,her,hs⟩:=hs
  refine zd ?_
  refine za hs ?_
  rw [hH] at hdec
  generalize hHH:(⟨k,ba,pi,ep,sq,tm⟩:HdS)=H at *
  have e1:H.tm=tm:=by rw [<- hHH]
  have e2:H.k=k:=by rw [<- hHH]
  unfold zkg at hdec
  rw [e1,e2] at hdec
  refine zf (λh=>?_) λh=>?_
  ·refine hfail hs.sub ?_
   rw [hdec,if_pos]
   rcases h with h|h
   ·left
    cases hi:tm.2.isSome with
    | false=>rfl
    | true=>exact absurd (her.2 hi) h
   ·right;omega
  have htm:tm.1<=1099511627776:=by
   apply Decidable.byContradiction
   intro hh
   exact h (.inr (by omega))
  have her0:tm.2.isSome=true:=her.1 (Decidable.byContradiction λhh=>h (.inl hh))
  rw [if_neg (by rw [her0];rintro (h|h);cases h;omega)] at hdec
  refine zr hs ?_
  refine zb (z76 ⟨ba.1,pi.1,ep.1,sq.1,k.1,tm.1,z6v,[]⟩ hs) λ_ w' hs=>?_
  obtain ⟨rfl,hs⟩:=hs
  refine zd ?_
  have em:z0x ⟨ba.1,pi.1,ep.1,sq.1,k.1,tm.1,z6v,[]⟩=z3m k.1:=rfl
  rw [em]
  refine zn (λ_ w'=>∃ (rs:List RecM) (z:Sl) (s1:Lf),DD=(if s1=some []/\z01 (H.b rs)=0 then some (H.b rs) else none)/\Sat w' (slc T.a3 4 z (rs.flatMap zw)::pt a2 (.cells [.int .i64 ba.1,.int .i64 pi.1,.int .i64 ep.1,.int .i64 sq.1,.int .i64 k.1,.int .i64 tm.1,.slice z.a z.len z.cap].toArray T.a1)::rdS T.a41 p s1::pt a1 (.cells zeroC T.a1)::pt a0 (.cells zeroC T.a1)::l)) ?_ ?_
  ·refine zf (λh2=>?_) λh2=>?_
   rotate_left
   ·have h2:z3m k.1=true:=by simpa using h2
    rw [if_pos h2] at hdec
    refine zg ⟨[],⟨none,0,0⟩,tm.2,hdec,?_⟩
    have hs:Sat _ (slc T.a3 4 ⟨none,0,0⟩ (([]:List RecM).flatMap zw)::_):=hs.slc_nil
    exact hs.sub
   have h2:z3m k.1=false:=by simpa using h2
   rw [if_neg (by rw [h2];simp)] at hdec
   refine zb (z91 (p:=p) 64 (by omega) hs) λ_ _ hs=>?_
   obtain ⟨rfl,hs⟩:=hs
   refine zd ?_
   have hnb:=zeu (most:=64) (by decide) tm.2
   generalize z0c 64 tm.2=n at *
   refine wp_lt ?_
   refine zf (λh3=>?_) λh3=>?_
   ·rw [if_pos h3] at hdec
    have hf:=hfail hs.sub hdec
    exact zt1 hf (λ_ _ _ h=>h.1) λvs w h=>z7r (by decide) h
   rw [if_neg h3] at hdec
   refine zn (λ_ w'=>∃ (rs:List RecM) (z:Sl) (s1:Lf),z4r tm.1 n.1.toNat ⟨#[]⟩ n.2=some (rs,s1)/\Sat w' (slc T.a3 4 z (rs.flatMap zw)::pt a2 (.cells [.int .i64 ba.1,.int .i64 pi.1,.int .i64 ep.1,.int .i64 sq.1,.int .i64 k.1,.int .i64 tm.1,.slice z.a z.len z.cap].toArray T.a1)::rdS T.a41 p s1::pt a1 (.cells zeroC T.a1)::pt a0 (.cells zeroC T.a1)::l)) ?_ ?_
   rotate_left
   ·rintro _ w1 ⟨rs,z,s1,hrs,hs⟩
    rw [hrs] at hdec
    exact zg ⟨rs,z,s1,hdec,hs⟩
   refine z06 (λm v w=>∃ (i:Nat) (done:List RecM) (ahead:ByteArray) (z:Sl) (s1:Lf),v=(ahead,((i:Int),()))/\i<=n.1.toNat/\n.1.toNat-i=m/\done.length=i/\ahead.size<=2100 /\
    z4r tm.1 n.1.toNat ⟨#[]⟩ n.2=(z4r tm.1 (n.1.toNat-i) ahead s1).map (λq=>(done++q.1,q.2))/\Sat w (slc T.a3 4 z (done.flatMap zw)::pt a2 (.cells [.int .i64 ba.1,.int .i64 pi.1,.int .i64 ep.1,.int .i64 sq.1,.int .i64 k.1,.int .i64 tm.1,.slice z.a z.len z.cap].toArray T.a1)::rdS T.a41 p s1::pt a1 (.cells zeroC T.a1)::pt a0 (.cells zeroC T.a1)::l)) n.1.toNat
    ⟨0,[],⟨#[]⟩,⟨none,0,0⟩,n.2,rfl,by omega,rfl,rfl,(by show 0<=2100;omega),?_,(show Sat _ (slc T.a3 4 ⟨none,0,0⟩ (([]:List RecM).flatMap zw)::_) from hs.slc_nil).sub⟩ ?_
   ·cases z4r tm.1 n.1.toNat ⟨#[]⟩ n.2 <;> simp
   clear hs
   rintro m _ w ⟨i,done,ahead,z,s1,rfl,hi,hm,hdl,hah,hrec,hs⟩
   refine zf (λhc=>?_) λhc=>?_
   rotate_left
   ·refine zk (zg ⟨done,z,s1,?_,hs⟩)
    have hc:¬ ((i:Int)<n.1):=hc
    rw [hrec,show n.1.toNat-i=0 by omega]
    simp [z4r]
   have hc:(i:Int)<n.1:=hc
   refine za hs ?_
   refine zb (zz8 (p:=p) tm.1 ⟨htb.1,htm⟩ ahead (by omega) hs) λ_ w' hs=>?_
   obtain ⟨y,rfl,hy,hyk,hs⟩:=hs
   refine ⟨(y.key,y.value,y.gone,y.time,(z3s tm.1 ahead s1).1.isSome,()),rfl,trivial,z041 _ _ _ _ _ ?_⟩
   refine zv hs λa3 w' hs=>?_
   refine zx hs λw' hs=>?_
   refine wp_lt ?_
   have hsucc:n.1.toNat-i=(n.1.toNat-(i+1))+1:=by omega
   rw [hsucc] at hrec
   rw [zpn] at hrec
   refine zf (λh4=>?_) λh4=>?_
   ·have h4:(z3s tm.1 ahead s1).1=none:=by simpa using h4
    rw [h4] at hrec
    have hrec:z4r tm.1 n.1.toNat ⟨#[]⟩ n.2=none:=hrec
    rw [hrec] at hdec
    have hf:=hfail hs.sub hdec
    exact zt1 hf (λ_ _ _ h=>h.1) λvs w h=>z7r (by decide) (z7r (by decide) (z7r (by decide) h))
   have h4:(z3s tm.1 ahead s1).1.isSome=true:=by
    cases hq:(z3s tm.1 ahead s1).1 with
    | none=>rw [hq] at h4;exact absurd (by simp) h4
    | some q=>rfl
   obtain ⟨y',hy'⟩:=Option.isSome_iff_exists.1 h4
   obtain rfl:=hy y' hy'
   rw [hy'] at hrec
   refine za hs ?_
   refine zr hs ?_
   refine z5z (xs:=done) (enc:=zw) (y:=y) hs (λz' w' hs=>?_) rfl (by omega)
   refine z0d hs λw' hs=>?_
   refine za hs ?_
   refine wp_lt ?_
   have e5:IntKind.wrap .i64 ((i:Int)+1)=((i+1:Nat):Int):=by rw [w64 (by omega) (by omega)];omega
   rw [e5]
   refine z0l (n.1.toNat-(i+1)) ?_
   refine ⟨i+1,done++[y],y.key,z',(z3s tm.1 ahead s1).2,rfl,by omega,rfl,by simp [hdl],hyk,?_,hs.sub⟩
   rw [hrec,Option.map_map]
   congr 1
   funext q
   simp
  rintro _ w1 ⟨rs,z,s1,hDD,hs⟩
  have hb:H.b rs=⟨ba.1,pi.1,ep.1,sq.1,k.1,tm.1,z6v,rs⟩:=by rw [<- hHH];rfl
  have hv0:z01 (H.b rs)=z01 ⟨ba.1,pi.1,ep.1,sq.1,k.1,tm.1,z,rs⟩:=by rw [hb];rfl
  refine zn (λq w'=>q=(DD.isNone,())/\Sat w' (slc T.a3 4 z (rs.flatMap zw)::pt a2 (.cells [.int .i64 ba.1,.int .i64 pi.1,.int .i64 ep.1,.int .i64 sq.1,.int .i64 k.1,.int .i64 tm.1,.slice z.a z.len z.cap].toArray T.a1)::pt a1 (.cells zeroC T.a1)::pt a0 (.cells zeroC T.a1)::l)) ?_ ?_
  ·refine zb (zt9 (p:=p) hs) λ_ w' hs=>?_
   obtain ⟨e,rfl,he,hs⟩:=hs
   refine zd ?_
   refine zr hs ?_
   refine zf (λh5=>?_) λh5=>?_
   ·refine zg ⟨?_,hs.sub⟩
    rw [hDD,if_neg λhh=>h5 (he.2 hh.1)]
    rfl
   ·have h5:s1=some []:=he.1 (Decidable.not_not.1 h5)
    refine zb (zda ⟨ba.1,pi.1,ep.1,sq.1,k.1,tm.1,z,rs⟩ hs) λ_ w' hs=>?_
    obtain ⟨rfl,hs⟩:=hs
    refine zd ?_
    refine zg ⟨?_,hs.sub⟩
    rw [hDD,<- hv0]
    by_cases h6:z01 (H.b rs)=0
    ·rw [if_pos ⟨h5,h6⟩,h6];rfl
    ·rw [if_neg λhh=>h6 hh.2]
     simpa using h6
  rintro _ w1 ⟨rfl,hs⟩
  refine zf (λh6=>?_) λh6=>?_
  ·exact hfail hs.sub (by simpa using h6)
  ·rw [hDD] at h6
   split at h6
   rotate_left
   ·exact absurd rfl h6
   rename_i h7
   rw [if_pos h7] at hDD
   refine zr hs ?_
   have hs:Sat w1 (slc T.a3 4 z (rs.flatMap zw)::pt a2 (.cells [.int .i64 ba.1,.int .i64 pi.1,.int .i64 ep.1,.int .i64 sq.1,.int .i64 k.1,.int .i64 tm.1,.slice z.a z.len z.cap].toArray T.a1)::pt a1 (.cells zeroC T.a1)::pt a0 (.cells [.int .i64 0,.int .i64 0,.int .i64 0,.int .i64 0,.int .i64 0,.int .i64 0,.slice none 0 0].toArray T.a1)::l):=hs
   refine zx hs λw' hs=>?_
   refine zr hs ?_
   refine ⟨rfl,.inl ⟨H.b rs,z,hDD,?_,?_⟩⟩
   ·rw [hb];rfl
   ·rw [hb];exact hs.sub
end
section
variable {w:World} {l r:List HP} {Q:Post} {S:World->Prop}
theorem z74 {P:Program} {t:TypeId} {sz:Nat} {α:Type} {enc:α->List Value} {n:Nat} {ps:Array (Nat × Value)} {el:TypeId} {bytes:Nat} {k:Sl->Prog} (hs:Sat w l) [ht:SlT P t el sz bytes] [hE:EncN enc sz] (xs:List α)
  (h:∀ x w',Sat w' (slc el sz x (xs.flatMap enc)::l)->S w'/\(k x).wp P S w' Q) (hc:z4o P t n ps=some (el,(xs.flatMap enc).toArray):=by kernel_rfl) (hn:xs.length=n:=by rfl) :
  (Prog.act (Instr.buildSlice t n ps) sL (u1 k)).wp P S w Q:=by
 have hp:=hs.push (o:=.cells (xs.flatMap enc).toArray el) (w':={ w with heap:=w.heap.push (.cells (xs.flatMap enc).toArray el) }) rfl
 have hsz:(xs.flatMap enc).toArray.size=n*sz:=by rw [List.size_toArray,z4d,hn]
 have h1:Sat { w with heap:=w.heap.push (.cells (xs.flatMap enc).toArray el) } (slc el sz ⟨some ⟨w.heap.size,0,none⟩,n,n⟩ (xs.flatMap enc)::l):=by
  have:=hp.slc_of (sz:=sz) hsz
  rwa [List.toList_toArray] at this
 have h2:=h ⟨some ⟨w.heap.size,0,none⟩,n,n⟩ _ h1
 exact ⟨(⟨some ⟨w.heap.size,0,none⟩,n,n⟩,()),_,zkm hc,h2.1,h2.2⟩
theorem zns {P:Program} {α:Type} {enc:α->List Value} {xs ys:List α} {t tx ty el el':TypeId} {sz bytes sz' bytes':Nat} {x y:Sl} {k:Sl->Prog} (hs:Sat w l) [ht:SlT P t el sz bytes] [htx:SlT P tx el' sz' bytes'] [hf:FocS l x el sz (xs.flatMap enc) r] [hy:FocR l y sz (ys.flatMap enc)] [hE:EncN enc sz]
  (h:∀ z w',Sat w' (slc el sz z ((xs++ys).flatMap enc)::r)->S w'/\(k z).wp P S w' Q) (hb:(xs.length+ys.length)*bytes<=140737488355328/\xs.length+ys.length<=9223372036854775807:=by omega) :
  (Prog.act (app t tx ty (.slice x.a x.len x.cap) (.slice y.a y.len y.cap)) sL (u1 k)).wp P S w Q:=by
 have h1:x.len=xs.length:=(hs.focS x).rd.len hE.len hE.pos
 have h2:=hs.slen y (xs:=ys) (enc:=enc)
 refine zqv hs (hy.rd w hs) (λu hu=>?_) (by rw [h1,h2];exact hb.1) (by rw [h1,h2];exact hb.2) λz w' _ hs'=>h z w' ?_
 ·obtain ⟨a,-,hu⟩:=List.mem_flatMap.1 hu
  exact hE.one a u hu
 ·rw [List.flatMap_append];exact hs'
end
abbrev cB (b:BatM):Array Value:=#[.int .i64 b.base,.int .i64 b.pid,.int .i64 b.epoch,.int .i64 b.seq,.int .i64 b.kind,.int .i64 b.time,.slice b.x.a b.x.len b.x.cap]
abbrev cR (r:RecM):Array Value:=#[.string r.key,.string r.value,.bool r.gone,.int .i64 r.time]
theorem zb0 (time:Int):∀ (rs:List RecM) (ahead:ByteArray) (r:RecM),z2g time ahead (rs++[r])=z2g time ahead rs++z4j time (match rs.getLast? with|none=>ahead|some x=>x.key) r
 | [],ahead,r=>by simp [z2g]
 | a::rs,ahead,r=>by
  show z4j time ahead a++z2g time a.key (rs++[r])=z4j time ahead a++z2g time a.key rs++_
  rw [zb0 time rs a.key r,List.append_assoc]
  congr 3
  cases rs with
  | nil=>rfl
  | cons b bs=>rfl
theorem znm {b:BatM} (hv:z01 b=0) (i:Nat):(z2g b.time ⟨#[]⟩ (b.rs.take i)).length<=133696:=by
 obtain ⟨h64,hrs⟩:=z24 hv
 have h1:=zc3 (time:=b.time) (n:=2048) (rs:=b.rs.take i) (ahead:=⟨#[]⟩) λr hr=>by
  obtain ⟨h1,h2,-⟩:=z3p (hrs r (List.mem_of_mem_take hr))
  omega
 have h2:(b.rs.take i).length<=64:=by rw [List.length_take];omega
 have:(b.rs.take i).length*(41+2048)<=64*(41+2048):=Nat.mul_le_mul_right _ h2
 omega
def hdL (b:BatM):List UInt8:=1::UInt8.ofNat b.kind.toNat::(uI b.base++uI b.pid)
def z4i (b:BatM):List UInt8:=if b.pid>0 then uI b.epoch++(if z0x b then [] else uI b.seq) else []
theorem zdb (b:BatM):z2e b=(hdL b++z4i b++uI b.time)++if z0x b then [] else uI b.rs.length++z2g b.time ⟨#[]⟩ b.rs:=by
 unfold z2e hdL z4i
 simp only [List.cons_append,List.append_assoc]
section
variable {w:World} {l r:List HP}
set_option maxHeartbeats 1000000 in
theorem zjt (b:BatM) [hb:FocR l b.x 4 (b.rs.flatMap zw)] (hs:Sat w l) :
  Ret P F.a37 #[.agg (zi b).toArray] w λvs w'=>(z01 b≠0/\vs=[.slice none 0 0,.int .i64 (z01 b)]/\Sat w' l)\/(z01 b=0/\∃ z:Sl,vs=[z.v,.int .i64 0]/\Sat w' (slc T.a39 1 z ((z2e b).flatMap zh)::l)) :=
 zrd b.base b.pid b.epoch b.seq b.kind b.time b.x <| by
  unfold z02y
  have hlx:=hs.slen b.x (xs:=b.rs) (enc:=zw)
  refine z02 hs λa0 w' hs=>?_
  refine zr hs ?_
  refine zb (zda b hs) λ_ w' hs=>?_
  obtain ⟨rfl,hs⟩:=hs
  refine zd ?_
  refine wp_lt ?_
  refine zf (λh=>?_) λh=>?_
  ·refine wp_lt ?_
   exact ⟨rfl,.inl ⟨h,rfl,hs.tail⟩⟩
  have hv:z01 b=0:=Decidable.not_not.1 h
  obtain ⟨-,-,⟨hk,hba,hpi,hep,hsq,htm⟩,hfit,-⟩:=z1d b hv
  obtain ⟨h64,hrs⟩:=z24 hv
  refine zn (λq w'=>∃ z:Sl,q=(z,())/\Sat w' (slc T.a39 1 z ((hdL b).flatMap zh)::pt a0 (.cells (cB b) T.a1)::l)) ?_ ?_
  ·have ek:IntKind.wrap .u8 b.kind=(((UInt8.ofNat b.kind.toNat).toNat:Nat):Int):=by
    rw [wu8 (by omega) (by omega),UInt8.toNat_ofNat'];omega
   have hul1:=z1a b.base
   have hul2:=z1a b.pid
   refine z0a hs λw' hs=>?_
   refine z1e hs ?_
   refine z1e hs ?_
   refine z1e hs ?_
   have fin:∀ {w':World} {z1 z2 z3:Sl},Sat w' (slc T.a39 1 z1 (([1,UInt8.ofNat b.kind.toNat]:List UInt8).flatMap zh)::slc T.a39 1 z2 ((uI b.base).flatMap zh)::slc T.a39 1 z3 ((uI b.pid).flatMap zh)::pt a0 (.cells (cB b) T.a1)::l) ->
     (Prog.act (Instr.buildSlice T.a24 3 #[(0,z1.v),(1,z2.v),(2,z3.v)]) sL (u1 λl17=>.call F.a149 [l17.v] sL (u1 λl18=>.untick <| .done 1 [l18.v]))).wp P (λ_=>True) w' (Post.catch (λe vs w'=>e=0/\((z01 b≠0/\vs=[.slice none 0 0,.int .i64 (z01 b)]/\Sat w' l)\/(z01 b=0/\∃ z:Sl,vs=[z.v,.int .i64 0]/\Sat w' (slc T.a39 1 z ((z2e b).flatMap zh)::l)))) 1 λvs w'=>∃ x,vs=z2y [.one .slc] x/\∃ z:Sl,x=(z,())/\Sat w' (slc T.a39 1 z ((hdL b).flatMap zh)::pt a0 (.cells (cB b) T.a1)::l)):=by
    intro w' z1 z2 z3 hs
    refine z6h hs (enc:=z0b) [z1,z2,z3] λz4 w' hs=>?_
    refine zb (zug z4 z1 z2 z3 [1,UInt8.ofNat b.kind.toNat] (uI b.base) (uI b.pid) (by simp only [List.length_cons,List.length_nil];omega) hs) λ_ w' hs=>?_
    obtain ⟨z5,rfl,hs⟩:=hs
    refine zd ?_
    refine zj ?_
    refine zg ⟨z5,rfl,?_⟩
    have e:[1,UInt8.ofNat b.kind.toNat]++(uI b.base++uI b.pid)=hdL b:=by unfold hdL;simp
    rw [e] at hs
    exact hs.sub
   rw [ek]
   refine zh1 ?_ ?_
   ·refine z74 hs (enc:=zh) [1,UInt8.ofNat b.kind.toNat] λz1 w' hs=>⟨(by first|trivial|(repeat (first|exact trivial|exact λ_=>z0i hs|exact λ_=>z0n hs|refine And.intro ?_ ?_))),?_⟩
    refine zb (z5a b.base (by omega) hs) λ_ w' hs=>?_
    obtain ⟨z2,rfl,hs⟩:=hs
    refine zd ?_ (by first|trivial|(repeat (first|exact trivial|exact λ_=>z0i hs|exact λ_=>z0n hs|refine And.intro ?_ ?_)))
    refine zb (z5a b.pid (by omega) hs) λ_ w' hs=>?_
    obtain ⟨z3,rfl,hs⟩:=hs
    refine zd ?_ (by first|trivial|(repeat (first|exact trivial|exact λ_=>z0i hs|exact λ_=>z0n hs|refine And.intro ?_ ?_)))
    refine zj ?_
    exact fin hs.sub
   ·refine zb (z5a b.base (by omega) hs) λ_ w' hs=>?_
    obtain ⟨z2,rfl,hs⟩:=hs
    refine zd ?_ (by first|trivial|(repeat (first|exact trivial|exact λ_=>z0i hs|exact λ_=>z0n hs|refine And.intro ?_ ?_)))
    refine zh1 ?_ ?_
    ·refine z74 hs (enc:=zh) [1,UInt8.ofNat b.kind.toNat] λz1 w' hs=>⟨(by first|trivial|(repeat (first|exact trivial|exact λ_=>z0i hs|exact λ_=>z0n hs|refine And.intro ?_ ?_))),?_⟩
     refine zb (z5a b.pid (by omega) hs) λ_ w' hs=>?_
     obtain ⟨z3,rfl,hs⟩:=hs
     refine zd ?_ (by first|trivial|(repeat (first|exact trivial|exact λ_=>z0i hs|exact λ_=>z0n hs|refine And.intro ?_ ?_)))
     refine zj ?_
     exact fin hs.sub
    ·refine zb (z5a b.pid (by omega) hs) λ_ w' hs=>?_
     obtain ⟨z3,rfl,hs⟩:=hs
     refine zd ?_ (by first|trivial|(repeat (first|exact trivial|exact λ_=>z0i hs|exact λ_=>z0n hs|refine And.intro ?_ ?_)))
     refine z74 hs (enc:=zh) [1,UInt8.ofNat b.kind.toNat] λz1 w' hs=>⟨(by first|trivial|(repeat (first|exact trivial|exact λ_=>z0i hs|exact λ_=>z0n hs|refine And.intro ?_ ?_))),?_⟩
     refine zj ?_
     exact fin hs.sub
  rintro _ w1 ⟨z,rfl,hs⟩
  have hdl:(hdL b).length<=22:=by
   have hul1:=z1a b.base
   have hul2:=z1a b.pid
   unfold hdL
   simp only [List.length_cons,List.length_append]
   omega
  refine za hs ?_
  refine zn (λq w'=>∃ z:Sl,q=(z,())/\Sat w' (slc T.a39 1 z ((hdL b++z4i b).flatMap zh)::pt a0 (.cells (cB b) T.a1)::l)) ?_ ?_
  ·refine zf (λh2=>?_) λh2=>?_
   rotate_left
   ·refine zg ⟨z,rfl,?_⟩
    have e:z4i b=[]:=by unfold z4i;rw [if_neg h2]
    rw [e,List.append_nil]
    exact hs
   have hul:=z1a b.epoch
   refine za hs ?_
   refine zb (z5a b.epoch (by omega) hs) λ_ w' hs=>?_
   obtain ⟨z2,rfl,hs⟩:=hs
   refine zd ?_
   refine wp_app' (xs:=hdL b) (ys:=uI b.epoch) (enc:=zh) hs λz3 w' hs=>?_
   refine zr hs ?_
   refine zb (z76 b hs) λ_ w' hs=>?_
   obtain ⟨rfl,hs⟩:=hs
   refine zd ?_
   refine z4l ?_
   refine zf (λh3=>?_) λh3=>?_
   ·have h3:z0x b=false:=by simpa using h3
    have hul2:=z1a b.seq
    refine za hs ?_
    refine zb (z5a b.seq (by omega) hs) λ_ w' hs=>?_
    obtain ⟨z4,rfl,hs⟩:=hs
    refine zd ?_
    refine wp_app' (xs:=hdL b++uI b.epoch) (ys:=uI b.seq) (enc:=zh) hs (λz5 w' hs=>?_) (by rw [List.length_append];omega)
    refine z3t ?_
    refine zg ⟨z5,rfl,?_⟩
    have e:z4i b=uI b.epoch++uI b.seq:=by unfold z4i;rw [if_pos h2,h3];rfl
    rw [e,<- List.append_assoc]
    exact hs.sub
   ·have h3:z0x b=true:=by simpa using h3
    refine z3t ?_
    refine zg ⟨z3,rfl,?_⟩
    have e:z4i b=uI b.epoch:=by unfold z4i;rw [if_pos h2,h3,if_pos rfl,List.append_nil]
    rw [e]
    exact hs.sub
  rintro _ w2 ⟨z2,rfl,hs⟩
  have hml:(z4i b).length<=20:=by
   have hul1:=z1a b.epoch
   have hul2:=z1a b.seq
   unfold z4i
   split
   ·split
    ·simp only [List.length_append,List.length_nil];omega
    ·simp only [List.length_append];omega
   ·simp
  have htl:=z1a b.time
  refine za hs ?_
  refine zb (z5a b.time (by omega) hs) λ_ w' hs=>?_
  obtain ⟨z3,rfl,hs⟩:=hs
  refine zd ?_
  refine wp_app' (xs:=hdL b++z4i b) (ys:=uI b.time) (enc:=zh) hs (λz4 w' hs=>?_) (by rw [List.length_append];omega)
  refine zr hs ?_
  refine zb (z76 b hs) λ_ w' hs=>?_
  obtain ⟨rfl,hs⟩:=hs
  refine zd ?_
  refine zf (λh3=>?_) λh3=>?_
  ·refine ⟨rfl,.inr ⟨hv,z4,rfl,?_⟩⟩
   rw [zdb,h3,if_pos rfl,List.append_nil]
   exact hs.sub
  have h3:z0x b=false:=by simpa using h3
  have hcl:=z1a ((b.rs.length:Nat):Int)
  refine za hs ?_
  rw [hlx]
  refine zb (z5a ((b.rs.length:Nat):Int) (by omega) hs) λ_ w' hs=>?_
  obtain ⟨z5,rfl,hs⟩:=hs
  refine zd ?_
  generalize hX:hdL b++z4i b++uI b.time=X at hs
  have hXl:X.length<=60:=by rw [<- hX];simp only [List.length_append];omega
  refine wp_app' (xs:=X) (ys:=uI (b.rs.length:Nat)) (enc:=zh) hs (λz6 w' hs=>?_) (by omega)
  refine za hs ?_
  generalize hY:X++uI ((b.rs.length:Nat):Int)=Y at hs
  have hYl:Y.length<=80:=by rw [<- hY];simp only [List.length_append];omega
  have hfin:z2e b=Y++z2g b.time ⟨#[]⟩ b.rs:=by
   rw [zdb,hX,h3,if_neg (by simp),<- hY,List.append_assoc]
  refine zn (λq w'=>∃ z:Sl,q=(z,())/\Sat w' (slc T.a39 1 z ((z2e b).flatMap zh)::l)) ?_ ?_
  rotate_left
  ·rintro _ w' ⟨z,rfl,hs⟩
   exact ⟨rfl,.inr ⟨hv,z,rfl,hs⟩⟩
  have hrec:=znm hv
  refine z06 (λm v w=>∃ (i:Nat) (z:Sl),v=(z,((match (b.rs.take i).getLast? with|none=>(⟨#[]⟩:ByteArray)|some x=>x.key),((i:Int),())))/\i<=b.rs.length/\b.rs.length-i=m/\Sat w (slc T.a39 1 z ((Y++z2g b.time ⟨#[]⟩ (b.rs.take i)).flatMap zh)::pt a0 (.cells (cB b) T.a1)::l)) b.rs.length ⟨0,z6,rfl,by omega,rfl,by
   rw [List.take_zero]
   show Sat _ (slc T.a39 1 z6 ((Y++[]).flatMap zh)::_)
   rw [List.append_nil]
   exact hs.sub⟩ ?_
  clear hs
  rintro m _ w ⟨i,z,rfl,hi,hm,hs⟩
  refine zf (λhc=>?_) λhc=>?_
  rotate_left
  ·refine zk (zg ⟨z,rfl,?_⟩)
   have hc:¬ ((i:Int)<((b.x.len:Nat):Int)):=hc
   have hi2:i=b.rs.length:=by omega
   rw [hi2,List.take_length,<- hfin] at hs
   exact hs.sub
  have hc:((i:Int)<((b.x.len:Nat):Int)):=hc
  have hil:i<b.rs.length:=by omega
  refine z1n hs (xs:=b.rs) (enc:=zw) i hil ?_
  refine zv hs λa1 w' hs=>?_
  refine zx hs λw' hs=>?_
  refine za hs ?_
  obtain ⟨hr1,hr2,hr3,hr4⟩:=z3p (hrs b.rs[i] (List.getElem_mem hil))
  have hah:∀ x,(match (b.rs.take i).getLast? with|none=>(⟨#[]⟩:ByteArray)|some x=>x.key)=x->x.size<=1024:=by
   intro x hx
   cases hq:(b.rs.take i).getLast? with
   | none=>rw [hq] at hx;subst hx;show 0<=1024;omega
   | some y =>
    rw [hq] at hx
    subst hx
    exact (z3p (hrs y (List.mem_of_mem_take (List.mem_of_getLast? hq)))).1
  have hsn:=zb0 b.time (b.rs.take i) ⟨#[]⟩ b.rs[i]
  rw [<- List.take_succ_eq_append_getElem hil] at hsn
  have hln:=hrec (i+1)
  rw [hsn,List.length_append] at hln
  have hlast:(match (b.rs.take (i+1)).getLast? with|none=>(⟨#[]⟩:ByteArray)|some x=>x.key)=b.rs[i].key:=by
   rw [List.take_succ_eq_append_getElem hil,z1g]
  generalize (match (b.rs.take i).getLast? with|none=>(⟨#[]⟩:ByteArray)|some x=>x.key)=ahead at *
  have hah:=hah ahead rfl
  refine zb (zod ahead b.rs[i].key (by omega) hs) λ_ w' hs=>?_
  obtain ⟨rfl,hs⟩:=hs
  refine zd ?_
  refine wp_lt ?_
  have hal:=z7y (bl ahead) (bl b.rs[i].key)
  rw [z0z,z0z] at hal
  have hrl:z4j b.time ahead b.rs[i]=(z3h (b.rs[i].time-b.time)++([z54 b.rs[i].gone]++(uI (z04 (bl ahead) (bl b.rs[i].key):Nat)++z4h ahead b.rs[i].key)))++if b.rs[i].gone then [] else uI b.rs[i].value.size++bl b.rs[i].value:=by
   unfold z4j
   simp only [List.append_assoc,List.cons_append,List.nil_append,List.singleton_append]
  generalize hZ:Y++z2g b.time ⟨#[]⟩ (b.rs.take i)=Z at *
  have hZl:Z.length<=200000:=by rw [<- hZ,List.length_append];omega
  have htl1:=zcx (b.rs[i].time-b.time)
  have htl2:=z1a ((z04 (bl ahead) (bl b.rs[i].key):Nat):Int)
  have htl3:(z4h ahead b.rs[i].key).length<=1034:=by
   unfold z4h
   have:=z1a (((b.rs[i].key.size-z04 (bl ahead) (bl b.rs[i].key):Nat)):Int)
   rw [List.length_append,List.length_drop,z0z]
   omega
  refine zn (λq w'=>∃ z:Sl,q=(z,())/\Sat w' (slc T.a39 1 z ((Z++(z3h (b.rs[i].time-b.time)++([z54 b.rs[i].gone]++(uI (z04 (bl ahead) (bl b.rs[i].key):Nat)++z4h ahead b.rs[i].key)))).flatMap zh)::pt a1 (.cells (cR b.rs[i]) T.a3)::pt a0 (.cells (cB b) T.a1)::l)) ?_ ?_
  ·refine z0a hs λw' hs=>?_
   refine za hs ?_
   refine za hs ?_
   refine z1e hs ?_
   refine z1e hs ?_
   refine wp_must (by omega) ?_
   rw [w64 (by omega) (by omega)]
   refine zb (zym (b.rs[i].time-b.time) (by omega) hs) λ_ w' hs=>?_
   obtain ⟨u1_,rfl,hs⟩:=hs
   refine zd ?_ (by first|trivial|(repeat (first|exact trivial|exact λ_=>z0i hs|exact λ_=>z0n hs|refine And.intro ?_ ?_)))
   refine zb (zzd b.rs[i].gone hs) λ_ w' hs=>?_
   obtain ⟨u2_,rfl,hs⟩:=hs
   refine zd ?_ (by first|trivial|(repeat (first|exact trivial|exact λ_=>z0i hs|exact λ_=>z0n hs|refine And.intro ?_ ?_)))
   refine zb (z5a ((z04 (bl ahead) (bl b.rs[i].key):Nat):Int) (by omega) hs) λ_ w' hs=>?_
   obtain ⟨u3_,rfl,hs⟩:=hs
   refine zd ?_ (by first|trivial|(repeat (first|exact trivial|exact λ_=>z0i hs|exact λ_=>z0n hs|refine And.intro ?_ ?_)))
   refine zj ?_
   have ext:(ByteArray.extract b.rs[i].key (z04 (bl ahead) (bl b.rs[i].key)) b.rs[i].key.size).size=b.rs[i].key.size-z04 (bl ahead) (bl b.rs[i].key):=by rw [ByteArray.size_extract];omega
   have exb:bl (ByteArray.extract b.rs[i].key (z04 (bl ahead) (bl b.rs[i].key)) b.rs[i].key.size)=(bl b.rs[i].key).drop (z04 (bl ahead) (bl b.rs[i].key)):=by
    unfold bl
    rw [ByteArray.data_extract,Array.toList_extract,List.extract_eq_take_drop]
    exact List.take_of_length_le (by rw [List.length_drop];exact Nat.le_refl _)
   rw [Int.toNat_natCast]
   refine zb (zob (ByteArray.extract b.rs[i].key (z04 (bl ahead) (bl b.rs[i].key)) b.rs[i].key.size) (by omega) hs) λ_ w' hs=>?_
   obtain ⟨u4_,rfl,hs⟩:=hs
   refine zd ?_
   rw [ext,exb] at hs
   have hs:Sat _ (slc T.a39 1 u4_ ((z4h ahead b.rs[i].key).flatMap zh)::_):=hs
   refine z6h hs (enc:=z0b) [u1_,u2_,u3_,u4_] λu5_ w' hs=>?_
   refine zb (zw5 u5_ u1_ u2_ u3_ u4_ (z3h (b.rs[i].time-b.time)) [z54 b.rs[i].gone] (uI (z04 (bl ahead) (bl b.rs[i].key):Nat)) (z4h ahead b.rs[i].key) (by simp only [List.length_cons,List.length_nil];omega) hs) λ_ w' hs=>?_
   obtain ⟨u6_,rfl,hs⟩:=hs
   refine zd ?_
   refine wp_app' (xs:=Z) (ys:=z3h (b.rs[i].time-b.time)++([z54 b.rs[i].gone]++(uI (z04 (bl ahead) (bl b.rs[i].key):Nat)++z4h ahead b.rs[i].key))) (enc:=zh) hs (λz5 w' hs=>?_) (by simp only [List.length_append,List.length_cons,List.length_nil];omega)
   refine zj ?_
   refine zg ⟨z5,rfl,?_⟩
   exact hs.sub
  rintro _ w3 ⟨z5,rfl,hs⟩
  refine za hs ?_
  refine zn (λq w'=>∃ z:Sl,q=(z,())/\Sat w' (slc T.a39 1 z ((Z++z4j b.time ahead b.rs[i]).flatMap zh)::pt a1 (.cells (cR b.rs[i]) T.a3)::pt a0 (.cells (cB b) T.a1)::l)) ?_ ?_
  ·refine zf (λh5=>?_) λh5=>?_
   ·have h5:b.rs[i].gone=false:=by simpa using h5
    refine za hs ?_
    refine zb (zob b.rs[i].value (by omega) hs) λ_ w' hs=>?_
    obtain ⟨u,rfl,hs⟩:=hs
    refine zd ?_
    have hvl:=z1a ((b.rs[i].value.size:Nat):Int)
    have hvs:=z0z b.rs[i].value
    refine wp_app' (xs:=Z++(z3h (b.rs[i].time-b.time)++([z54 b.rs[i].gone]++(uI (z04 (bl ahead) (bl b.rs[i].key):Nat)++z4h ahead b.rs[i].key)))) (ys:=uI (b.rs[i].value.size:Nat)++bl b.rs[i].value) (enc:=zh) hs (λz7 w' hs=>?_) (by simp only [List.length_append,List.length_cons,List.length_nil];omega)
    refine zg ⟨z7,rfl,?_⟩
    rw [hrl,if_neg (by rw [h5];simp),<- List.append_assoc]
    exact hs.sub
   ·have h5:b.rs[i].gone=true:=by simpa using h5
    refine zg ⟨z5,rfl,?_⟩
    rw [hrl,if_pos h5,List.append_nil]
    exact hs.sub
  rintro _ w4 ⟨z7,rfl,hs⟩
  refine za hs ?_
  refine wp_lt ?_
  have e5:IntKind.wrap .i64 ((i:Int)+1)=((i+1:Nat):Int):=by rw [w64 (by omega) (by omega)];omega
  rw [e5]
  refine z0l (b.rs.length-(i+1)) ?_
  refine ⟨i+1,z7,by rw [hlast],by omega,rfl,?_⟩
  rw [hsn,<- List.append_assoc,hZ]
  exact hs.sub
end
def zan (b:BatM) (k:Nat):BatM:=⟨b.base+k,b.pid,b.epoch,if b.pid>0 then b.seq+k else b.seq,b.kind,b.time,b.x,b.rs.drop k⟩
def z0k (off:Int) (b:BatM):Option BatM:=if z01 b≠0\/off>=z2n b then none else if z0x b=true\/off<=b.base then some b else some (zan b (off-b.base).toNat)
def rsP (b:BatM):HP:=slc T.a3 4 b.x (b.rs.flatMap zw)
def z0j (bs:List BatM):HP:=HP.all (bs.map rsP)
section
variable {w:World} {l r:List HP}
theorem zzx (b:BatM) [hb:FocR l b.x 4 (b.rs.flatMap zw)] (hlen:b.rs.length<=1000000) (hs:Sat w l):Ret P F.a35 #[.agg (zi b).toArray] w λvs w'=>∃ z:Sl,vs=[.agg (zi (b.at z)).toArray]/\Sat w' (slc T.a3 4 z (b.rs.flatMap zw)::l) :=
 zqm b.base b.pid b.epoch b.seq b.kind b.time b.x <| by
  unfold z02v
  refine z02 hs λa0 w' hs=>?_
  refine zv hs λa1 w' hs=>?_
  refine za hs ?_
  have hs:Sat w' (slc T.a3 4 ⟨none,0,0⟩ (([]:List RecM).flatMap zw)::_):=hs.slc_nil
  refine wp_app' (x:=⟨none,0,0⟩) (xs:=([]:List RecM)) (ys:=b.rs) (enc:=zw) hs (λz w' hs=>?_) (by simp only [List.length_nil];omega)
  rw [List.nil_append] at hs
  refine z0d hs λw' hs=>?_
  refine zr hs ?_
  refine zx hs λw' hs=>?_
  refine zr hs ?_
  refine ⟨rfl,z,rfl,?_⟩
  exact hs.sub
theorem zzo (b:BatM) (k:Nat) (hk:k<=b.rs.length) (hcap:b.x.len<=b.x.cap) (hv:z01 b=0) [hb:FocR l b.x 4 (b.rs.flatMap zw)] (hs:Sat w l):Ret P F.a46 #[.agg (zi b).toArray,.int .i64 (k:Int),.int .i64 (b.x.len:Nat)] w λvs w'=>∃ z:Sl,vs=[.agg (zi ((zan b k).at z)).toArray]/\Sat w' (slc T.a3 4 z ((b.rs.drop k).flatMap zw)::l) :=
 zqp b.base b.pid b.epoch b.seq b.kind b.time b.x _ _ <| by
  unfold z03r
  have hl:=hs.slen b.x (xs:=b.rs) (enc:=zw)
  obtain ⟨h64,-⟩:=z24 hv
  obtain ⟨-,-,⟨-,hba,hpi,-,hsq,-⟩,-,-⟩:=z1d b hv
  refine z02 hs λa0 w' hs=>?_
  refine zv hs λa1 w' hs=>?_
  refine zr hs ?_
  refine zv hs λa9 w' hs=>?_
  refine zx hs λw' hs=>?_
  refine za hs ?_
  refine wp_must (by omega) ?_
  rw [Int.toNat_natCast,Int.toNat_natCast]
  have hf:FocR (pt a9 (.cells #[.int .i64 b.base,.int .i64 b.pid,.int .i64 b.epoch,.int .i64 b.seq,.int .i64 b.kind,.int .i64 b.time,.slice b.x.a b.x.len b.x.cap] T.a1)::pt a1 (.cells #[.int .i64 0,.int .i64 0,.int .i64 0,.int .i64 0,.int .i64 0,.int .i64 0,.slice none 0 0] T.a1)::pt a0 (.cells #[.int .i64 b.base,.int .i64 b.pid,.int .i64 b.epoch,.int .i64 b.seq,.int .i64 b.kind,.int .i64 b.time,.slice b.x.a b.x.len b.x.cap] T.a1)::l) ⟨z12 b.x.a 4 k b.x.cap,b.x.len-k,b.x.cap-k⟩ 4 ((b.rs.drop k).flatMap zw):=FocR.post hcap
  have hs:Sat w' (slc T.a3 4 ⟨none,0,0⟩ (([]:List RecM).flatMap zw)::_):=hs.slc_nil
  refine wp_app' (x:=⟨none,0,0⟩) (y:=⟨z12 b.x.a 4 k b.x.cap,b.x.len-k,b.x.cap-k⟩) (xs:=([]:List RecM)) (ys:=b.rs.drop k) (enc:=zw) hs (λz w' hs=>?_) (by simp only [List.length_nil,List.length_drop];omega)
  rw [List.nil_append] at hs
  refine z0d hs λw' hs=>?_
  refine za hs ?_
  rw [w64 (by omega) (by omega)]
  refine z0d hs λw' hs=>?_
  refine za hs ?_
  refine zn (λ_ w'=>Sat w' (pt a9 (.cells [.int .i64 (b.base+k),.int .i64 b.pid,.int .i64 b.epoch,.int .i64 (if b.pid>0 then b.seq+k else b.seq),.int .i64 b.kind,.int .i64 b.time,.slice z.a z.len z.cap].toArray T.a1)::slc T.a3 4 z ((b.rs.drop k).flatMap zw)::pt a1 (.cells #[.int .i64 0,.int .i64 0,.int .i64 0,.int .i64 0,.int .i64 0,.int .i64 0,.slice none 0 0] T.a1)::l)) ?_ ?_
  ·refine zf (λh=>?_) λh=>?_
   ·refine za hs ?_
    rw [w64 (by omega) (by omega)]
    refine z0d hs λw' hs=>?_
    refine zg ?_
    rw [if_pos h]
    exact hs.sub
   ·refine zg ?_
    rw [if_neg h]
    exact hs.sub
  clear hs
  rintro _ w2 hs
  refine zr hs ?_
  refine zx hs λw' hs=>?_
  refine zr hs ?_
  refine ⟨rfl,z,rfl,?_⟩
  exact hs.sub
theorem zy7 (b:BatM) (off:Int) (ho : -9223372036854775808<=off/\off<9223372036854775808) (hcap:b.x.len<=b.x.cap) [hb:FocR l b.x 4 (b.rs.flatMap zw)] (hs:Sat w l):Ret P F.a38 #[.agg (zi b).toArray,.int .i64 off] w λvs w' =>
  (z0k off b=none/\vs=[.agg (zi ziy).toArray,.bool false]/\Sat w' l)\/(∃ (c:BatM) (z:Sl),z0k off b=some c/\vs=[.agg (zi (c.at z)).toArray,.bool true]/\Sat w' (slc T.a3 4 z (c.rs.flatMap zw)::l)) :=
 zpf b.base b.pid b.epoch b.seq b.kind b.time b.x off <| by
  unfold z027
  have hl:=hs.slen b.x (xs:=b.rs) (enc:=zw)
  refine z02 hs λa0 w' hs=>?_
  refine zv hs λa1 w' hs=>?_
  refine zn (λq w'=>q=(decide (z01 b≠0\/off>=z2n b),())/\Sat w' (pt a1 (.cells #[.int .i64 0,.int .i64 0,.int .i64 0,.int .i64 0,.int .i64 0,.int .i64 0,.slice none 0 0] T.a1)::pt a0 (.cells (cB b) T.a1)::l)) ?_ ?_
  ·refine zr hs ?_
   refine zb (zda b hs) λ_ w' hs=>?_
   obtain ⟨rfl,hs⟩:=hs
   refine zd ?_
   refine zr hs ?_
   refine zf (λh=>?_) λh=>?_
   ·exact zg ⟨by rw [decide_eq_true (.inl h)],hs⟩
   ·refine zb (zdf b hs) λ_ w' hs=>?_
    obtain ⟨rfl,hs⟩:=hs
    refine zd ?_
    refine wp_lt ?_
    refine zg ⟨?_,hs⟩
    rw [decide_eq_decide.2 (show (z01 b≠0\/off>=z2n b)↔off>=z2n b from ⟨λhh=>hh.resolve_left h,.inr⟩)]
  rintro _ w2 ⟨rfl,hs⟩
  refine zf (λh=>?_) λh=>?_
  ·have h:z01 b≠0\/off>=z2n b:=by simpa using h
   refine zx hs λw' hs=>?_
   refine zr hs ?_
   refine ⟨rfl,.inl ⟨by unfold z0k;rw [if_pos h],rfl,hs.tail.tail⟩⟩
  have h:¬ (z01 b≠0\/off>=z2n b):=by simpa using h
  have hv:z01 b=0:=Decidable.byContradiction λhh=>h (.inl hh)
  have hno:off<z2n b:=by
   apply Decidable.byContradiction;intro hh;exact h (.inr (by omega))
  have hnx:z2n b=b.base+z00 b:=by unfold z2n;rw [if_neg (by rw [hv];simp)]
  obtain ⟨h64,-⟩:=z24 hv
  obtain ⟨-,-,⟨-,hba,-⟩,-,-⟩:=z1d b hv
  refine zr hs ?_
  refine zb (z76 b hs) λ_ w' hs=>?_
  obtain ⟨rfl,hs⟩:=hs
  refine zd ?_
  refine za hs ?_
  refine wp_lt ?_
  refine zf (λh2=>?_) λh2=>?_
  ·refine zr hs ?_
   refine zb (zzx b (by omega) hs) λ_ w' hs=>?_
   obtain ⟨z,rfl,hs⟩:=hs
   refine ⟨(b.base,b.pid,b.epoch,b.seq,b.kind,b.time,z,()),rfl,trivial,zat _ _ _ _ _ _ _ ?_⟩
   refine zx hs λw' hs=>?_
   refine zr hs ?_
   refine ⟨rfl,.inr ⟨b,z,by unfold z0k;rw [if_neg h,if_pos h2],rfl,hs.sub⟩⟩
  ·have hm:z0x b=false:=by
    cases hm:z0x b with
    | false=>rfl
    | true=>exact absurd (.inl hm) h2
   have hob:¬ off<=b.base:=λhh=>h2 (.inr hh)
   have hsp:z00 b=b.rs.length:=by unfold z00;rw [hm];simp
   refine zr hs ?_
   refine za hs ?_
   refine za hs ?_
   rw [w64 (by omega) (by omega)]
   have eo:off-b.base=(((off-b.base).toNat:Nat):Int):=by omega
   rw [eo]
   refine zb (zzo b (off-b.base).toNat (by omega) hcap hv hs) λ_ w' hs=>?_
   obtain ⟨z,rfl,hs⟩:=hs
   refine ⟨(b.base+(off-b.base).toNat,b.pid,b.epoch,(if b.pid>0 then b.seq+(off-b.base).toNat else b.seq),b.kind,b.time,z,()),rfl,trivial,zat _ _ _ _ _ _ _ ?_⟩
   refine zx hs λw' hs=>?_
   refine zr hs ?_
   refine ⟨rfl,.inr ⟨zan b (off-b.base).toNat,z,by unfold z0k;rw [if_neg h,if_neg h2],rfl,(show Sat w' (slc T.a3 4 z ((b.rs.drop (off-b.base).toNat).flatMap zw)::l) from hs.sub)⟩⟩
end
theorem zto {a b:ByteArray} (h:a.data.toList=b.data.toList):a=b:=by
 cases a;cases b;exact congrArg ByteArray.mk (Array.ext' h)
theorem z9r:∀ x:List UInt8,Op.bytesLess x x=false
 | []=>rfl
 | a::x=>by rw [Op.bytesLess,z9r x];simp
theorem zfo:∀ {x y z:List UInt8},Op.bytesLess x y=true->Op.bytesLess y z=true->Op.bytesLess x z=true
 | [],_,[],_,h=>by cases ‹List UInt8› <;> simp [Op.bytesLess] at h
 | [],_,_::_,_,_=>rfl
 | _::_,[],_,h,_=>by simp [Op.bytesLess] at h
 | _::_,_::_,[],_,h=>by simp [Op.bytesLess] at h
 | a::x,b::y,c::z,h1,h2=>by
  simp only [Op.bytesLess,Bool.or_eq_true,decide_eq_true_eq,Bool.and_eq_true,beq_iff_eq] at h1 h2 ⊢
  rcases h1 with h1|⟨rfl,h1⟩
  ·rcases h2 with h2|⟨rfl,h2⟩
   ·exact .inl (UInt8.lt_trans h1 h2)
   ·exact .inl h1
  ·rcases h2 with h2|⟨rfl,h2⟩
   ·exact .inl h2
   ·exact .inr ⟨rfl,zfo h1 h2⟩
theorem zfq:∀ (x y:List UInt8),Op.bytesLess x y=true\/x=y\/Op.bytesLess y x=true
 | [],[]=>.inr (.inl rfl)
 | [],_::_=>.inl rfl
 | _::_,[]=>.inr (.inr rfl)
 | a::x,b::y=>by
  simp only [Op.bytesLess,Bool.or_eq_true,decide_eq_true_eq,Bool.and_eq_true,beq_iff_eq,List.cons.injEq]
  rcases Nat.lt_trichotomy a.toNat b.toNat with h|h|h
  ·exact .inl (.inl (UInt8.lt_iff_toNat_lt.2 h))
  ·have:=UInt8.toNat_inj.1 h
   subst this
   rcases zfq x y with h|rfl|h
   ·exact .inl (.inr ⟨rfl,h⟩)
   ·exact .inr (.inl ⟨rfl,rfl⟩)
   ·exact .inr (.inr (.inr ⟨rfl,h⟩))
  ·exact .inr (.inr (.inl (UInt8.lt_iff_toNat_lt.2 h)))
def ltS (a b:ByteArray):Bool:=Op.bytesLess (ByteArray.toList a) (ByteArray.toList b)
theorem z8g (a:ByteArray):ltS a a=false:=z9r _
theorem zia {a b c:ByteArray} (h1:ltS a b=true) (h2:ltS b c=true):ltS a c=true:=zfo h1 h2
theorem ztn (a b:ByteArray):ltS a b=true\/a=b\/ltS b a=true:=by
 rcases zfq (ByteArray.toList a) (ByteArray.toList b) with h|h|h
 ·exact .inl h
 ·exact .inr (.inl (zbz.1 h))
 ·exact .inr (.inr h)
theorem ztl {a b:ByteArray} (h:ltS a b=true):ltS b a=false:=by
 cases hb:ltS b a with
 | false=>rfl
 | true=>have:=zia h hb;rw [z8g] at this;cases this
structure FileA where
 name:ByteArray
 b:List UInt8
 kept:Nat
structure DiskA where
 room:Nat
 left:Int
 gone:Bool
 fs:List FileA
def used (fs:List FileA):Nat:=(fs.map λf=>f.b.length).sum
def DiskA.free (A:DiskA):Nat:=A.room-used A.fs
def okC (c:UInt8):Bool:=(97<=c.toNat && c.toNat<=122) || (48<=c.toNat && c.toNat<=57) || c.toNat == 46 || c.toNat == 45
def z30 (s:ByteArray):Bool:=s.data.toList.all okC && (1<=s.size && s.size<=24)
def z2j (fs:List FileA) (n:ByteArray):Bool:=fs.any λf=>decide (f.name=n)
def z2q (A:DiskA):DiskA:=if A.left>0 then { A with left:=A.left-1,gone:=decide (A.left-1=0) } else A
def z22 (n:ByteArray) (g:FileA->FileA) (f:FileA):FileA:=if f.name=n then g f else f
def z34 (x:FileA):List FileA->List FileA
 | []=>[x]
 | f::r=>if ltS x.name f.name then x::f::r else f::z34 x r
def z16 (n:ByteArray) (fs:List FileA):List FileA:=fs.filter λf=>!decide (f.name=n)
def zu (A:DiskA) (n:ByteArray) (bs:List UInt8):Int × DiskA :=
 if A.gone then (9,A) else if z30 n=false then (2,A) else if bs.length>A.free\/(z2j A.fs n=false/\A.fs.length>=128) then (5,A) else
  (0,z2q { A with fs:=if z2j A.fs n then A.fs.map (z22 n λf=>{ f with b:=f.b++bs }) else z34 ⟨n,bs,0⟩ A.fs })
def zbi (ns:List ByteArray) (n:ByteArray):Bool:=ns.isEmpty || ns.any λm=>decide (m=n)
def z4g (ns:List ByteArray) (f:FileA):FileA:=if zbi ns f.name then { f with kept:=f.b.length } else f
def z10 (A:DiskA) (ns:List ByteArray):Int × DiskA :=
 if A.gone then (9,A) else if ns.all (z2j A.fs)=false then (3,A) else (0,z2q { A with fs:=A.fs.map (z4g ns) })
def zkw (fs:List FileA) (n:ByteArray):Nat:=match fs.find? λf=>decide (f.name=n) with
 | some f=>f.b.length
 | none=>0
def cutA' (A:DiskA) (n:ByteArray) (k:Int):Int × DiskA :=
 if A.gone then (9,A) else if z2j A.fs n=false then (3,A) else if k<0\/k>zkw A.fs n then (2,A) else
  (0,z2q { A with fs:=A.fs.map (z22 n λf=>{ f with b:=f.b.take k.toNat,kept:=min f.kept k.toNat }) })
def z3b (A:DiskA) (a b:ByteArray):Int × DiskA :=
 if A.gone then (9,A) else match A.fs.find? λf=>decide (f.name=a) with
  | none=>(3,A)
  | some f=>if z30 b=false then (2,A) else (0,z2q (if a=b then A else { A with fs:=z34 { f with name:=b } (z16 b (z16 a A.fs)) }))
def z0p (A:DiskA) (n:ByteArray):Int × DiskA :=
 if A.gone then (9,A) else if z2j A.fs n=false then (3,A) else (0,z2q { A with fs:=z16 n A.fs })
structure okA (A:DiskA):Prop where
 room:A.room<=4194304
 used:used A.fs<=4194304
 many:A.fs.length<=128
 left : -1<=A.left/\A.left<=9223372036854775807
 sorted:A.fs.Pairwise λa b=>ltS a.name b.name=true
 kept:∀ f ∈ A.fs,f.kept<=f.b.length
 names:∀ f ∈ A.fs,f.name.size<=24
theorem z13 (f:FileA) (fs:List FileA):used (f::fs)=f.b.length+used fs:=by simp [used]
theorem z1x {a b:List FileA} (h:a.Perm b):used a=used b:=(h.map _).sum_nat
theorem z7h:∀ {fs:List FileA} {f:FileA},f ∈ fs->f.b.length<=used fs
 | g::r,f,h=>by
  rw [z13]
  rcases List.mem_cons.1 h with rfl|h
  ·omega
  ·have:=z7h h;omega
theorem z23 {fs:List FileA} (h:fs.Pairwise λa b=>ltS a.name b.name=true):(fs.map (·.name)).Nodup:=by
 rw [List.Nodup,List.pairwise_map]
 exact h.imp λ{a b} hab e=>by rw [e,z8g] at hab;cases hab
theorem z63 {fs:List FileA} {n:ByteArray}:z2j fs n=true↔∃ f ∈ fs,f.name=n:=by simp [z2j]
theorem z65 {fs:List FileA} {n:ByteArray}:z2j fs n=false↔∀ f ∈ fs,f.name≠n:=by simp [z2j]
instance:ByE P T.a28 T.a39:=⟨by kernel_rfl,by kernel_rfl,by kernel_rfl⟩
instance:StT P T.a33:=⟨by kernel_rfl⟩
instance:KeyT P T.a33 ekS:=zun (by kernel_rfl)
instance:MapT P T.a12 T.a33 (.pointer none):=⟨T.a14,by kernel_rfl,by kernel_rfl⟩
abbrev evF (b:Nat):Value:=.pointer (some ⟨b,0,none⟩)
structure FileM where
 at_:Nat
 x:Sl
 f:FileA
def z44 (t:FileM):HP:=HP.star (pt t.at_ (.cells #[t.x.v,.int .i64 t.f.kept] T.a6)) (slc T.a39 1 t.x (t.f.b.flatMap zh))
def dk (d:Nat) (A:DiskA):HP:=HP.ex λm:Nat=>HP.ex λFS:List FileM=>HP.and ((FS.map (·.f)).Perm A.fs/\okA A)
 (HP.star (pt d (.cells #[.int .i64 A.left,.bool A.gone,.int .i64 A.room,.int .i64 (used A.fs),.map (some m)] T.a5))
  (HP.star (z3q ekS evF m (FS.map λt=>(t.f.name,t.at_))) (HP.all (FS.map z44))))
section
variable {w:World} {l r:List HP}
theorem Sat.all_nil (hs:Sat w l):Sat w (HP.all []::l) :=
 ⟨⟨λ_=>none,World.env' w⟩,World.ph w,⟨(λ_ _ h=>by cases h),rfl⟩,PH.sub_refl _,(λ_=>Or.inl rfl),trivial,hs⟩
theorem Sat.all_cons {a:HP} {L:List HP} (hs:Sat w (HP.all (a::L)::l)):Sat w (a::HP.all L::l):=by
 refine Sat.star (A:=a) (B:=HP.all L) (hs.imp λp h=>?_)
 obtain ⟨p1,p2,h1,h2,hd,hA,hl⟩:=h
 exact ⟨p1,p2,h1,h2,hd,hA,hl⟩
theorem Sat.all_put {a:HP} {L:List HP} (hs:Sat w (a::HP.all L::l)):Sat w (HP.all (a::L)::l):=by
 refine (Sat.star_mk (A:=a) (B:=HP.all L) hs).imp λp h=>?_
 obtain ⟨p1,p2,h1,h2,hd,hA,hl⟩:=h
 exact ⟨p1,p2,h1,h2,hd,hA,hl⟩
theorem Sat.all_perm {L L':List HP} (hp:L.Perm L') (hs:Sat w (HP.all L::l)):Sat w (HP.all L'::l):=hs.imp λp h=>z9f hp h
theorem z2m {d:Nat} {A:DiskA} (hs:Sat w (dk d A::l)):∃ (m:Nat) (FS:List FileM),(FS.map FileM.f).Perm A.fs/\okA A /\
  Sat w (pt d (.cells #[.int .i64 A.left,.bool A.gone,.int .i64 A.room,.int .i64 (used A.fs),.map (some m)] T.a5)::z3q ekS evF m (FS.map λt=>(t.f.name,t.at_))::HP.all (FS.map z44)::l):=by
 obtain ⟨m,hs⟩:=hs.ex
 obtain ⟨FS,hs⟩:=hs.ex
 obtain ⟨⟨h1,h2⟩,hs⟩:=hs.and
 have hs:=hs.star
 have hs:=(hs.pick [1]).star
 exact ⟨m,FS,h1,h2,hs.pick [2,0,0]⟩
theorem zn9 {d:Nat} {A:DiskA} {m:Nat} {FS:List FileM} (hp:(FS.map FileM.f).Perm A.fs) (hok:okA A)
  (hs:Sat w (pt d (.cells #[.int .i64 A.left,.bool A.gone,.int .i64 A.room,.int .i64 (used A.fs:Nat),.map (some m)] T.a5)::z3q ekS evF m (FS.map λt=>(t.f.name,t.at_))::HP.all (FS.map z44)::l)):Sat w (dk d A::l):=by
 refine .ex_mk m (.ex_mk FS (.and_mk ⟨hp,hok⟩ (.star_mk ?_)))
 refine (Sat.star_mk (hs.pick [1,1])).pick [1]
theorem z2v {d:Nat} {A:DiskA} (m:Nat) {FS:List FileM} {r1 r2 r3 l':List HP} {u:Int} (hp:(FS.map FileM.f).Perm A.fs) (hok:okA A) (hs:Sat w l)
  [h1:FocB l d (.cells [.int .i64 A.left,.bool A.gone,.int .i64 A.room,.int .i64 u,.map (some m)].toArray T.a5) r1] [h2:FoM r1 m ekS evF (FS.map λt=>(t.f.name,t.at_)) r2] [h3:Foc r2 (HP.all (FS.map z44)) r3] [h4:Sub r3 l']
  (hu:u=(used A.fs:Nat):=by rfl):Sat w (dk d A::l'):=by
 subst hu
 have h5:Sat w (dk d A::r3):=zn9 hp hok (hs.perm (h1.perm.trans (.cons _ (h2.perm.trans (.cons _ h3.perm)))))
 exact h5.sub
theorem z73 {FS:List FileM} {t:FileM} (hs:Sat w l) [h:Foc l (HP.all (FS.map z44)) r] (ht:t ∈ FS):∃ FS',FS.Perm (t::FS') /\
  Sat w (pt t.at_ (.cells #[t.x.v,.int .i64 t.f.kept] T.a6)::slc T.a39 1 t.x (t.f.b.flatMap zh)::HP.all (FS'.map z44)::r):=by
 obtain ⟨s,u,rfl⟩:=List.append_of_mem ht
 have hp:(s++t::u).Perm (t::(s++u)):=List.perm_middle
 exact ⟨s++u,hp,(((hs.perm h.perm).all_perm (hp.map z44)).all_cons).star⟩
theorem z6f {FS:List FileM} (t:FileM) {r1 r2 r3:List HP} (hs:Sat w l) [h1:FocB l t.at_ (.cells [.slice t.x.a t.x.len t.x.cap,.int .i64 t.f.kept].toArray T.a6) r1] [h2:FocS r1 t.x T.a39 1 (t.f.b.flatMap zh) r2] [h3:Foc r2 (HP.all (FS.map z44)) r3] :
  Sat w (HP.all ((t::FS).map z44)::r3) :=
 Sat.all_put (Sat.star_mk (A:=pt t.at_ (.cells #[t.x.v,.int .i64 t.f.kept] T.a6)) (B:=slc T.a39 1 t.x (t.f.b.flatMap zh)) (hs.perm (h1.perm.trans (.cons _ (h2.perm.trans (.cons _ h3.perm))))))
end
section
variable {w:World} {l r:List HP} {d:Nat} {A:DiskA}
theorem zsy (n:Nat) (hn:n<=4194304) (hs:Sat w l):Ret P F.a15 #[.int .i64 n] w λvs w'=>∃ d,vs=[.pointer (some ⟨d,0,none⟩),.int .i64 0]/\Sat w' (dk d ⟨n,-1,false,[]⟩::l) :=
 zqh n <| by
  unfold z03m
  refine z0g ?_
  refine zw1 ekS evF hs λm w' hs=>?_
  refine z02 hs λd w' hs=>?_
  refine ⟨rfl,d,rfl,?_⟩
  exact zn9 (FS:=[]) (.refl _) ⟨hn,by simp [used],by simp,by simp,by simp,by simp,by simp⟩ ((hs.all_nil).pick [1,1,0])
theorem znp (c:UInt8):((!(decide ((c.toNat:Int)>=97) && decide ((c.toNat:Int)<=122)) && !(decide ((c.toNat:Int)>=48) && decide ((c.toNat:Int)<=57)) && (c.toNat:Int) != 46 && (c.toNat:Int) != 45)=true↔okC c=false):=by
 simp [okC];omega
theorem ztc (s:ByteArray) (hs:Sat w l):Ret P F.a14 #[.string s] w λvs w'=>vs=[.bool (z30 s)]/\Sat w' l :=
 zos s <| by
  unfold z03a
  refine zf (λh=>?_) λh=>?_
  ·refine ⟨rfl,?_,hs⟩
   have:z30 s=false:=by simp [z30];omega
   rw [this]
  refine zjg hs λx w' hs=>?_
  have hl:=hs.slen x
  have hsz:s.data.toList.length=s.size:=by simp
  refine zn (λ_ w'=>s.data.toList.all okC=true/\Sat w' l) ?_ ?_
  ·refine z06 (λn v w=>∃ i:Nat,v=((i:Int),())/\i<=s.data.toList.length/\s.data.toList.length-i=n/\(s.data.toList.take i).all okC=true/\Sat w (slc T.a39 1 x (s.data.toList.flatMap zh)::l)) s.data.toList.length ⟨0,rfl,by omega,rfl,rfl,hs⟩ ?_
   clear hs
   rintro n _ w ⟨i,rfl,hi,hn,hall,hs⟩
   refine zl ?_
   refine zf (λhc=>?_) λhc=>?_
   ·have hil:i<s.data.toList.length:=by omega
    refine z1z hs i hil ?_
    refine wp_lt (wp_lt (wp_lt ?_))
    have htk:(s.data.toList.take (i+1)).all okC=okC s.data.toList[i]:=by
     rw [List.take_add_one,List.getElem?_eq_getElem hil,List.all_append,hall];simp
    refine zfj (λh3=>?_) λh3=>?_
    ·have h3:=(znp _).1 h3
     refine zk (zk ?_)
     refine ⟨rfl,?_,hs.tail⟩
     have:z30 s=false:=by
      have:s.data.toList.all okC=false:=by
       rw [<- List.take_append_drop (i+1) s.data.toList,List.all_append,htk,h3];rfl
      simp only [z30,this,Bool.false_and]
     rw [this]
    ·have h3:okC s.data.toList[i]=true:=by
      cases hk:okC s.data.toList[i] with
      | true=>rfl
      | false=>have:=(znp _).2 hk;rw [this] at h3;cases h3
     refine z4x (us':=[.int .i64 ((i+1:Nat):Int)]) (by (try simp (disch:=omega) only [w64]);first|rfl|(congr;omega)) ?_
     refine z0l (s.data.toList.length-(i+1)) ?_
     exact ⟨i+1,rfl,by omega,rfl,by rw [htk,h3],hs⟩
   ·refine zk (zg ⟨?_,hs.tail⟩)
    rwa [List.take_of_length_le (by omega)] at hall
  ·rintro _ w' ⟨hall,hs⟩
   refine zl ?_
   refine ⟨rfl,?_,hs⟩
   have:z30 s=true:=by simp only [z30,hall,Bool.true_and,Bool.and_eq_true,decide_eq_true_eq];omega
   rw [this]
theorem z03t [hf:Fo l dk d A r] (hs:Sat w l):Ret P F.a13 #[.pointer (some ⟨d,0,none⟩)] w λvs w'=>vs=[.int .i64 (if A.gone then 9 else 0)]/\Sat w' (dk d A::r) :=
 zov _ <| by
  unfold z00i
  obtain ⟨m,FS,hp,hok,hs⟩:=z2m (hs.perm hf.perm)
  refine wp_lt (z0g ?_ (by simp))
  (repeat (first|with_reducible (first|refine zl ?_|refine zm ?_|refine z0h ?_|refine za hs ?_|refine zr hs ?_|refine zj ?_|refine z0a hs λ_ hs=>?_|refine zv hs λ_ _ hs=>?_|refine z02 hs λ_ _ hs=>?_|refine z0d hs λ_ hs=>?_|refine zx hs λ_ hs=>?_)|(apply wp_must;(focus first|trivial|omega|assumption))|refine z1i ?_|refine wp_lt ?_))
  refine zf (λh=>?_) λh=>?_
  ·exact ⟨rfl,by rw [if_pos h],z2v m hp hok hs⟩
  ·exact ⟨rfl,by rw [if_neg h],z2v m hp hok hs⟩
theorem z007 {m:Nat} {n room u:Int} (hn:n<=9223372036854775807 /\ -1<=n) [hf:FocB l d (.cells #[.int .i64 n,.bool false,.int .i64 room,.int .i64 u,.map (some m)] T.a5) r] (hs:Sat w l) :
  Ret P F.a16 #[.pointer (some (Addr.add ⟨d,0,none⟩ 0))] w λvs w'=>vs=[] /\
   Sat w' (pt d (.cells #[.int .i64 (if n>0 then n-1 else n),.bool (if n>0 then decide (n-1=0) else false),.int .i64 room,.int .i64 u,.map (some m)] T.a5)::r) :=
 zqd _ <| by
  unfold z00t
  have hs:=hs.focB d
  (repeat (first|with_reducible (first|refine zl ?_|refine zm ?_|refine z0h ?_|refine za hs ?_|refine zr hs ?_|refine zj ?_|refine z0a hs λ_ hs=>?_|refine zv hs λ_ _ hs=>?_|refine z02 hs λ_ _ hs=>?_|refine z0d hs λ_ hs=>?_|refine zx hs λ_ hs=>?_)|(apply wp_must;(focus first|trivial|omega|assumption))|refine z1i ?_|refine wp_lt ?_))
  refine zn (λ_ w'=>Sat w' (pt d (.cells #[.int .i64 (if n>0 then n-1 else n),.bool (if n>0 then decide (n-1=0) else false),.int .i64 room,.int .i64 u,.map (some m)] T.a5)::r)) ?_ ?_
  ·refine zf (λh=>?_) λh=>?_
   ·(repeat (first|with_reducible (first|refine zl ?_|refine zm ?_|refine z0h ?_|refine za hs ?_|refine zr hs ?_|refine zj ?_|refine z0a hs λ_ hs=>?_|refine zv hs λ_ _ hs=>?_|refine z02 hs λ_ _ hs=>?_|refine z0d hs λ_ hs=>?_|refine zx hs λ_ hs=>?_)|(apply wp_must;(focus first|trivial|omega|assumption))|refine z1i ?_|refine wp_lt ?_))
    refine zg ?_
    rw [if_pos h,if_pos h]
    rw [w64 (x:=n-1) (by omega) (by omega)] at hs
    exact hs
   ·refine zg ?_
    rw [if_neg h,if_neg h];exact hs
  ·rintro _ w' hs
   refine zl ?_
   exact ⟨rfl,rfl,hs⟩
theorem zuy (A:DiskA) (h:A.gone=false):z2q A=⟨A.room,if A.left>0 then A.left-1 else A.left,if A.left>0 then decide (A.left-1=0) else false,A.fs⟩:=by
 unfold z2q
 split
 ·rfl
 ·rw [<- h]
theorem z01i [hf:Fo l dk d A r] (hs:Sat w l):Ret P F.a5 #[.pointer (some ⟨d,0,none⟩)] w λvs w'=>vs=[.int .i64 (A.free:Nat)]/\Sat w' (dk d A::r) :=
 zsh _ <| by
  unfold zf6
  obtain ⟨m,FS,hp,hok,hs⟩:=z2m (hs.perm hf.perm)
  refine z0g ?_ (by simp)
  have h1:=hok.room
  have h2:=hok.used
  refine z0a hs λw' hs=>?_
  refine zm ?_
  refine za hs ?_
  refine zm ?_
  refine za hs ?_
  refine zix (y:=(A.free:Nat)) ?_ ?_
  ·have e:IntKind.wrap .i64 ((A.room:Int)-(used A.fs:Nat))=(A.room:Int)-(used A.fs:Nat):=zuf
   rw [e]
   unfold DiskA.free
   split <;> omega
  exact zj ⟨rfl,rfl,z2v m hp hok hs⟩
theorem z02n [hf:Fo l dk d A r] (hs:Sat w l):Ret P F.a6 #[.pointer (some ⟨d,0,none⟩)] w λvs w'=>vs=[.bool A.gone]/\Sat w' (dk d A::r) :=
 zst _ <| by
  unfold zf7
  obtain ⟨m,FS,hp,hok,hs⟩:=z2m (hs.perm hf.perm)
  (repeat (first|with_reducible (first|refine zl ?_|refine zm ?_|refine z0h ?_|refine za hs ?_|refine zr hs ?_|refine zj ?_|refine z0a hs λ_ hs=>?_|refine zv hs λ_ _ hs=>?_|refine z02 hs λ_ _ hs=>?_|refine z0d hs λ_ hs=>?_|refine zx hs λ_ hs=>?_)|(apply wp_must;(focus first|trivial|omega|assumption))|refine z1i ?_|refine wp_lt ?_))
  exact ⟨rfl,by simp,z2v m hp hok hs⟩
end
theorem zbs {fs:List FileA} {n:ByteArray} (hs:(fs.map (·.name)).Nodup) {f:FileA} (hf:f ∈ fs) (hn:f.name=n):fs.find? (λf=>decide (f.name=n))=some f:=by
 subst hn
 induction fs with
 | nil=>cases hf
 | cons g r ih =>
  rw [List.map_cons,List.nodup_cons] at hs
  rcases List.mem_cons.1 hf with rfl|hf
  ·rw [List.find?_cons_of_pos (by simp)]
  ·rw [List.find?_cons_of_neg (by simp;exact λe=>hs.1 (List.mem_map.2 ⟨f,hf,e.symm⟩))]
   exact ih hs.2 hf
theorem zti {fs:List FileA} {n:ByteArray} (h:∀ f ∈ fs,f.name≠n):fs.find? (λf=>decide (f.name=n))=none:=List.find?_eq_none.2 λf hf=>by simpa using h f hf
theorem zz4 {fs:List FileA} {n:ByteArray} (hs:(fs.map (·.name)).Nodup) {f:FileA} (hf:f ∈ fs) (hn:f.name=n):zkw fs n=f.b.length:=by rw [zkw,zbs hs hf hn]
section
variable {w:World} {l r:List HP} {d:Nat} {A:DiskA}
theorem z9e {FS:List FileM} (hp:(FS.map FileM.f).Perm A.fs) {n:ByteArray} {b:Nat} (h:(n,b) ∈ FS.map λt=>(t.f.name,t.at_)):∃ t ∈ FS,t.at_=b/\t.f.name=n/\t.f ∈ A.fs:=by
 obtain ⟨t,ht,he⟩:=List.mem_map.1 h
 simp only [Prod.mk.injEq] at he
 exact ⟨t,ht,he.2,he.1,hp.mem_iff.1 (List.mem_map.2 ⟨t,ht,rfl⟩)⟩
theorem z83 {FS:List FileM} (hp:(FS.map FileM.f).Perm A.fs) {n:ByteArray} (h:∀ b,(n,b) ∉ FS.map λt=>(t.f.name,t.at_)):∀ f ∈ A.fs,f.name≠n:=λf hf e=>by
 obtain ⟨t,ht,rfl⟩:=List.mem_map.1 (hp.mem_iff.2 hf)
 exact h t.at_ (List.mem_map.2 ⟨t,ht,by rw [e]⟩)
theorem apart {FS FS':List FileM} {t:FileM} (hp:(FS.map FileM.f).Perm A.fs) (hok:okA A) (h:FS.Perm (t::FS')) :
  A.fs.Perm (t.f::FS'.map FileM.f)/\(∀ f ∈ FS'.map FileM.f,f.name≠t.f.name)/\t.f ∈ A.fs:=by
 have h1:A.fs.Perm (t.f::FS'.map FileM.f):=hp.symm.trans (h.map FileM.f)
 have h2:((t.f::FS'.map FileM.f).map (·.name)).Nodup:=(h1.map _).nodup_iff.1 (z23 hok.sorted)
 rw [List.map_cons,List.nodup_cons] at h2
 exact ⟨h1,λf hf e=>h2.1 (List.mem_map.2 ⟨f,hf,e⟩),h1.mem_iff.2 (List.mem_cons_self ..)⟩
theorem zyw (x:Sl) (bs:List UInt8) (hb:bs.length<=100000000) [hf:FocR l x 1 (bs.flatMap zh)] (hs:Sat w l):Ret P F.a0 #[x.v] w λvs w'=>∃ z:Sl,vs=[z.v]/\Sat w' (slc T.a39 1 z (bs.flatMap zh)::l) :=
 zi0 x <| by
  unfold zf0
  refine zf (λh=>?_) λh=>?_
  ·have:bs=[]:=by
    obtain ⟨hlen,h0|⟨b,off,arr,T',fr,ha,-⟩⟩:=hf.rd w hs
    ·rw [z4d,h0] at hlen;exact List.length_eq_zero_iff.1 (by omega)
    ·rw [h] at ha;cases ha
   subst this
   exact ⟨rfl,⟨none,0,0⟩,rfl,hs.slc_nil⟩
  ·refine z8r hs ([]:List UInt8) (enc:=zh) bs0 λb w' hs=>?_
   refine wp_app' hs (xs:=([]:List UInt8)) (ys:=bs) (enc:=zh) (λz w' hs=>?_) (by simp;omega)
   exact ⟨rfl,z,rfl,hs⟩
theorem zkp (n:ByteArray) [hf:Fo l dk d A r] (hs:Sat w l):Ret P F.a8 #[.pointer (some ⟨d,0,none⟩),.string n] w λvs w' =>
  (∃ f ∈ A.fs,f.name=n/\∃ z:Sl,vs=[z.v,.int .i64 0]/\Sat w' (slc T.a39 1 z (f.b.flatMap zh)::dk d A::r))\/((∀ f ∈ A.fs,f.name≠n)/\vs=[.slice none 0 0,.int .i64 3]/\Sat w' (dk d A::r)) :=
 zt6 _ n <| by
  unfold zf8
  obtain ⟨m,FS,hp,hok,hs⟩:=z2m (hs.perm hf.perm)
  refine z0g ?_ (by simp)
  (repeat (first|with_reducible (first|refine zl ?_|refine zm ?_|refine z0h ?_|refine za hs ?_|refine zr hs ?_|refine zj ?_|refine z0a hs λ_ hs=>?_|refine zv hs λ_ _ hs=>?_|refine z02 hs λ_ _ hs=>?_|refine z0d hs λ_ hs=>?_|refine zx hs λ_ hs=>?_)|(apply wp_must;(focus first|trivial|omega|assumption))|refine z1i ?_|refine wp_lt ?_))
  refine z7k hs (λb hb=>?_) λhb=>?_
  ·obtain ⟨t,ht,rfl,rfl,hA⟩:=z9e hp hb
   obtain ⟨FS',hpm,hs⟩:=z73 hs ht
   refine z0g ?_ (by simp)
   (repeat (first|with_reducible (first|refine zl ?_|refine zm ?_|refine z0h ?_|refine za hs ?_|refine zr hs ?_|refine zj ?_|refine z0a hs λ_ hs=>?_|refine zv hs λ_ _ hs=>?_|refine z02 hs λ_ _ hs=>?_|refine z0d hs λ_ hs=>?_|refine zx hs λ_ hs=>?_)|(apply wp_must;(focus first|trivial|omega|assumption))|refine z1i ?_|refine wp_lt ?_))
   have hlen:t.f.b.length<=4194304:=Nat.le_trans (z7h hA) hok.used
   refine zb (zyw t.x t.f.b (by omega) hs) λ_ _ hs=>?_
   obtain ⟨z,rfl,hs⟩:=hs
   refine zd ?_
   (repeat (first|with_reducible (first|refine zl ?_|refine zm ?_|refine z0h ?_|refine za hs ?_|refine zr hs ?_|refine zj ?_|refine z0a hs λ_ hs=>?_|refine zv hs λ_ _ hs=>?_|refine z02 hs λ_ _ hs=>?_|refine z0d hs λ_ hs=>?_|refine zx hs λ_ hs=>?_)|(apply wp_must;(focus first|trivial|omega|assumption))|refine z1i ?_|refine wp_lt ?_))
   refine ⟨rfl,.inl ⟨t.f,hA,rfl,z,rfl,?_⟩⟩
   have hs:=(z6f t hs).all_perm (hpm.symm.map z44)
   have hs:=z2v (d:=d) (A:=A) (l':=slc T.a39 1 z (t.f.b.flatMap zh)::r) m hp hok hs
   exact hs.sub
  ·refine z1b ?_ (by rfl)
   exact ⟨rfl,.inr ⟨z83 hp hb,rfl,z2v m hp hok hs⟩⟩
end
theorem z8h {fs fs':List FileA} {f:FileA} (hp:fs.Perm (f::fs')) (hne:∀ g ∈ fs',g.name≠f.name):(z16 f.name fs).Perm fs':=by
 have h1:=hp.filter λg=>!decide (g.name=f.name)
 rw [List.filter_cons_of_neg (by simp)] at h1
 have h2:fs'.filter (λg=>!decide (g.name=f.name))=fs':=List.filter_eq_self.2 λg hg=>by simpa using hne g hg
 rw [h2] at h1
 exact h1
theorem zp0 {fs:List FileA} {n:ByteArray} (h:∀ f ∈ fs,f.name≠n):z16 n fs=fs:=List.filter_eq_self.2 λg hg=>by simpa using h g hg
theorem z6r {fs fs':List FileA} {f:FileA} {g:FileA->FileA} (hp:fs.Perm (f::fs')) (hne:∀ g ∈ fs',g.name≠f.name):(fs.map (z22 f.name g)).Perm (g f::fs'):=by
 have h1:=hp.map (z22 f.name g)
 rw [List.map_cons] at h1
 have h2:fs'.map (z22 f.name g)=fs':=by
  conv=>rhs;rw [<- List.map_id fs']
  exact List.map_congr_left λx hx=>by rw [z22,if_neg (hne x hx)];rfl
 rw [h2,z22,if_pos rfl] at h1
 exact h1
theorem z62 {n:ByteArray} {g:FileA->FileA} (hg:∀ f,(g f).name=f.name) (f:FileA):(z22 n g f).name=f.name:=by
 unfold z22;split
 ·exact hg f
 ·rfl
theorem z8e {fs:List FileA} {g:FileA->FileA} (hg:∀ f,(g f).name=f.name) (h:fs.Pairwise λa b=>ltS a.name b.name=true):(fs.map g).Pairwise λa b=>ltS a.name b.name=true:=by
 rw [List.pairwise_map]
 exact h.imp λ{a b} hab=>by rw [hg,hg];exact hab
theorem zju {fs:List FileA} (n:ByteArray) (h:fs.Pairwise λa b=>ltS a.name b.name=true):(z16 n fs).Pairwise λa b=>ltS a.name b.name=true:=h.filter _
theorem z9k {fs:List FileA} {n:ByteArray} {f:FileA}:f ∈ z16 n fs↔f ∈ fs/\f.name≠n:=by simp [z16,List.mem_filter]
theorem z3f (x:FileA):∀ fs:List FileA,(z34 x fs).Perm (x::fs)
 | []=>.refl _
 | f::r=>by
  rw [z34];split
  ·exact .refl _
  ·exact (List.Perm.cons f (z3f x r)).trans (.swap _ _ _)
theorem z97 {x f:FileA} {fs:List FileA}:f ∈ z34 x fs↔f=x\/f ∈ fs:=by rw [(z3f x fs).mem_iff,List.mem_cons]
theorem z9t (x:FileA):∀ {fs:List FileA},(∀ f ∈ fs,f.name≠x.name)->(fs.Pairwise λa b=>ltS a.name b.name=true)->(z34 x fs).Pairwise λa b=>ltS a.name b.name=true
 | [],_,_=>by simp [z34]
 | f::r,hne,h=>by
  rw [List.pairwise_cons] at h
  rw [z34];split
  ·rename_i hlt
   rw [List.pairwise_cons]
   refine ⟨λg hg=>?_,by rw [List.pairwise_cons];exact h⟩
   rcases List.mem_cons.1 hg with rfl|hg
   ·exact hlt
   ·exact zia hlt (h.1 g hg)
  ·rename_i hlt
   rw [List.pairwise_cons]
   refine ⟨λg hg=>?_,z9t x (λg hg=>hne g (List.mem_cons_of_mem _ hg)) h.2⟩
   rcases z97.1 hg with rfl|hg
   ·rcases ztn f.name g.name with h1|h1|h1
    ·exact h1
    ·exact absurd h1 (hne f (List.mem_cons_self ..))
    ·exact absurd h1 hlt
   ·exact h.1 g hg
theorem z7n {A:DiskA} (h:okA A):okA (z2q A):=by
 unfold z2q
 split
 ·exact ⟨h.room,h.used,h.many,by have:=h.left;show -1<=A.left-1/\A.left-1<=_;omega,h.sorted,h.kept,h.names⟩
 ·exact h
theorem z33 (A:DiskA):(z2q A).fs=A.fs:=by unfold z2q;split <;> rfl
theorem z7g (A:DiskA):(z2q A).room=A.room:=by unfold z2q;split <;> rfl
section
variable {w:World} {l r:List HP} {d:Nat} {A:DiskA}
theorem z7q {m:Nat} {FS:List FileM} {fs':List FileA} {room left u:Int} {r1 r2 r3 l':List HP} (hg:A.gone=false) (hok':okA { A with fs:=fs' }) (hp:(FS.map FileM.f).Perm fs') (hs:Sat w l)
  [h1:FocB l d (.cells [.int .i64 left,.bool false,.int .i64 room,.int .i64 u,.map (some m)].toArray T.a5) r1] [h2:FoM r1 m ekS evF (FS.map λt=>(t.f.name,t.at_)) r2] [h3:Foc r2 (HP.all (FS.map z44)) r3] [h4:Sub r3 l']
  (hu:u=(used fs':Nat):=by rfl) (hl:left=A.left:=by rfl) (hr:room=A.room:=by rfl) :
  Ret P F.a16 #[.pointer (some (Addr.add ⟨d,0,none⟩ 0))] w λvs w'=>vs=[]/\Sat w' (dk d (z2q { A with fs:=fs' })::l'):=by
 subst hu hl hr
 have hl:=hok'.left
 refine Calls.mono (z007 (d:=d) (m:=m) ⟨hl.2,hl.1⟩ hs) λe w' ⟨vs,he,hv,hs⟩=>⟨vs,he,hv,?_⟩
 have hd:=zuy { A with fs:=fs' } hg
 rw [hd]
 have hok2:=z7n hok'
 rw [hd] at hok2
 exact z2v m (A:=⟨A.room,if A.left>0 then A.left-1 else A.left,if A.left>0 then decide (A.left-1=0) else false,fs'⟩) hp hok2 hs
theorem zs3 (n:ByteArray) (m:Nat) {FS:List FileM} (hp:(FS.map FileM.f).Perm A.fs) (hok:okA A)
  (hs:Sat w (pt d (.cells #[.int .i64 A.left,.bool A.gone,.int .i64 A.room,.int .i64 (used A.fs),.map (some m)] T.a5)::z3q ekS evF m (FS.map λt=>(t.f.name,t.at_))::HP.all (FS.map z44)::r)) :
  Ret P F.a12 #[.pointer (some ⟨d,0,none⟩),.string n] w λvs w'=>vs=[]/\∃ FS':List FileM,(FS'.map FileM.f).Perm (z16 n A.fs)/\(∀ t ∈ FS',t ∈ FS/\t.f.name≠n)/\(∀ t ∈ FS,t.f.name≠n->t ∈ FS') /\
   Sat w' (pt d (.cells #[.int .i64 A.left,.bool A.gone,.int .i64 A.room,.int .i64 (used (z16 n A.fs)),.map (some m)] T.a5)::z3q ekS evF m (FS'.map λt=>(t.f.name,t.at_))::HP.all (FS'.map z44)::r) :=
 zp9 _ n <| by
  unfold z01l
  (repeat (first|with_reducible (first|refine zl ?_|refine zm ?_|refine z0h ?_|refine za hs ?_|refine zr hs ?_|refine zj ?_|refine z0a hs λ_ hs=>?_|refine zv hs λ_ _ hs=>?_|refine z02 hs λ_ _ hs=>?_|refine z0d hs λ_ hs=>?_|refine zx hs λ_ hs=>?_)|(apply wp_must;(focus first|trivial|omega|assumption))|refine z1i ?_|refine wp_lt ?_))
  refine z7k hs (λb hb=>?_) λhb=>?_
  ·obtain ⟨t,ht,rfl,rfl,hA⟩:=z9e hp hb
   obtain ⟨FS',hpm,hs⟩:=z73 hs ht
   obtain ⟨h1,h2,-⟩:=apart hp hok hpm
   have hd:=z8h h1 h2
   have hu:used A.fs=t.f.b.length+used (z16 t.f.name A.fs):=by rw [z1x h1,z13,z1x hd]
   have h3:=hok.used
   refine z4l ?_
   refine z1b ?_ (by simp)
   refine z0a hs λw' hs=>?_
   refine zm ?_
   refine za hs ?_
   refine zm ?_
   refine za hs ?_
   rw [hs.slen t.x (xs:=t.f.b) (enc:=zh),zuf (y:=(used (z16 t.f.name A.fs):Nat))]
   (repeat (first|with_reducible (first|refine zl ?_|refine zm ?_|refine z0h ?_|refine za hs ?_|refine zr hs ?_|refine zj ?_|refine z0a hs λ_ hs=>?_|refine zv hs λ_ _ hs=>?_|refine z02 hs λ_ _ hs=>?_|refine z0d hs λ_ hs=>?_|refine zx hs λ_ hs=>?_)|(apply wp_must;(focus first|trivial|omega|assumption))|refine z1i ?_|refine wp_lt ?_))
   refine znv hs (FS'.map λt=>(t.f.name,t.at_)) (.inl ⟨t.at_,hpm.map _⟩) λw' hs=>?_
   refine z3t ?_
   refine ⟨rfl,rfl,FS',hd.symm,λt' ht'=>⟨hpm.mem_iff.2 (List.mem_cons_of_mem _ ht'),h2 _ (List.mem_map.2 ⟨t',ht',rfl⟩)⟩,λt' ht' hne=>?_,hs.sub⟩
   rcases List.mem_cons.1 (hpm.mem_iff.1 ht') with rfl|h
   ·exact absurd rfl hne
   ·exact h
  ·have hn:=z83 hp hb
   refine z4l ?_
   refine z0g ?_ (by simp)
   refine z3t ?_
   rw [zp0 hn]
   exact ⟨rfl,rfl,FS,hp,λt ht=>⟨ht,hn _ (hp.mem_iff.1 (List.mem_map.2 ⟨t,ht,rfl⟩))⟩,λt ht _=>ht,hs⟩
theorem zak {A:DiskA} (h:okA A) (n:ByteArray):okA { A with fs:=z16 n A.fs }:=by
 have hle:used (z16 n A.fs)<=used A.fs:=by
  have:∀ fs:List FileA,used (z16 n fs)<=used fs:=λfs=>by
   induction fs with
   | nil=>exact Nat.le_refl _
   | cons f r ih =>
    unfold z16 at *
    rw [z13,List.filter_cons]
    split
    ·rw [z13];omega
    ·omega
  exact this _
 exact ⟨h.room,Nat.le_trans hle h.used,Nat.le_trans (List.length_filter_le _ _) h.many,h.left,zju n h.sorted,λf hf=>h.kept f (z9k.1 hf).1,λf hf=>h.names f (z9k.1 hf).1⟩
theorem zck {k:Prog} {Q:List Value->World->Prop} (hs:Sat w l) [hf:Fo l dk d A r] (h1:A.gone=true->∀ w',Sat w' (dk d A::r)->Q [.int .i64 9] w') (h0:A.gone=false->∀ w',Sat w' (dk d A::r)->k.wp P tt w' λe vs w=>e=0/\Q vs w) :
  (Prog.call F.a13 [.pointer (some ⟨d,0,none⟩)] (sI .i64) (u1 λ(n0:Int)=>.lt (.int .i64) (n0) λ(n1:Int)=>.ite (n1 != 0) (.lt (.int .i64) (n1) λ(n2:Int)=>.done 0 [.int .i64 n2]) k)).wp P tt w λe vs w=>e=0/\Q vs w:=by
 refine zb (z03t hs) λ_ _ hs=>?_
 obtain ⟨rfl,hs⟩:=hs
 refine zd ?_
 refine wp_lt ?_
 by_cases hg:A.gone=true
 ·rw [if_pos hg]
  refine z1b ?_ (by decide)
  exact wp_lt ⟨rfl,h1 hg _ hs⟩
 ·rw [if_neg hg]
  refine z0g ?_ (by decide)
  exact h0 (by simpa using hg) _ hs
theorem z7p (n:ByteArray) [hf:Fo l dk d A r] (hs:Sat w l):Ret P F.a9 #[.pointer (some ⟨d,0,none⟩),.string n] w λvs w'=>vs=[.int .i64 (z0p A n).1]/\Sat w' (dk d (z0p A n).2::r) :=
 zsc _ n <| by
  unfold zf9 z0p
  refine zck hs (λhg w' hs=>?_) λhg w' hs=>?_
  ·rw [if_pos hg];exact ⟨rfl,hs⟩
  rw [if_neg (by rw [hg];simp)]
  obtain ⟨m,FS,hp,hok,hs⟩:=z2m hs
  (repeat (first|with_reducible (first|refine zl ?_|refine zm ?_|refine z0h ?_|refine za hs ?_|refine zr hs ?_|refine zj ?_|refine z0a hs λ_ hs=>?_|refine zv hs λ_ _ hs=>?_|refine z02 hs λ_ _ hs=>?_|refine z0d hs λ_ hs=>?_|refine zx hs λ_ hs=>?_)|(apply wp_must;(focus first|trivial|omega|assumption))|refine z1i ?_|refine wp_lt ?_))
  refine z7k hs (λb hb=>?_) λhb=>?_
  ·obtain ⟨t,ht,rfl,rfl,hA⟩:=z9e hp hb
   refine z0g ?_ (by simp)
   rw [if_neg (by rw [z63.2 ⟨_,hA,rfl⟩];simp)]
   refine zb (zs3 t.f.name m hp hok hs) λ_ _ hs=>?_
   obtain ⟨rfl,FS',hp',-,-,hs⟩:=hs
   refine zd ?_
   (repeat (first|with_reducible (first|refine zl ?_|refine zm ?_|refine z0h ?_|refine za hs ?_|refine zr hs ?_|refine zj ?_|refine z0a hs λ_ hs=>?_|refine zv hs λ_ _ hs=>?_|refine z02 hs λ_ _ hs=>?_|refine z0d hs λ_ hs=>?_|refine zx hs λ_ hs=>?_)|(apply wp_must;(focus first|trivial|omega|assumption))|refine z1i ?_|refine wp_lt ?_))
   rw [hg] at hs
   refine zb (z7q (l':=r) hg (zak hok t.f.name) hp' hs) λ_ _ hs=>?_
   obtain ⟨rfl,hs⟩:=hs
   refine zd ?_
   (repeat (first|with_reducible (first|refine zl ?_|refine zm ?_|refine z0h ?_|refine za hs ?_|refine zr hs ?_|refine zj ?_|refine z0a hs λ_ hs=>?_|refine zv hs λ_ _ hs=>?_|refine z02 hs λ_ _ hs=>?_|refine z0d hs λ_ hs=>?_|refine zx hs λ_ hs=>?_)|(apply wp_must;(focus first|trivial|omega|assumption))|refine z1i ?_|refine wp_lt ?_))
   exact ⟨rfl,rfl,hs⟩
  ·refine z1b ?_ (by rfl)
   rw [if_pos (z65.2 (z83 hp hb))]
   exact ⟨rfl,rfl,z2v m hp hok hs⟩
theorem zao {fs fs':List FileA} {f:FileA} {g:FileA->FileA} (hp:fs.Perm (f::fs')) (hne:∀ g ∈ fs',g.name≠f.name):used (fs.map (z22 f.name g))=(g f).b.length+used fs':=by
 rw [z1x (z6r hp hne),z13]
theorem z043 (n:ByteArray) (k:Int) [hf:Fo l dk d A r] (hs:Sat w l):Ret P F.a4 #[.pointer (some ⟨d,0,none⟩),.string n,.int .i64 k] w λvs w'=>vs=[.int .i64 (cutA' A n k).1]/\Sat w' (dk d (cutA' A n k).2::r) :=
 ztw _ n k <| by
  unfold zf5 cutA'
  refine zck hs (λhg w' hs=>?_) λhg w' hs=>?_
  ·rw [if_pos hg];exact ⟨rfl,hs⟩
  rw [if_neg (by rw [hg];simp)]
  obtain ⟨m,FS,hp,hok,hs⟩:=z2m hs
  (repeat (first|with_reducible (first|refine zl ?_|refine zm ?_|refine z0h ?_|refine za hs ?_|refine zr hs ?_|refine zj ?_|refine z0a hs λ_ hs=>?_|refine zv hs λ_ _ hs=>?_|refine z02 hs λ_ _ hs=>?_|refine z0d hs λ_ hs=>?_|refine zx hs λ_ hs=>?_)|(apply wp_must;(focus first|trivial|omega|assumption))|refine z1i ?_|refine wp_lt ?_))
  refine z7k hs (λb hb=>?_) λhb=>?_
  ·obtain ⟨t,ht,rfl,rfl,hA⟩:=z9e hp hb
   refine wp_lt ?_
   refine z0g ?_ (by simp)
   rw [if_neg (by rw [z63.2 ⟨_,hA,rfl⟩];simp),zz4 (z23 hok.sorted) hA rfl]
   obtain ⟨FS',hpm,hs⟩:=z73 hs ht
   obtain ⟨h1,h2,-⟩:=apart hp hok hpm
   have hlen:=hs.slen t.x (xs:=t.f.b) (enc:=zh)
   have hcap:=(hs.focS t.x).slc_cap
   (repeat (first|with_reducible (first|refine zl ?_|refine zm ?_|refine z0h ?_|refine za hs ?_|refine zr hs ?_|refine zj ?_|refine z0a hs λ_ hs=>?_|refine zv hs λ_ _ hs=>?_|refine z02 hs λ_ _ hs=>?_|refine z0d hs λ_ hs=>?_|refine zx hs λ_ hs=>?_)|(apply wp_must;(focus first|trivial|omega|assumption))|refine z1i ?_|refine wp_lt ?_))
   refine zf (λh=>?_) λh=>?_
   ·rw [if_pos (by omega)]
    have hs:=(z6f t hs).all_perm (hpm.symm.map z44)
    exact ⟨rfl,rfl,z2v m hp hok hs⟩
   ·rw [if_neg (by omega)]
    obtain ⟨k,rfl⟩:∃ j:Nat,k=j:=⟨k.toNat,by omega⟩
    rw [Int.toNat_natCast]
    have hk:k<=t.f.b.length:=by omega
    have hu0:used A.fs=t.f.b.length+used (FS'.map FileM.f):=by rw [z1x h1,z13]
    have hu1:=zao (g:=λf=>{ f with b:=f.b.take k,kept:=min f.kept k }) h1 h2
    have hu2:used (A.fs.map (z22 t.f.name λf=>{ f with b:=f.b.take k,kept:=min f.kept k }))=k+used (FS'.map FileM.f):=by
     rw [hu1];show (t.f.b.take k).length+_=_;rw [List.length_take,Nat.min_eq_left hk]
    have hou:=hok.used
    refine z0a hs λw' hs=>?_
    refine zm ?_
    refine za hs ?_
    refine zm ?_
    refine za hs ?_
    have e1:IntKind.wrap .i64 ((used A.fs:Nat)-IntKind.wrap .i64 (((t.x.len:Nat):Int)-(k:Int)))=(used (A.fs.map (z22 t.f.name λf=>{ f with b:=f.b.take k,kept:=min f.kept k })):Nat):=by
     rw [w64 (x:=((t.x.len:Nat):Int)-(k:Int)) (by omega) (by omega),w64 (by omega) (by omega)];omega
    rw [e1]
    (repeat (first|with_reducible (first|refine zl ?_|refine zm ?_|refine z0h ?_|refine za hs ?_|refine zr hs ?_|refine zj ?_|refine z0a hs λ_ hs=>?_|refine zv hs λ_ _ hs=>?_|refine z02 hs λ_ _ hs=>?_|refine z0d hs λ_ hs=>?_|refine zx hs λ_ hs=>?_)|(apply wp_must;(focus first|trivial|omega|assumption))|refine z1i ?_|refine wp_lt ?_))
    have hs:=(hs.focS t.x).slc_cut (n:=k) (by omega)
    rw [z9d] at hs
    have e2:(if (k:Int)<((t.f.kept:Nat):Int) then (k:Int) else ((t.f.kept:Nat):Int))=((min t.f.kept k:Nat):Int):=by split <;> omega
    rw [e2] at hs
    have hs:=z6f (FS:=FS') ⟨t.at_,⟨t.x.a,k,k⟩,⟨t.f.name,t.f.b.take k,min t.f.kept k⟩⟩ hs
    have hp':(((⟨t.at_,⟨t.x.a,k,k⟩,⟨t.f.name,t.f.b.take k,min t.f.kept k⟩⟩:FileM)::FS').map FileM.f).Perm (A.fs.map (z22 t.f.name λf=>{ f with b:=f.b.take k,kept:=min f.kept k })) :=
     (z6r (g:=λf=>{ f with b:=f.b.take k,kept:=min f.kept k }) h1 h2).symm
    have hok':okA { A with fs:=A.fs.map (z22 t.f.name λf=>{ f with b:=f.b.take k,kept:=min f.kept k }) }:=by
     refine ⟨hok.room,by show used (A.fs.map _)<=_;omega,by show (A.fs.map _).length<=_;rw [List.length_map];exact hok.many,hok.left,z8e (z62 λ_=>rfl) hok.sorted,λf hf=>?_,λf hf=>?_⟩
     rotate_left
     ·obtain ⟨g,hg,rfl⟩:=List.mem_map.1 hf
      rw [z62 (by intro _;rfl)];exact hok.names g hg
     obtain ⟨g,hg,rfl⟩:=List.mem_map.1 hf
     have:=hok.kept g hg
     unfold z22
     split
     ·show min g.kept k<=(g.b.take k).length;rw [List.length_take];omega
     ·exact this
    have hs:Sat _ (z3q ekS evF m (((⟨t.at_,⟨t.x.a,k,k⟩,⟨t.f.name,t.f.b.take k,min t.f.kept k⟩⟩:FileM)::FS').map λt=>(t.f.name,t.at_))::_):=(hs.pick [2]).mapPerm (hpm.map λt=>(t.f.name,t.at_))
    rw [hg] at hs
    refine zb (z7q (l':=r) hg hok' hp' hs) λ_ _ hs=>?_
    obtain ⟨rfl,hs⟩:=hs
    refine zd ?_
    (repeat (first|with_reducible (first|refine zl ?_|refine zm ?_|refine z0h ?_|refine za hs ?_|refine zr hs ?_|refine zj ?_|refine z0a hs λ_ hs=>?_|refine zv hs λ_ _ hs=>?_|refine z02 hs λ_ _ hs=>?_|refine z0d hs λ_ hs=>?_|refine zx hs λ_ hs=>?_)|(apply wp_must;(focus first|trivial|omega|assumption))|refine z1i ?_|refine wp_lt ?_))
    exact ⟨rfl,rfl,hs⟩
  ·refine wp_lt ?_
   refine z1b ?_ (by rfl)
   rw [if_pos (z65.2 (z83 hp hb))]
   exact ⟨rfl,rfl,z2v m hp hok hs⟩
end
section
variable {w:World} {l r:List HP} {d:Nat} {A:DiskA}
theorem zz0 {FS:List FileM} (hp:(FS.map FileM.f).Perm A.fs) (hok:okA A) {t:FileM} (ht:t ∈ FS):A.fs.find? (λf=>decide (f.name=t.f.name))=some t.f :=
 zbs (z23 hok.sorted) (hp.mem_iff.1 (List.mem_map.2 ⟨t,ht,rfl⟩)) rfl
theorem zb2 {s:ByteArray} (h:z30 s=true):s.size<=24:=by
 simp only [z30,Bool.and_eq_true,decide_eq_true_eq] at h;exact h.2.2
theorem zhz (n:ByteArray) (fs:List FileA):(z16 n fs).length<=fs.length:=List.length_filter_le _ _
theorem zni {A:DiskA} (hok:okA A) {f:FileA} (hf:f ∈ A.fs) (b:ByteArray) (hne:f.name≠b) (hb24:b.size<=24):okA { A with fs:=z34 { f with name:=b } (z16 b (z16 f.name A.fs)) }:=by
 have h1:=zak hok f.name
 have h2:=zak h1 b
 have hp:=z3f { f with name:=b } (z16 b (z16 f.name A.fs))
 obtain ⟨s,u,hsu⟩:=List.append_of_mem hf
 have hpm:A.fs.Perm (f::(s++u)):=by rw [hsu];exact List.perm_middle
 have hnd:=(hpm.map (·.name)).nodup_iff.1 (z23 hok.sorted)
 rw [List.map_cons,List.nodup_cons] at hnd
 have hd:=z8h hpm λg hg e=>hnd.1 (List.mem_map.2 ⟨g,hg,e⟩)
 have hu:used A.fs=f.b.length+used (z16 f.name A.fs):=by rw [z1x hpm,z13,z1x hd]
 have hl:A.fs.length=(z16 f.name A.fs).length+1:=by rw [hpm.length_eq,List.length_cons,hd.length_eq]
 have hu2:used (z16 b (z16 f.name A.fs))<=used (z16 f.name A.fs):=by
  have:∀ fs:List FileA,used (z16 b fs)<=used fs:=λfs=>by
   induction fs with
   | nil=>exact Nat.le_refl _
   | cons f r ih =>
    unfold z16 at *
    rw [z13,List.filter_cons]
    split
    ·rw [z13];omega
    ·omega
  exact this _
 refine ⟨hok.room,?_,?_,hok.left,?_,?_,?_⟩
 ·show used (z34 _ _)<=_
  rw [z1x hp,z13]
  have:=hok.used
  show f.b.length+_<=_
  omega
 ·show (z34 _ _).length<=_
  rw [hp.length_eq,List.length_cons]
  have:=zhz b (z16 f.name A.fs)
  have:=hok.many
  omega
 ·exact z9t _ (λg hg=>(z9k.1 hg).2) h2.sorted
 ·intro g hg
  rcases z97.1 hg with rfl|hg
  ·exact hok.kept f hf
  ·exact h2.kept g hg
 ·intro g hg
  rcases z97.1 hg with rfl|hg
  ·exact hb24
  ·exact h2.names g hg
theorem zvf (a b:ByteArray) [hf:Fo l dk d A r] (hs:Sat w l):Ret P F.a10 #[.pointer (some ⟨d,0,none⟩),.string a,.string b] w λvs w'=>vs=[.int .i64 (z3b A a b).1]/\Sat w' (dk d (z3b A a b).2::r) :=
 zs0 _ a b <| by
  unfold z00y z3b
  refine zck hs (λhg w' hs=>?_) λhg w' hs=>?_
  ·rw [if_pos hg];exact ⟨rfl,hs⟩
  rw [if_neg (by rw [hg];simp)]
  obtain ⟨m,FS,hp,hok,hs⟩:=z2m hs
  (repeat (first|with_reducible (first|refine zl ?_|refine zm ?_|refine z0h ?_|refine za hs ?_|refine zr hs ?_|refine zj ?_|refine z0a hs λ_ hs=>?_|refine zv hs λ_ _ hs=>?_|refine z02 hs λ_ _ hs=>?_|refine z0d hs λ_ hs=>?_|refine zx hs λ_ hs=>?_)|(apply wp_must;(focus first|trivial|omega|assumption))|refine z1i ?_|refine wp_lt ?_))
  refine z7k hs (λbl hb=>?_) λhb=>?_
  ·obtain ⟨t,ht,rfl,rfl,hA⟩:=z9e hp hb
   rw [zz0 hp hok ht]
   dsimp only
   refine wp_lt ?_
   refine z0g ?_ (by simp)
   refine zb (ztc b hs) λ_ _ hs=>?_
   obtain ⟨rfl,hs⟩:=hs
   refine zd ?_
   refine wp_lt ?_
   refine zf (λh=>?_) λh=>?_
   ·have h:z30 b=false:=by simpa using h
    rw [if_pos h]
    exact ⟨rfl,rfl,z2v m hp hok hs⟩
   have h:z30 b=true:=by simpa using h
   rw [if_neg (by rw [h];simp)]
   refine z4l ?_
   by_cases hab:t.f.name=b
   ·rw [if_pos hab]
    refine z0g ?_ (by simpa using hab)
    refine z3t ?_
    (repeat (first|with_reducible (first|refine zl ?_|refine zm ?_|refine z0h ?_|refine za hs ?_|refine zr hs ?_|refine zj ?_|refine z0a hs λ_ hs=>?_|refine zv hs λ_ _ hs=>?_|refine z02 hs λ_ _ hs=>?_|refine z0d hs λ_ hs=>?_|refine zx hs λ_ hs=>?_)|(apply wp_must;(focus first|trivial|omega|assumption))|refine z1i ?_|refine wp_lt ?_))
    rw [hg] at hs
    refine zb (z7q (A:=A) (fs':=A.fs) (l':=r) hg hok hp hs) λ_ _ hs=>?_
    obtain ⟨rfl,hs⟩:=hs
    refine zd ?_
    (repeat (first|with_reducible (first|refine zl ?_|refine zm ?_|refine z0h ?_|refine za hs ?_|refine zr hs ?_|refine zj ?_|refine z0a hs λ_ hs=>?_|refine zv hs λ_ _ hs=>?_|refine z02 hs λ_ _ hs=>?_|refine z0d hs λ_ hs=>?_|refine zx hs λ_ hs=>?_)|(apply wp_must;(focus first|trivial|omega|assumption))|refine z1i ?_|refine wp_lt ?_))
    exact ⟨rfl,rfl,hs⟩
   ·rw [if_neg hab]
    refine z1b ?_ (by simpa using hab)
    refine zb (zs3 b m hp hok hs) λ_ _ hs=>?_
    obtain ⟨rfl,FS1,hp1,hin1,hin2,hs⟩:=hs
    refine zd ?_
    (repeat (first|with_reducible (first|refine zl ?_|refine zm ?_|refine z0h ?_|refine za hs ?_|refine zr hs ?_|refine zj ?_|refine z0a hs λ_ hs=>?_|refine zv hs λ_ _ hs=>?_|refine z02 hs λ_ _ hs=>?_|refine z0d hs λ_ hs=>?_|refine zx hs λ_ hs=>?_)|(apply wp_must;(focus first|trivial|omega|assumption))|refine z1i ?_|refine wp_lt ?_))
    have ht1:t ∈ FS1:=hin2 t ht hab
    obtain ⟨s,u,hsu⟩:=List.append_of_mem ht1
    have hpm:FS1.Perm (t::(s++u)):=by rw [hsu];exact List.perm_middle
    have hok1:=zak hok b
    obtain ⟨h1,h2,hA1⟩:=apart (A:={ A with fs:=z16 b A.fs }) hp1 hok1 hpm
    refine znv hs ((s++u).map λt=>(t.f.name,t.at_)) (.inl ⟨t.at_,hpm.map _⟩) λw' hs=>?_
    (repeat (first|with_reducible (first|refine zl ?_|refine zm ?_|refine z0h ?_|refine za hs ?_|refine zr hs ?_|refine zj ?_|refine z0a hs λ_ hs=>?_|refine zv hs λ_ _ hs=>?_|refine z02 hs λ_ _ hs=>?_|refine z0d hs λ_ hs=>?_|refine zx hs λ_ hs=>?_)|(apply wp_must;(focus first|trivial|omega|assumption))|refine z1i ?_|refine wp_lt ?_))
    have hnb:∀ v,(b,v) ∉ (s++u).map λt=>(t.f.name,t.at_):=λv hv=>by
     obtain ⟨t',ht',he⟩:=List.mem_map.1 hv
     simp only [Prod.mk.injEq] at he
     exact (hin1 t' (hpm.mem_iff.2 (List.mem_cons_of_mem _ ht'))).2 he.1
    refine zo8 hs ((s++u).map λt=>(t.f.name,t.at_)) (.inr ⟨hnb,rfl⟩) t.at_ λw' hs=>?_
    refine z3t ?_
    (repeat (first|with_reducible (first|refine zl ?_|refine zm ?_|refine z0h ?_|refine za hs ?_|refine zr hs ?_|refine zj ?_|refine z0a hs λ_ hs=>?_|refine zv hs λ_ _ hs=>?_|refine z02 hs λ_ _ hs=>?_|refine z0d hs λ_ hs=>?_|refine zx hs λ_ hs=>?_)|(apply wp_must;(focus first|trivial|omega|assumption))|refine z1i ?_|refine wp_lt ?_))
    have hd:(z16 b (z16 t.f.name A.fs)).Perm ((s++u).map FileM.f):=by
     have e:z16 b (z16 t.f.name A.fs)=z16 t.f.name (z16 b A.fs):=by unfold z16;rw [List.filter_filter,List.filter_filter];congr 1;funext x;rw [Bool.and_comm]
     rw [e];exact z8h h1 h2
    have hp2:(((⟨t.at_,t.x,{ t.f with name:=b }⟩:FileM)::(s++u)).map FileM.f).Perm (z34 { t.f with name:=b } (z16 b (z16 t.f.name A.fs))):=by
     rw [List.map_cons]
     exact (List.Perm.cons _ hd.symm).trans (z3f _ _).symm
    have hok2:=zni hok hA b hab (zb2 h)
    obtain ⟨FS2,hpm2,hs⟩:=z73 hs ht1
    have hpm3:FS2.Perm (s++u):=List.Perm.cons_inv (hpm2.symm.trans hpm)
    have hs:=z6f (FS:=FS2) ⟨t.at_,t.x,{ t.f with name:=b }⟩ hs
    have hs:=hs.all_perm ((List.Perm.cons (⟨t.at_,t.x,{ t.f with name:=b }⟩:FileM) hpm3).map z44)
    have hs:Sat _ (z3q ekS evF m (((⟨t.at_,t.x,{ t.f with name:=b }⟩:FileM)::(s++u)).map λt=>(t.f.name,t.at_))::_):=hs.pick [1]
    have hu:used (z16 b A.fs)=used (z34 { t.f with name:=b } (z16 b (z16 t.f.name A.fs))):=by
     rw [z1x h1,z13,z1x (z3f _ _),z13,z1x hd]
    rw [hg] at hs
    refine zb (z7q (l':=r) hg hok2 hp2 hs (by rw [hu])) λ_ _ hs=>?_
    obtain ⟨rfl,hs⟩:=hs
    refine zd ?_
    (repeat (first|with_reducible (first|refine zl ?_|refine zm ?_|refine z0h ?_|refine za hs ?_|refine zr hs ?_|refine zj ?_|refine z0a hs λ_ hs=>?_|refine zv hs λ_ _ hs=>?_|refine z02 hs λ_ _ hs=>?_|refine z0d hs λ_ hs=>?_|refine zx hs λ_ hs=>?_)|(apply wp_must;(focus first|trivial|omega|assumption))|refine z1i ?_|refine wp_lt ?_))
    exact ⟨rfl,rfl,hs⟩
  ·rw [zti (z83 hp hb)]
   refine wp_lt ?_
   refine z1b ?_ (by rfl)
   exact ⟨rfl,rfl,z2v m hp hok hs⟩
end
def z5g (n:Nat):UInt8:=if n<10 then UInt8.ofNat (48+n) else UInt8.ofNat (87+n)
def z5t (c:UInt8):Option Nat:=if 48<=c.toNat/\c.toNat<=57 then some (c.toNat-48) else if 97<=c.toNat/\c.toNat<=102 then some (c.toNat-87) else none
theorem z02s {n:Nat} (h:n<16):z5t (z5g n)=some n:=by
 unfold z5g z5t
 split
 ·rw [UInt8.toNat_ofNat',if_pos (by omega)]
  congr 1;omega
 ·rw [UInt8.toNat_ofNat',if_neg (by omega),if_pos (by omega)]
  congr 1;omega
theorem z01d {c:UInt8} {n:Nat} (h:z5t c=some n):z5g n=c/\n<16:=by
 unfold z5t at h
 unfold z5g
 split at h
 ·simp only [Option.some.injEq] at h
  subst h
  rw [if_pos (by omega)]
  exact ⟨UInt8.toNat_inj.1 (by rw [UInt8.toNat_ofNat'];omega),by omega⟩
 ·split at h
  ·simp only [Option.some.injEq] at h
   subst h
   rw [if_neg (by omega)]
   exact ⟨UInt8.toNat_inj.1 (by rw [UInt8.toNat_ofNat'];omega),by omega⟩
  ·cases h
def z37:Nat->Nat->List UInt8
 | 0,_=>[]
 | k+1,n=>z37 k (n / 16)++[z5g (n % 16)]
def z41 (x:Nat):List UInt8->Option Nat
 | []=>some x
 | c::r=>match z5t c with
  | none=>none
  | some d=>z41 (16*x+d) r
theorem z6d:∀ (k n:Nat),(z37 k n).length=k
 | 0,_=>rfl
 | k+1,n=>by unfold z37;rw [List.length_append,z6d k];rfl
theorem zee (x:Nat) (a b:List UInt8):z41 x (a++b)=(z41 x a).bind λy=>z41 y b:=by
 induction a generalizing x with
 | nil=>rfl
 | cons c r ih =>
  rw [List.cons_append]
  cases hd:z5t c with
  | none=>simp only [z41,hd];rfl
  | some d=>simp only [z41,hd];exact ih _
theorem zg8:∀ (k n x:Nat),z41 x (z37 k n)=some (x*16 ^ k+n % 16 ^ k)
 | 0,n,x=>by simp [z37,z41,Nat.mod_one]
 | k+1,n,x=>by
  unfold z37
  rw [zee,zg8 k]
  show z41 _ [z5g (n % 16)]=_
  unfold z41
  rw [z02s (Nat.mod_lt _ (by omega))]
  show some _=some _
  congr 1
  have h1:n % 16 ^ (k+1)=16*(n / 16 % 16 ^ k)+n % 16:=by
   rw [Nat.pow_succ,Nat.mul_comm (16 ^ k) 16,Nat.mod_mul];omega
  have h2:x*16 ^ (k+1)=16*(x*16 ^ k):=by rw [Nat.pow_succ];ac_rfl
  omega
def zq:List UInt8:=[46,108,111,103]
def z0o:List UInt8:=[46,110,101,119]
def ze (pre:ByteArray) (base:Int) (x:List UInt8):ByteArray:=⟨(bl pre++(45::(z37 11 base.toNat++x))).toArray⟩
def z1o (pre n:ByteArray) (x:List UInt8):Option Nat :=
 if (bl n).length=(bl pre).length+1+11+x.length/\(bl n).drop ((bl pre).length+1+11)=x then z41 0 (((bl n).drop ((bl pre).length+1)).take 11) else none
def z18 (pre:ByteArray):ByteArray:=⟨(bl pre++[45]).toArray⟩
def zkk (pre n:ByteArray) (x:List UInt8):Option Nat:=if (bl (z18 pre)).isPrefixOf (bl n) then z1o pre n x else none
theorem z5u (pre:ByteArray) (base:Int) (x:List UInt8):bl (ze pre base x)=bl pre++(45::(z37 11 base.toNat++x)):=zfh _
theorem zgc (pre:ByteArray):bl (z18 pre)=bl pre++[45]:=zfh _
theorem z2p (pre:ByteArray) (base:Int) (x:List UInt8):(bl (z18 pre)).isPrefixOf (bl (ze pre base x))=true:=by
 rw [z5u,zgc,List.isPrefixOf_iff_prefix]
 exact ⟨z37 11 base.toNat++x,by simp⟩
theorem zdt (pre:ByteArray) {base:Int} (h:0<=base/\base<17592186044416) (x:List UInt8):z1o pre (ze pre base x) x=some base.toNat:=by
 have hl:=z6d 11 base.toNat
 have e1:(bl (ze pre base x)).drop ((bl pre).length+1)=z37 11 base.toNat++x:=by
  rw [z5u,<- List.drop_drop,List.drop_left]
  rfl
 have e2:(bl (ze pre base x)).drop ((bl pre).length+1+11)=x:=by
  rw [<- List.drop_drop,e1]
  exact List.drop_left' hl
 unfold z1o
 rw [e1,e2,if_pos ⟨by rw [z5u];simp [hl];omega,rfl⟩,List.take_left' hl,zg8,Nat.zero_mul,Nat.zero_add,Nat.mod_eq_of_lt (by omega)]
theorem zhw {pre n:ByteArray} {x y:List UInt8} {v:Nat} (h:z1o pre n x=some v) (hxy:x≠y):z1o pre n y=none:=by
 unfold z1o at h ⊢
 split at h
 ·rename_i h1
  rw [if_neg]
  rintro ⟨h2,h3⟩
  exact hxy (h1.2.symm.trans h3)
 ·cases h
theorem zb9 (pre:ByteArray) {base:Int} (h:0<=base/\base<17592186044416) (x:List UInt8):zkk pre (ze pre base x) x=some base.toNat:=by
 unfold zkk
 rw [if_pos (z2p _ _ _),zdt pre h]
theorem zux {pre n:ByteArray} {x y:List UInt8} {v:Nat} (h:zkk pre n x=some v) (hxy:x≠y):zkk pre n y=none:=by
 unfold zkk at h ⊢
 split at h
 ·rename_i hp;rw [if_pos hp];exact zhw h hxy
 ·cases h
theorem zil {pre:ByteArray} {a b:Int} {x y:List UInt8} (ha:0<=a/\a<17592186044416) (hb:0<=b/\b<17592186044416) (h:ze pre a x=ze pre b y):a=b/\x=y:=by
 have h1:=zb9 pre ha x
 rw [h] at h1
 by_cases hxy:x=y
 ·subst hxy
  rw [zb9 pre hb] at h1
  simp only [Option.some.injEq] at h1
  exact ⟨by omega,rfl⟩
 ·rw [zux (zb9 pre hb y) (λe=>hxy e.symm)] at h1
  cases h1
def z49 (pre:ByteArray):Bool:=decide (1<=pre.size/\pre.size<=8) && (bl pre).all λc=>(97<=c.toNat && c.toNat<=122) || (48<=c.toNat && c.toNat<=57)
theorem z001 {n:Nat} (h:n<16):okC (z5g n)=true:=by
 unfold z5g okC
 split <;> rw [UInt8.toNat_ofNat'] <;> simp <;> omega
theorem zoh:∀ (k n:Nat),(z37 k n).all okC=true
 | 0,_=>rfl
 | k+1,n=>by
  unfold z37
  rw [List.all_append,zoh k]
  simp [z001 (Nat.mod_lt n (by omega:(16:Nat)>0))]
theorem zdo {pre:ByteArray} (h:z49 pre=true) (base:Int) {x:List UInt8} (hx:x.length=4) (hxo:x.all okC=true):z30 (ze pre base x)=true:=by
 unfold z49 at h
 rw [Bool.and_eq_true,decide_eq_true_eq] at h
 have hall:(bl pre).all okC=true:=by
  rw [List.all_eq_true] at h ⊢
  intro c hc
  have:=h.2 c hc
  unfold okC
  rw [this]
  rfl
 have hsz:(ze pre base x).size=pre.size+16:=by
  rw [<- z0z,z5u,<- z0z]
  simp [z6d,hx]
 unfold z30
 rw [hsz,show (ze pre base x).data.toList=_ from z5u pre base x]
 simp [List.all_append,hall,zoh,hxo]
 exact ⟨by decide,by omega⟩
theorem zua {p q n:ByteArray} (hp:z49 p=true) (hq:z49 q=true) (h1:(bl (z18 p)).isPrefixOf (bl n)=true) (h2:(bl (z18 q)).isPrefixOf (bl n)=true):p=q:=by
 have key:∀ (a b:List UInt8),(∀ c ∈ a,c≠45)->(∀ c ∈ b,c≠45)->∀ s t:List UInt8,a++45::s=b++45::t->a=b:=by
  intro a
  induction a with
  | nil =>
   intro b _ hb s t h
   cases b with
   | nil=>rfl
   | cons c cs=>simp at h;exact absurd h.1.symm (hb c (List.mem_cons_self ..))
  | cons c cs ih =>
   intro b ha hb s t h
   cases b with
   | nil=>simp at h;exact absurd h.1 (ha c (List.mem_cons_self ..))
   | cons d ds =>
    simp at h
    rw [h.1,ih ds (λx hx=>ha x (List.mem_cons_of_mem _ hx)) (λx hx=>hb x (List.mem_cons_of_mem _ hx)) s t h.2]
 have no:∀ {p:ByteArray},z49 p=true->∀ c ∈ bl p,c≠45:=λ{p} hp c hc e=>by
  unfold z49 at hp
  rw [Bool.and_eq_true,List.all_eq_true] at hp
  have:=hp.2 c hc
  subst e
  revert this
  decide
 rw [List.isPrefixOf_iff_prefix,zgc] at h1 h2
 obtain ⟨s,hs⟩:=h1
 obtain ⟨t,ht⟩:=h2
 refine zcf (key _ _ (no hp) (no hq) s t ?_)
 rw [<- ht] at hs
 simpa using hs
theorem zej:∀ (a x y:List UInt8),Op.bytesLess (a++x) (a++y)=Op.bytesLess x y
 | [],x,y=>rfl
 | c::a,x,y=>by
  rw [List.cons_append,List.cons_append,Op.bytesLess,zej a]
  simp
theorem zc8:∀ (a b x y:List UInt8),a.length=b.length->(Op.bytesLess (a++x) (b++y)=true↔Op.bytesLess a b=true\/(a=b/\Op.bytesLess x y=true))
 | [],[],x,y,_=>by simp [Op.bytesLess]
 | c::a,d::b,x,y,h=>by
  rw [List.cons_append,List.cons_append,Op.bytesLess,Op.bytesLess]
  have ih:=zc8 a b x y (by simpa using h)
  simp only [Bool.or_eq_true,decide_eq_true_eq,Bool.and_eq_true,beq_iff_eq,List.cons.injEq]
  rw [ih]
  constructor
  ·rintro (h|⟨h,h2|⟨h2,h3⟩⟩)
   ·exact .inl (.inl h)
   ·exact .inl (.inr ⟨h,h2⟩)
   ·exact .inr ⟨⟨h,h2⟩,h3⟩
  ·rintro ((h|⟨h,h2⟩)|⟨⟨h,h2⟩,h3⟩)
   ·exact .inl h
   ·exact .inr ⟨h,.inl h2⟩
   ·exact .inr ⟨h,.inr ⟨h2,h3⟩⟩
theorem zzc {a b:Nat} (ha:a<16) (hb:b<16):(z5g a<z5g b)↔a<b:=by
 rw [UInt8.lt_iff_toNat_lt]
 unfold z5g
 split <;> split <;> rw [UInt8.toNat_ofNat',UInt8.toNat_ofNat'] <;> omega
theorem zin:∀ (k a b:Nat),a<16 ^ k->b<16 ^ k->(Op.bytesLess (z37 k a) (z37 k b)=true↔a<b)
 | 0,a,b,ha,hb=>by simp at ha hb;subst ha hb;simp [z37,Op.bytesLess]
 | k+1,a,b,ha,hb=>by
  have h1:a / 16<16 ^ k:=by rw [Nat.pow_succ] at ha;omega
  have h2:b / 16<16 ^ k:=by rw [Nat.pow_succ] at hb;omega
  unfold z37
  rw [zc8 _ _ _ _ (by rw [z6d,z6d]),zin k _ _ h1 h2]
  have h3:Op.bytesLess [z5g (a % 16)] [z5g (b % 16)]=true↔a % 16<b % 16:=by
   simp only [Op.bytesLess,Bool.or_eq_true,decide_eq_true_eq,Bool.and_eq_true,Bool.false_eq_true,and_false,or_false]
   exact zzc (Nat.mod_lt _ (by omega)) (Nat.mod_lt _ (by omega))
  rw [h3]
  have h4:z37 k (a / 16)=z37 k (b / 16)->a / 16=b / 16:=λh=>by
   have e1:=zg8 k (a / 16) 0
   rw [h,zg8] at e1
   simp only [Option.some.injEq] at e1
   rw [Nat.mod_eq_of_lt h1,Nat.mod_eq_of_lt h2] at e1
   omega
  constructor
  ·rintro (h|⟨h,h5⟩)
   ·omega
   ·have:=h4 h;omega
  ·intro h
   by_cases h5:a / 16=b / 16
   ·right;exact ⟨by rw [h5],by omega⟩
   ·left;omega
theorem zs1 (pre:ByteArray) {a b:Int} (ha:0<=a/\a<17592186044416) (hb:0<=b/\b<17592186044416) (x:List UInt8):ltS (ze pre a x) (ze pre b x)=true↔a<b:=by
 have e:∀ s:ByteArray,ByteArray.toList s=bl s:=λs=>by rw [ByteArray.toList_eq]
 unfold ltS
 rw [e,e,z5u,z5u,zej]
 have e2:∀ y z:List UInt8,Op.bytesLess (45::y) (45::z)=Op.bytesLess y z:=zej [45]
 rw [e2,zc8 _ _ _ _ (by rw [z6d,z6d]),zin 11 _ _ (by omega) (by omega),z9r]
 constructor
 ·rintro (h|⟨-,h⟩)
  ·omega
  ·cases h
 ·intro h;left;omega
end Go.Dec
