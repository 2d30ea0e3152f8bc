/- What the claim of this folder leans on: our own texts, joined, without what it does not use. -/
import Derived.Test.YtfnldnodhfkojaaGreatRows
import Derived.WalkKit
import Derived.ProofKit
import Derived.OpenShut
import Derived.RowKit3
import Derived.OrdersHeld
import Derived.Scope
import Derived.KernelRfl
import Derived.Laws.Sem
import Derived.Laws.StructEq
import Derived.Deep.AppendSrc
import Derived.Laws.BytesArg
import Derived.Laws.RangeString
import Derived.Maps.RangeRun
import Derived.Lib.ConvBytes
import Derived.Lib.SlBytesConst
import Derived.ChangeSlices
import Derived.ChangeMaps5
import Derived.ChangeSame
import Derived.Deep.Slices
import Derived.Deep.Fields
import Derived.Test.YtfnldnodhfkojaaGreatProg
import Derived.Laws.MakeOwn
import Derived.Sort.MapsRangeIn
import Derived.Sort.KeysCollected
import Derived.RangeFuncNested
import Derived.RangeFuncBound
import Derived.RangeFuncCalls
import Derived.RangeFuncLeaves
import Derived.RangeFuncBox
import Derived.OwnWalkIn
import Derived.TacticsInMore
import Derived.RegionIn
import Derived.LoopNIn
import Derived.LoopIn
import Derived.Maps.AppendAt
import Derived.Shelf.Abstract
import Derived.Shelf.Sort.Plain
import Derived.Shelf.Slices.In.SortNone
import Derived.Test.YtfnldnodhfkojaaGreatQSwaps1
import Derived.Test.YtfnldnodhfkojaaGreatQSwaps2
import Derived.Test.YtfnldnodhfkojaaGreatQSwaps3
set_option linter.unusedVariables false
set_option linter.unusedSimpArgs false
namespace Go.Dec
def zig (n:Int):Nat:=if 0<=n then (2*n).toNat else (-2*n-1).toNat
def zag (m:Nat):Int:=if m % 2=1 then -((m / 2:Nat):Int)-1 else ((m / 2:Nat):Int)
def z3a (n:Int):List UInt8:=z39 (zig n)
theorem zz0 (n:Int):zag (zig n)=n:=by
 unfold zag zig
 split <;> split <;> omega
theorem zxt (m:Nat):zig (zag m)=m:=by
 unfold zag zig
 split <;> split <;> omega
theorem zk1 {n:Int} (h : -9223372036854775808<=n/\n<9223372036854775808):zig n<18446744073709551616:=by
 unfold zig
 split <;> omega
theorem zc7 (n:Int):0<(z3a n).length/\(z3a n).length<=10:=z86 _
theorem xor_zero (x:BitVec 64):x ^^^ BitVec.ofInt 64 0=x:=by
 have:BitVec.ofInt 64 0=0#64:=by decide
 rw [this,BitVec.xor_zero]
theorem zkb (x:BitVec 64) {n:Int} (hn:BitVec.ofInt 64 n=BitVec.allOnes 64):(x ^^^ BitVec.ofInt 64 n).toNat=18446744073709551615-x.toNat:=by
 rw [hn,BitVec.xor_allOnes,BitVec.toNat_not]
theorem toNat_ofInt (n:Int):(BitVec.ofInt 64 n).toNat=(n % 18446744073709551616).toNat:=by rw [BitVec.toNat_ofInt];rfl
theorem z40 (n:Int):IntKind.wrap .u64 n=n % 18446744073709551616:=by simp [IntKind.wrap,IntKind.bits,IntKind.signed]
theorem z01s {n:Int} (h : -9223372036854775808<=n/\n<9223372036854775808):Int.fdiv n 9223372036854775808=if 0<=n then 0 else -1:=by
 rw [Int.fdiv_eq_ediv_of_nonneg _ (by omega)]
 split <;> omega
theorem zuf {n:Int} (h : -9223372036854775808<=n/\n<9223372036854775808) :
  (BitVec.toNat (BitVec.ofInt 64 (IntKind.wrap .u64 (IntKind.wrap .u64 n*2)) ^^^ BitVec.ofInt 64 (IntKind.wrap .u64 (Int.fdiv n 9223372036854775808))))=zig n:=by
 rw [z01s h,z40,z40]
 unfold zig
 by_cases h0:0<=n
 ·rw [if_pos h0,if_pos h0,z40,Int.zero_emod,xor_zero,toNat_ofInt];omega
 ·rw [if_neg h0,if_neg h0,zkb _ (by rw [z40];decide),toNat_ofInt];omega
theorem zuw {m:Nat} (h:m<18446744073709551616) :
  IntKind.wrap .i64 (((BitVec.toNat (BitVec.ofInt 64 (IntKind.wrap .i64 (Int.fdiv (m:Int) 2)) ^^^ BitVec.ofInt 64 (IntKind.wrap .i64 (0-IntKind.wrap .i64 (IntKind.wrap .u64 (((BitVec.toNat (BitVec.ofInt 64 (m:Int) &&& BitVec.ofInt 64 1):Nat):Int)))))):Nat):Int))=zag m:=by
 have e1:(BitVec.toNat (BitVec.ofInt 64 (m:Int) &&& BitVec.ofInt 64 1))=m % 2:=by
  rw [BitVec.toNat_and,toNat_ofInt,toNat_ofInt]
  have h1:((m:Int) % 18446744073709551616).toNat=m:=by omega
  have h2:((1:Int) % 18446744073709551616).toNat=1:=by decide
  rw [h1,h2,Nat.and_one_is_mod]
 have e2:Int.fdiv (m:Int) 2=((m / 2:Nat):Int):=by rw [Int.fdiv_eq_ediv_of_nonneg _ (by omega)];omega
 rw [e1,e2,z40,w64 (x:=((m / 2:Nat):Int)) (by omega) (by omega)]
 unfold zag
 by_cases h0:m % 2=1
 ·rw [if_pos h0,h0]
  have e3:IntKind.wrap .i64 (0-IntKind.wrap .i64 ((((1:Nat):Int)) % 18446744073709551616)) = -1:=by decide
  rw [e3,zkb _ (by decide),toNat_ofInt]
  have e4:((((m / 2:Nat):Int)) % 18446744073709551616).toNat=m / 2:=by omega
  rw [e4]
  have e5:IntKind.wrap .i64 ((18446744073709551615-m / 2:Nat):Int) = -((m / 2:Nat):Int)-1:=by
   rw [zmw];split <;> omega
  exact e5
 ·rw [if_neg h0]
  have h2:m % 2=0:=by omega
  rw [h2]
  have e3:IntKind.wrap .i64 (0-IntKind.wrap .i64 ((((0:Nat):Int)) % 18446744073709551616))=0:=by decide
  rw [e3,xor_zero,toNat_ofInt]
  have e4:((((m / 2:Nat):Int)) % 18446744073709551616).toNat=m / 2:=by omega
  rw [e4,w64 (by omega) (by omega)]
def RdM.within (R:RdM) (lo hi:Int):Int × RdM :=
 if R.uint.2.e≠0 then (0,R.uint.2) else if zag R.uint.1<lo\/zag R.uint.1>hi then (0,⟨R.bs,R.at_,8⟩) else (zag R.uint.1,R.uint.2)
theorem zj2 {R:RdM} (h:R.e≠0):R.uint=(0,R):=by unfold RdM.uint;rw [if_pos h]
section
variable {w:World} {l r:List HP} {p:Nat} {R:RdM}
theorem zyz (n:Int) (hn : -9223372036854775808<=n/\n<9223372036854775808) (hs:Sat w l):Ret P F.a136 #[.int .i64 n] w λvs w'=>∃ z:Sl,vs=[z.v]/\Sat w' (slc T.a34 1 z ((z3a n).flatMap zf)::l) :=
 zlz n <| by
  unfold zwa z3a
  have hz:=zk1 hn
  rw [zuf hn]
  generalize zig n=m at hz ⊢
  rw [z7o,Nat.mod_eq_of_lt hz]
  refine za (zo1 m hz hs) λ_ _ hs=>?_
  obtain ⟨z,rfl,hs⟩:=hs
  refine zd ?_
  exact ⟨rfl,z,rfl,hs⟩
theorem zyt (n:Int) (hn : -9223372036854775808<=n/\n<9223372036854775808) (hs:Sat w l):Ret P F.a110 #[.int .i64 n] w λvs w'=>∃ z:Sl,vs=[z.v]/\Sat w' (slc T.a34 1 z ((z3a n).flatMap zf)::l) :=
 zl1 n <| by
  unfold zwn
  have hz:=zk1 hn
  refine zg (λh=>?_) λh=>?_
  ·have e:IntKind.wrap .u64 (2*IntKind.wrap .u64 n)=((zig n:Nat):Int):=by
    rw [z40,z40];unfold zig;rw [if_pos (by omega)];omega
   rw [e]
   refine za (zh9 9 (zig n) (by omega) hz hs) λ_ _ hs=>?_
   obtain ⟨z,rfl,hs⟩:=hs
   refine zd ?_
   exact ⟨rfl,z,rfl,hs⟩
  ·have e:IntKind.wrap .u64 (IntKind.wrap .u64 (2*IntKind.wrap .u64 (IntKind.wrap .i64 (0-IntKind.wrap .i64 (n+1))))+1)=((zig n:Nat):Int):=by
    rw [w64 (x:=n+1) (by omega) (by omega),w64 (by omega) (by omega),z40,z40,z40];unfold zig;rw [if_neg (by omega)];omega
   rw [e]
   refine za (zh9 9 (zig n) (by omega) hz hs) λ_ _ hs=>?_
   obtain ⟨z,rfl,hs⟩:=hs
   refine zd ?_
   exact ⟨rfl,z,rfl,hs⟩
theorem zzr [hf:Fo l (rdP T.a36) p R r] (hs:Sat w l):Ret P F.a143 #[.pointer (some ⟨p,0,none⟩)] w λvs w'=>vs=[.int .i64 (zag R.uint.1)]/\Sat w' (rdP T.a36 p R.uint.2::r) :=
 zlk _ <| by
  unfold zx3
  have hb:=(z5u (hs.perm hf.perm)).1
  have hlt:R.uint.1<18446744073709551616:=by rcases zq9 hb with h|h <;> omega
  refine za (znf (p:=p) hs) λ_ _ hs=>?_
  obtain ⟨rfl,hs⟩:=hs
  refine zd ?_
  refine wp_lt ?_
  rw [zuw hlt]
  refine wp_lt ?_
  exact ⟨rfl,rfl,hs⟩
theorem zs4 (lo hi:Int) [hf:Fo l (rdP T.a36) p R r] (hs:Sat w l):Ret P F.a146 #[.pointer (some ⟨p,0,none⟩),.int .i64 lo,.int .i64 hi] w λvs w'=>vs=[.int .i64 (R.within lo hi).1]/\Sat w' (rdP T.a36 p (R.within lo hi).2::r) :=
 zkz _ lo hi <| by
  unfold zwq
  have hb0:=z5u (hs.perm hf.perm)
  refine za (zby (p:=p) hs) λ_ _ hs=>?_
  obtain ⟨rfl,hs⟩:=hs
  refine zd ?_
  refine zg (λh=>?_) λh=>?_
  ·have h:R.e≠0:=by simpa using h
   unfold RdM.within
   rw [zj2 h,if_pos h]
   exact ⟨rfl,rfl,hs⟩
  have h:R.e=0:=by simpa using h
  obtain ⟨x,hb,hs⟩:=z2m hs
  refine zm ?_
  refine zb hs ?_
  refine wp_lt ?_
  have hs:Sat _ (rdP T.a36 p R::r):=z1b R hb hs
  refine za (zzr (p:=p) hs) λ_ _ hs=>?_
  obtain ⟨rfl,hs⟩:=hs
  refine zd ?_
  refine wp_lt ?_
  have hbs:=zng R
  unfold RdM.within
  have hb2:=z5u hs
  generalize R.uint.1=m at *
  generalize R.uint.2=R1 at *
  obtain ⟨x,-,hs⟩:=z2m hs
  refine zm ?_
  refine zb hs ?_
  refine zp (λ_ w'=>Sat w' (rdP T.a36 p (if R1.e≠0 then R1 else if zag m<lo\/zag m>hi then ⟨R.bs,R.at_,8⟩ else R1)::r)) ?_ ?_
  ·refine zg (λh2=>?_) λh2=>?_
   ·obtain ⟨h3,h4⟩:=h2
    have e:(if R1.e≠0 then R1 else if zag m<lo\/zag m>hi then (⟨R.bs,R.at_,8⟩:RdM) else R1)=⟨R.bs,R.at_,8⟩:=by rw [if_neg (by rw [h3];simp),if_pos h4]
    refine zm ?_
    refine z0f hs λw' hs=>?_
    refine zm ?_
    have hs:Sat w' (rdP T.a36 p ⟨R.bs,R.at_,0⟩::r):=z1b (x:=x) ⟨R.bs,R.at_,0⟩ hb0 (by rw [hbs,h3] at hs;exact hs)
    refine za (z79 (p:=p) 8 hs) λ_ w' hs=>?_
    obtain ⟨rfl,hs⟩:=hs
    refine zd ?_
    refine zh ?_
    rw [e]
    exact hs
   ·refine zh ?_
    have e:(if R1.e≠0 then R1 else if zag m<lo\/zag m>hi then (⟨R.bs,R.at_,8⟩:RdM) else R1)=R1:=by
     by_cases h3:R1.e=0
     ·rw [if_neg (by rw [h3];simp),if_neg (λh4=>h2 ⟨h3,h4⟩)]
     ·rw [if_pos h3]
    rw [e]
    exact z1b R1 hb2 hs
  clear hs
  rintro _ w hs
  refine zk ?_
  by_cases h3:R1.e=0
  ·rw [if_neg (by rw [h3];simp)] at hs ⊢
   by_cases h4:zag m<lo\/zag m>hi
   ·rw [if_pos h4] at hs ⊢
    obtain ⟨x,-,hs⟩:=z2m hs
    refine zm ?_
    refine zb hs ?_
    refine z17 ?_ (by simp)
    exact ⟨rfl,rfl,z1b ⟨R.bs,R.at_,8⟩ hb0 hs⟩
   ·rw [if_neg h4] at hs ⊢
    obtain ⟨x,-,hs⟩:=z2m hs
    refine zm ?_
    refine zb hs ?_
    refine z0g ?_ (by rw [h3];simp)
    refine wp_lt ?_
    exact ⟨rfl,rfl,z1b R1 hb2 hs⟩
  ·rw [if_pos h3] at hs ⊢
   obtain ⟨x,-,hs⟩:=z2m hs
   refine zm ?_
   refine zb hs ?_
   refine z17 ?_ h3
   exact ⟨rfl,rfl,z1b R1 hb2 hs⟩
end
abbrev Lf:=Option (List UInt8)
def z0v:Lf->Nat × Lf
 | none=>(0,none)
 | some bs=>match z3t 0 bs with
  | none=>(0,none)
  | some p=>(p.1,some (bs.drop p.2))
def z1r (lo hi:Int) (s:Lf):Int × Lf:=match (z0v s).2 with
 | none=>(0,none)
 | some t=>if zag (z0v s).1<lo\/zag (z0v s).1>hi then (0,none) else (zag (z0v s).1,some t)
def z12:Lf->Nat × Lf
 | some (c::t)=>(c.toNat,some t)
 | _=>(0,none)
def z4k:Lf->Bool × Lf
 | some (c::t)=>if c.toNat<=1 then (decide (c.toNat=1),some t) else (false,none)
 | _=>(false,none)
def z1q (most:Nat) (s:Lf):ByteArray × Lf:=match (z0v s).2 with
 | none=>(⟨#[]⟩,none)
 | some t=>if (z0v s).1<=most/\(z0v s).1<=t.length then (⟨(t.take (z0v s).1).toArray⟩,some (t.drop (z0v s).1)) else (⟨#[]⟩,none)
def z09 (most:Int) (s:Lf):Int × Lf:=(if ((z0v s).1:Int)>most then most+1 else (z0v s).1,(z0v s).2)
abbrev bl (s:ByteArray):List UInt8:=s.data.toList
theorem z7f {v:Nat} (h:v<18446744073709551616) (t:List UInt8):z0v (some (z39 v++t))=(v,some t):=by
 unfold z0v
 simp only [zhi h,List.drop_left]
theorem z70 {s:Lf} {t:List UInt8} (h:(z0v s).2=some t):(z0v s).1<18446744073709551616/\s=some (z39 (z0v s).1++t):=by
 cases s with
 | none=>cases h
 | some bs =>
  cases hn:z3t 0 bs with
  | none =>
   have e:z0v (some bs)=(0,none):=by unfold z0v;simp only [hn]
   rw [e] at h;cases h
  | some p =>
   obtain ⟨v,k⟩:=p
   have e:z0v (some bs)=(v,some (bs.drop k)):=by unfold z0v;simp only [hn]
   rw [e] at h ⊢
   obtain ⟨h1,h2⟩:=zj4 hn
   simp only [Option.some.injEq] at h ⊢
   subst h
   exact ⟨h2,by rw [<- h1,List.take_append_drop]⟩
theorem zjy {lo hi n:Int} (h1:lo<=n) (h2:n<=hi) (hn : -9223372036854775808<=n/\n<9223372036854775808) (t:List UInt8):z1r lo hi (some (z3a n++t))=(n,some t):=by
 unfold z1r z3a
 simp only [z7f (zk1 hn),zz0]
 rw [if_neg (by omega)]
theorem zmk {lo hi:Int} {s:Lf} {t:List UInt8} (h:(z1r lo hi s).2=some t):(lo<=(z1r lo hi s).1/\(z1r lo hi s).1<=hi)/\s=some (z3a (z1r lo hi s).1++t):=by
 unfold z1r at h ⊢
 cases hu:(z0v s).2 with
 | none=>rw [hu] at h;cases h
 | some t' =>
  have h2:=z70 hu
  rw [hu] at h
  simp only at h ⊢
  split at h
  ·cases h
  rename_i h3
  simp only [Option.some.injEq] at h
  subst h
  rw [if_neg h3]
  refine ⟨by omega,?_⟩
  unfold z3a
  rw [zxt]
  exact h2.2
theorem zcq {s:Lf} {t:List UInt8} (h:(z12 s).2=some t):(z12 s).1<256/\s=some (UInt8.ofNat (z12 s).1::t):=by
 match s,h with
 | some (c::r),h =>
  have h:some r=some t:=h
  cases h
  refine ⟨c.toNat_lt,?_⟩
  show some (c::t)=some (UInt8.ofNat c.toNat::t)
  rw [UInt8.ofNat_toNat]
 | some [],h=>cases h
 | none,h=>cases h
def z55 (b:Bool):UInt8:=if b then 1 else 0
theorem zr2 (b:Bool) (t:List UInt8):z4k (some (z55 b::t))=(b,some t):=by
 cases b <;> rfl
theorem zsi {s:Lf} {t:List UInt8} (h:(z4k s).2=some t):s=some (z55 (z4k s).1::t):=by
 match s,h with
 | some (c::r),h =>
  unfold z4k at h ⊢
  simp only at h ⊢
  split at h
  ·rename_i h1
   simp only [Option.some.injEq] at h
   subst h
   rw [if_pos h1]
   congr 2
   by_cases h2:c.toNat=1
   ·rw [decide_eq_true h2];exact UInt8.toNat_inj.1 h2
   ·rw [decide_eq_false h2];exact UInt8.toNat_inj.1 (by show c.toNat=0;omega)
  ·cases h
 | some [],h=>cases h
 | none,h=>cases h
theorem z0z (s:ByteArray):(bl s).length=s.size:=rfl
theorem zg1 (l:List UInt8):bl ⟨l.toArray⟩=l:=by simp [bl]
theorem zck {a b:ByteArray} (h:bl a=bl b):a=b:=by
 cases a;cases b;exact congrArg ByteArray.mk (Array.ext' h)
theorem zfl {most:Nat} (x:ByteArray) (h:x.size<=most) (hm:most<4294967296) (t:List UInt8):z1q most (some (uI x.size++(bl x++t)))=(x,some t):=by
 unfold z1q uI
 have e:((x.size:Int)).toNat=x.size:=by omega
 rw [e]
 simp only [z7f (show x.size<18446744073709551616 by omega)]
 rw [if_pos ⟨h,by rw [List.length_append,z0z];omega⟩,<- z0z,List.take_left,List.drop_left]
theorem zhv {most:Nat} {s:Lf} {t:List UInt8} (h:(z1q most s).2=some t):(z1q most s).1.size<=most/\s=some (uI (z1q most s).1.size++(bl (z1q most s).1++t)):=by
 unfold z1q at h ⊢
 cases hu:(z0v s).2 with
 | none=>rw [hu] at h;cases h
 | some t' =>
  have h2:=z70 hu
  rw [hu] at h
  simp only at h ⊢
  split at h
  rotate_left
  ·cases h
  rename_i h3
  simp only [Option.some.injEq] at h
  subst h
  rw [if_pos h3]
  have e:(ByteArray.mk (t'.take (z0v s).1).toArray).size=(z0v s).1:=by
   show (t'.take (z0v s).1).length=_
   rw [List.length_take];omega
  refine ⟨by rw [e];exact h3.1,?_⟩
  rw [e,zg1,List.take_append_drop]
  unfold uI
  exact h2.2
theorem z5d {most n:Int} (h0:0<=n) (hn:n<=most) (hm:most<9223372036854775808) (t:List UInt8):z09 most (some (uI n++t))=(n,some t):=by
 unfold z09 uI
 rw [z7f (by omega),if_neg (by simp only;omega)]
 congr 1
 simp only;omega
theorem z65 {most:Int} (hm:0<=most) {s:Lf} {t:List UInt8} (h:(z09 most s).2=some t):(0<=(z09 most s).1/\(z09 most s).1<=most+1)/\((z09 most s).1<=most->s=some (uI (z09 most s).1++t)):=by
 have h2:=z70 (show (z0v s).2=some t from h)
 unfold z09
 simp only
 split
 ·exact ⟨⟨by omega,by omega⟩,λh3=>absurd h3 (by omega)⟩
 ·refine ⟨⟨by omega,by omega⟩,λh3=>?_⟩
  unfold uI
  rw [Int.toNat_natCast]
  exact h2.2
def z04:List UInt8->List UInt8->Nat
 | a::x,b::y=>if a=b then z04 x y+1 else 0
 | _,_=>0
theorem z80:∀ x y:List UInt8,z04 x y<=x.length/\z04 x y<=y.length
 | [],_=>by simp [z04]
 | _::_,[]=>by simp [z04]
 | a::x,b::y=>by
  have:=z80 x y
  unfold z04
  split <;> simp <;> omega
theorem z9z:∀ x y:List UInt8,x.take (z04 x y)=y.take (z04 x y)
 | [],_=>by simp [z04]
 | _::_,[]=>by simp [z04]
 | a::x,b::y=>by
  unfold z04
  split
  ·rename_i h
   rw [List.take_succ_cons,List.take_succ_cons,h,z9z x y]
  ·rfl
theorem zc0:∀ {x y:List UInt8} {i:Nat} (h1:i<=x.length) (h2:i<=y.length),x.take i=y.take i->(i=x.length\/i=y.length\/x[i]? ≠ y[i]?)->z04 x y=i
 | [],y,i,h1,h2,_,_=>by simp at h1;simp [z04,h1]
 | _::_,[],i,h1,h2,_,_=>by simp at h2;simp [z04,h2]
 | a::x,b::y,0,_,_,_,h=>by
  unfold z04
  rw [if_neg]
  rintro rfl
  rcases h with h|h|h
  ·simp at h
  ·simp at h
  ·simp at h
 | a::x,b::y,i+1,h1,h2,ht,h=>by
  rw [List.take_succ_cons,List.take_succ_cons,List.cons.injEq] at ht
  unfold z04
  rw [if_pos ht.1,zc0 (by simpa using h1) (by simpa using h2) ht.2]
  rcases h with h|h|h
  ·left;simpa using h
  ·right;left;simpa using h
  ·right;right;simpa using h
def z49 (ahead key:ByteArray):List UInt8:=uI (key.size-z04 (bl ahead) (bl key):Nat)++(bl key).drop (z04 (bl ahead) (bl key))
def z4d (time:Int) (ahead:ByteArray) (r:RecM):List UInt8 :=
 z3a (r.time-time)++(z55 r.gone::(uI (z04 (bl ahead) (bl r.key):Nat)++(z49 ahead r.key++if r.gone then [] else uI r.value.size++bl r.value)))
def z27 (time:Int):ByteArray->List RecM->List UInt8
 | _,[]=>[]
 | ahead,r::rs=>z4d time ahead r++z27 time r.key rs
def z24 (b:BatM):List UInt8 :=
 1::UInt8.ofNat b.kind.toNat::(uI b.base++(uI b.pid++((if b.pid>0 then uI b.epoch++(if z10 b then [] else uI b.seq) else [])++(uI b.time++if z10 b then [] else uI b.rs.length++z27 b.time ⟨#[]⟩ b.rs))))
def BatM.p (b:BatM):BatM:={ b with x:=⟨none,0,0⟩ }
def z57 (ahead:ByteArray) (n:Int) (rest:ByteArray):ByteArray:=ahead.extract 0 n.toNat++rest
def z3m (time:Int) (ahead:ByteArray) (s:Lf):Option RecM × Lf :=
 if (z09 1024 (z4k (z1r (-1099511627776) 1099511627776 s).2).2).1>ahead.size then (none,(z1q 1024 (z09 1024 (z4k (z1r (-1099511627776) 1099511627776 s).2).2).2).2) else
 let a:=z1r (-1099511627776) 1099511627776 s
 let b:=z4k a.2
 let c:=z09 1024 b.2
 let d:=z1q 1024 c.2
 let e:=if b.1 then (⟨#[]⟩,d.2) else z1q 1024 d.2
 if e.2.isSome=true/\(z04 (bl ahead) (bl (z57 ahead c.1 d.1)):Int)=c.1 then (some ⟨z57 ahead c.1 d.1,e.1,b.1,time+a.1⟩,e.2) else (none,e.2)
def z4q (time:Int):Nat->ByteArray->Lf->Option (List RecM × Lf)
 | 0,_,s=>some ([],s)
 | n+1,ahead,s=>match (z3m time ahead s).1 with
  | none=>none
  | some x=>(z4q time n x.key (z3m time ahead s).2).map λq=>(x::q.1,q.2)
theorem znt (ahead rest:ByteArray) (n:Int):bl (z57 ahead n rest)=(bl ahead).take n.toNat++bl rest:=by
 unfold z57 bl
 simp [List.extract_eq_take_drop]
theorem zsv (ahead key:ByteArray):z57 ahead (z04 (bl ahead) (bl key):Nat) ⟨((bl key).drop (z04 (bl ahead) (bl key))).toArray⟩=key:=by
 apply zck
 rw [znt,zg1,Int.toNat_natCast,z9z,List.take_append_drop]
theorem z3x {r:RecM} (h:z1x r=0):r.key.size<=1024/\r.value.size<=1024/\(0<=r.time/\r.time<=1099511627776)/\(r.gone=true->r.value=⟨#[]⟩):=by
 unfold z1x at h
 split at h
 ·cases h
 rename_i h1
 split at h
 ·cases h
 rename_i h2
 refine ⟨by omega,by omega,by omega,λhg=>?_⟩
 apply Decidable.byContradiction
 intro h3
 exact h2 (.inr ⟨hg,zkd.2 h3⟩)
theorem zow {time:Int} (ht:0<=time/\time<=1099511627776) {r:RecM} (hr:z1x r=0) (ahead:ByteArray) (t:List UInt8):z3m time ahead (some (z4d time ahead r++t))=(some r,some t):=by
 obtain ⟨h1,h2,h3,h4⟩:=z3x hr
 have hle:=z80 (bl ahead) (bl r.key)
 rw [z0z,z0z] at hle
 have hd:(ByteArray.mk ((bl r.key).drop (z04 (bl ahead) (bl r.key))).toArray).size=r.key.size-z04 (bl ahead) (bl r.key):=by
  show ((bl r.key).drop _).length=_
  rw [List.length_drop,z0z]
 have e0:z4d time ahead r++t=z3a (r.time-time)++(z55 r.gone::(uI (z04 (bl ahead) (bl r.key):Nat)++(uI ((ByteArray.mk ((bl r.key).drop (z04 (bl ahead) (bl r.key))).toArray).size:Nat)++(bl (ByteArray.mk ((bl r.key).drop (z04 (bl ahead) (bl r.key))).toArray)++((if r.gone then [] else uI r.value.size++bl r.value)++t))))):=by
  rw [hd,zg1]
  unfold z4d z49
  simp only [List.append_assoc,List.cons_append]
 rw [e0]
 generalize hZ:(if r.gone then [] else uI r.value.size++bl r.value)++t=Z
 have e1:=zjy (lo := -1099511627776) (hi:=1099511627776) (n:=r.time-time) (by omega) (by omega) (by omega)
 have e3:=z5d (most:=1024) (n:=(z04 (bl ahead) (bl r.key):Nat)) (by omega) (by omega) (by omega)
 have e4:=zfl (most:=1024) (ByteArray.mk ((bl r.key).drop (z04 (bl ahead) (bl r.key))).toArray) (by rw [hd];omega) (by omega)
 unfold z3m
 simp only [e1,zr2,e3,e4,zsv]
 rw [if_neg (by omega)]
 have e5:(if r.gone=true then ((⟨#[]⟩:ByteArray),some Z) else z1q 1024 (some Z))=(r.value,some t):=by
  by_cases hg:r.gone=true
  ·rw [if_pos hg] at hZ ⊢
   rw [h4 hg,<- hZ];rfl
  ·rw [if_neg hg] at hZ ⊢
   rw [<- hZ,List.append_assoc]
   exact zfl _ h2 (by omega) t
 rw [e5]
 simp only [Option.isSome_some,true_and]
 rw [if_pos trivial,show time+(r.time-time)=r.time by omega]
theorem zsn {time:Int} {ahead:ByteArray} (hah:ahead.size<=1024) {s:Lf} {r:RecM} (h:(z3m time ahead s).1=some r):∃ t,(z3m time ahead s).2=some t/\s=some (z4d time ahead r++t):=by
 unfold z3m at h ⊢
 split at h
 ·cases h
 rename_i hc
 rw [if_neg hc]
 simp only at h ⊢
 generalize ha:z1r (-1099511627776) 1099511627776 s=a at *
 generalize hb:z4k a.2=b at *
 generalize hcc:z09 1024 b.2=c at *
 generalize hd:z1q 1024 c.2=d at *
 generalize he:(if b.1=true then ((⟨#[]⟩:ByteArray),d.2) else z1q 1024 d.2)=e at *
 split at h
 rotate_left
 ·cases h
 rename_i h5
 rw [if_pos h5]
 obtain ⟨h5,h6⟩:=h5
 obtain ⟨t,ht⟩:=Option.isSome_iff_exists.1 h5
 refine ⟨t,ht,?_⟩
 simp only [Option.some.injEq] at h
 have hd2:d.2=some ((if b.1=true then [] else uI e.1.size++bl e.1)++t):=by
  by_cases hg:b.1=true
  ·rw [if_pos hg] at he ⊢
   rw [<- he] at ht
   exact ht
  ·rw [if_neg hg] at he ⊢
   rw [<- he] at ht ⊢
   rw [List.append_assoc]
   exact (zhv ht).2
 rw [<- hd] at hd2
 have h7:=zhv hd2
 rw [hd] at h7
 have hc2:c.2=_:=h7.2
 rw [<- hcc] at hc2
 have h8:=z65 (by omega) hc2
 rw [hcc] at h8
 have hle:=z80 (bl ahead) (bl (z57 ahead c.1 d.1))
 have hb2:=h8.2 (by omega)
 rw [<- hb] at hb2
 have ha2:=zsi hb2
 rw [hb,<- ha] at ha2
 have h9:=zmk ha2
 rw [ha] at h9
 rw [h9.2,<- h]
 unfold z4d z49
 simp only
 have hn:c.1.toNat=z04 (bl ahead) (bl (z57 ahead c.1 d.1)):=by omega
 have hl1:((bl ahead).take c.1.toNat).length=c.1.toNat:=by rw [List.length_take,hn];omega
 have hdrop:(bl (z57 ahead c.1 d.1)).drop c.1.toNat=bl d.1:=by
  rw [znt]
  exact List.drop_left' hl1
 have hsz:(z57 ahead c.1 d.1).size-c.1.toNat=d.1.size:=by
  rw [<- z0z,<- z0z,<- hdrop,List.length_drop]
 rw [<- hn,hdrop,hsz,show time+a.1-time=a.1 by omega,show ((c.1.toNat:Nat):Int)=c.1 by omega]
 simp only [List.append_assoc,List.cons_append]
theorem zg6 {time:Int} (ht:0<=time/\time<=1099511627776):∀ {rs:List RecM} (hr:∀ r ∈ rs,z1x r=0) (ahead:ByteArray) (t:List UInt8),z4q time rs.length ahead (some (z27 time ahead rs++t))=some (rs,some t)
 | [],_,_,_=>rfl
 | r::rs,hr,ahead,t=>by
  have e:=zow ht (hr r (List.mem_cons_self ..)) ahead (z27 time r.key rs++t)
  show z4q time (rs.length+1) ahead (some ((z4d time ahead r++z27 time r.key rs)++t))=_
  rw [List.append_assoc]
  unfold z4q
  rw [e]
  simp only
  rw [zg6 ht (λx hx=>hr x (List.mem_cons_of_mem _ hx)) r.key t]
  rfl
theorem zhz {time:Int}:∀ {n:Nat} {ahead:ByteArray} (hah:ahead.size<=1024) {s:Lf} {rs:List RecM} {t:List UInt8} (hk:∀ r ∈ rs,r.key.size<=1024) (h:z4q time n ahead s=some (rs,some t)),rs.length=n/\s=some (z27 time ahead rs++t)
 | 0,ahead,hah,s,rs,t,hk,h=>by
  simp only [z4q,Option.some.injEq,Prod.mk.injEq] at h
  obtain ⟨rfl,rfl⟩:=h
  exact ⟨rfl,rfl⟩
 | n+1,ahead,hah,s,rs,t,hk,h=>by
  unfold z4q at h
  cases hx:(z3m time ahead s).1 with
  | none=>rw [hx] at h;cases h
  | some x =>
   rw [hx] at h
   simp only [Option.map_eq_some_iff,Prod.mk.injEq] at h
   obtain ⟨⟨rs',s'⟩,h1,rfl,rfl⟩:=h
   obtain ⟨t1,h2,h3⟩:=zsn hah hx
   rw [h2] at h1
   have hk1:x.key.size<=1024:=hk x (List.mem_cons_self ..)
   obtain ⟨h4,h5⟩:=zhz hk1 (λr hr=>hk r (List.mem_cons_of_mem _ hr)) h1
   simp only [Option.some.injEq] at h5
   refine ⟨by rw [List.length_cons,h4],?_⟩
   rw [h3,h5]
   show some (z4d time ahead x++(z27 time x.key rs'++t))=some ((z4d time ahead x++z27 time x.key rs')++t)
   rw [List.append_assoc]
def z7i:Sl:=⟨none,0,0⟩
structure HdS where
 k:Nat × Lf
 ba:Int × Lf
 pi:Int × Lf
 ep:Int × Lf
 sq:Int × Lf
 tm:Int × Lf
def z3g (k:Nat):Bool:=decide ((k:Int)=2) || decide ((k:Int)=3)
def hdS (s:Lf):HdS :=
 let k:=z12 s
 let ba:=z09 1099511627776 k.2
 let pi:=z09 1048576 ba.2
 let ep:=if pi.1>0 then z09 32767 pi.2 else (0,pi.2)
 let sq:=if pi.1>0/\z3g k.1=false then z09 2147483647 ep.2 else (0,ep.2)
 ⟨k,ba,pi,ep,sq,z09 1099511627776 sq.2⟩
def HdS.b (h:HdS) (rs:List RecM):BatM:=⟨h.ba.1,h.pi.1,h.ep.1,h.sq.1,h.k.1,h.tm.1,z7i,rs⟩
def zjg (h:HdS):Option BatM :=
 if h.tm.2.isSome=false\/h.tm.1>1099511627776 then none else
 if z3g h.k.1=true then (if h.tm.2=some []/\z02 (h.b [])=0 then some (h.b []) else none) else
 if (z09 64 h.tm.2).1>64 then none else
 match z4q h.tm.1 (z09 64 h.tm.2).1.toNat ⟨#[]⟩ (z09 64 h.tm.2).2 with
 | none=>none
 | some q=>if q.2=some []/\z02 (h.b q.1)=0 then some (h.b q.1) else none
def z5z (raw:List UInt8):Option BatM:=if (z12 (some raw)).1≠1 then none else zjg (hdS (z12 (some raw)).2)
theorem ziv:∀ {rs:List RecM},z43 rs=0->∀ r ∈ rs,z1x r=0
 | [],_,r,h=>by cases h
 | x::rs,h,r,hr=>by
  have h:(if z1x x≠0 then z1x x else z43 rs)=0:=h
  by_cases hx:z1x x≠0
  ·rw [if_pos hx] at h;exact absurd h hx
  rw [if_neg hx] at h
  rcases List.mem_cons.1 hr with rfl|hr
  ·exact Decidable.not_not.1 hx
  ·exact ziv h r hr
theorem z2l {b:BatM} (hv:z02 b=0):b.rs.length<=64/\∀ r ∈ b.rs,z1x r=0:=by
 unfold z02 at hv
 split at hv
 ·cases hv
 split at hv
 ·cases hv
 rename_i h2
 split at hv
 ·rename_i h3;exact absurd hv h3
 rename_i h3
 exact ⟨by omega,ziv (Decidable.not_not.1 h3)⟩
theorem znh {b:BatM} (h:0<=b.kind):z3g b.kind.toNat=z10 b:=by
 unfold z3g z10
 rw [Int.toNat_of_nonneg h]
theorem zv0 {b:BatM} (hv:z02 b=0):∃ s1 s2 s3 s4 s5,hdS (z12 (some (z24 b))).2=⟨(b.kind.toNat,s1),(b.base,s2),(b.pid,s3),(b.epoch,s4),(b.seq,s5),(b.time,some (if z10 b then [] else uI b.rs.length++z27 b.time ⟨#[]⟩ b.rs))⟩:=by
 obtain ⟨-,-,⟨hk,hba,hpi,hep,hsq,htm⟩,hfit,-⟩:=z1e b hv
 unfold z24
 generalize hY:(if z10 b then [] else uI b.rs.length++z27 b.time ⟨#[]⟩ b.rs)=Y
 have e1:∀ t,z12 (some (UInt8.ofNat b.kind.toNat::t))=(b.kind.toNat,some t):=λt=>by
  show ((UInt8.ofNat b.kind.toNat).toNat,some t)=_
  rw [UInt8.toNat_ofNat']
  congr 1
  omega
 have e2:=z5d (most:=1099511627776) (n:=b.base) hba.1 hba.2 (by omega)
 have e3:=z5d (most:=1048576) (n:=b.pid) hpi.1 hpi.2 (by omega)
 have e4:=z5d (most:=32767) (n:=b.epoch) hep.1 hep.2 (by omega)
 have e5:=z5d (most:=2147483647) (n:=b.seq) hsq.1 hsq.2 (by omega)
 have e6:=z5d (most:=1099511627776) (n:=b.time) htm.1 htm.2 (by omega)
 show ∃ s1 s2 s3 s4 s5,hdS (some (UInt8.ofNat b.kind.toNat::_))=_
 unfold hdS
 simp only [e1,e2,e3,znh hk.1]
 by_cases hp:b.pid>0
 ·rw [if_pos hp,if_pos hp]
  by_cases hm:z10 b=true
  ·have hs0:b.seq=0:=by have:=hfit.2;rw [if_pos hm] at this;exact this.1
   simp only [hm,if_true,Bool.true_eq_false,and_false,if_false,List.append_nil,List.append_assoc,e4,e6]
   exact ⟨_,_,_,_,_,by rw [hs0]⟩
  ·have hm:z10 b=false:=by simpa using hm
   simp only [hm,hp,Bool.false_eq_true,and_self,if_true,if_false,List.append_assoc,e4,e5,e6]
   exact ⟨_,_,_,_,_,rfl⟩
 ·have h0:b.pid=0:=by omega
  have hz:b.kind=0/\b.epoch=0/\b.seq=0:=by
   have:=hfit.1
   refine ⟨?_,?_,?_⟩ <;> (apply Decidable.byContradiction;intro h;apply this;simp [h0,h])
  rw [if_neg hp,if_neg hp,if_neg (λh=>hp h.1)]
  simp only [List.nil_append,e6]
  exact ⟨_,_,_,_,_,by rw [hz.2.1,hz.2.2]⟩
theorem zi4 {b:BatM} (hv:z02 b=0):z5z (z24 b)=some b.p:=by
 obtain ⟨s1,s2,s3,s4,s5,h⟩:=zv0 hv
 obtain ⟨-,-,⟨hk,hba,hpi,hep,hsq,htm⟩,hfit,-⟩:=z1e b hv
 obtain ⟨h64,hrs⟩:=z2l hv
 have hb:∀ rs,(HdS.mk (b.kind.toNat,s1) (b.base,s2) (b.pid,s3) (b.epoch,s4) (b.seq,s5) (b.time,some (if z10 b then [] else uI b.rs.length++z27 b.time ⟨#[]⟩ b.rs))).b rs={ b.p with rs:=rs }:=λrs=>by
  unfold HdS.b BatM.p
  simp only [Int.toNat_of_nonneg hk.1]
  rfl
 unfold z5z
 rw [h,if_neg (by show ¬ ((1:Nat)≠1);simp)]
 unfold zjg
 rw [if_neg (by simp only [Option.isSome_some];rintro (h|h);cases h;omega)]
 simp only [hb,znh hk.1]
 by_cases hm:z10 b=true
 ·have h0:b.rs=[]:=by have:=hfit.2;rw [if_pos hm] at this;exact List.length_eq_zero_iff.1 this.2
  rw [if_pos hm,if_pos hm]
  have e:{ b.p with rs:=[] }=b.p:=by rw [<- h0];rfl
  rw [e,if_pos ⟨rfl,hv⟩]
 ·have e1:=z5d (most:=64) (n:=(b.rs.length:Int)) (by omega) (by omega) (by omega) (z27 b.time ⟨#[]⟩ b.rs)
  have e2:=zg6 htm hrs ⟨#[]⟩ []
  rw [List.append_nil] at e2
  rw [if_neg hm,if_neg hm]
  simp only [e1,Int.toNat_natCast,e2]
  rw [if_neg (by omega),if_pos (by first|exact ⟨rfl,hv⟩|exact ⟨trivial,hv⟩)]
  rfl
theorem zn1 {s:Lf} {t:List UInt8} (h:(hdS s).tm.2=some t) (htm:(hdS s).tm.1<=1099511627776) {rs:List RecM} (hv:z02 ((hdS s).b rs)=0) :
  s=some (UInt8.ofNat ((hdS s).b rs).kind.toNat::(uI ((hdS s).b rs).base++(uI ((hdS s).b rs).pid++((if ((hdS s).b rs).pid>0 then uI ((hdS s).b rs).epoch++(if z10 ((hdS s).b rs) then [] else uI ((hdS s).b rs).seq) else [])++(uI ((hdS s).b rs).time++t))))):=by
 obtain ⟨-,-,⟨hk,hba,hpi,hep,hsq,-⟩,hfit,-⟩:=z1e _ hv
 unfold hdS at *
 unfold HdS.b at *
 simp only at *
 generalize e1:z12 s=k at *
 generalize e2:z09 1099511627776 k.2=ba at *
 generalize e3:z09 1048576 ba.2=pi at *
 generalize e4:(if pi.1>0 then z09 32767 pi.2 else (0,pi.2))=ep at *
 generalize e5:(if pi.1>0/\z3g k.1=false then z09 2147483647 ep.2 else (0,ep.2))=sq at *
 have hmk:z10 (⟨ba.1,pi.1,ep.1,sq.1,k.1,(z09 1099511627776 sq.2).1,z7i,rs⟩:BatM)=z3g k.1:=rfl
 have h6:=(z65 (by omega) h).2 htm
 have h5:ep.2=some ((if pi.1>0/\z3g k.1=false then uI sq.1 else [])++(uI (z09 1099511627776 sq.2).1++t)):=by
  generalize (z09 1099511627776 sq.2).1=tm at *
  by_cases hc:pi.1>0/\z3g k.1=false
  ·rw [if_pos hc] at e5 ⊢
   rw [<- e5] at h6 hsq ⊢
   exact (z65 (by omega) h6).2 hsq.2
  ·rw [if_neg hc] at e5 ⊢
   rw [<- e5] at h6
   exact h6
 generalize (z09 1099511627776 sq.2).1=tm at *
 have h4:pi.2=some ((if pi.1>0 then uI ep.1 else [])++((if pi.1>0/\z3g k.1=false then uI sq.1 else [])++(uI tm++t))):=by
  by_cases hc:pi.1>0
  ·rw [if_pos hc] at e4 ⊢
   rw [<- e4] at h5 hep ⊢
   exact (z65 (by omega) h5).2 hep.2
  ·rw [if_neg hc] at e4 ⊢
   rw [<- e4] at h5
   exact h5
 rw [<- e3] at h4 hpi
 have h3:=(z65 (by omega) h4).2 hpi.2
 rw [e3] at h3
 rw [<- e2] at h3 hba
 have h2:=(z65 (by omega) h3).2 hba.2
 rw [e2] at h2
 rw [<- e1] at h2
 have h1:=(zcq h2).2
 rw [e1] at h1
 have e:(if pi.1>0 then uI ep.1 else [])++((if pi.1>0/\z3g k.1=false then uI sq.1 else [])++(uI tm++t))=(if pi.1>0 then uI ep.1++(if z3g k.1 then [] else uI sq.1) else [])++(uI tm++t):=by
  by_cases hp:pi.1>0
  ·by_cases hm:z3g k.1=true
   ·simp [hp,hm]
   ·simp [hp,hm]
  ·simp [hp]
 rw [h1,hmk,Int.toNat_natCast,e]
theorem zkm {raw:List UInt8} {b:BatM} (h:z5z raw=some b):z02 b=0/\z24 b=raw/\b.p=b:=by
 unfold z5z at h
 split at h
 ·cases h
 rename_i h1
 have h1:(z12 (some raw)).1=1:=Decidable.not_not.1 h1
 generalize hs:(z12 (some raw)).2=s at h
 have hraw:∀ t,s=some t->raw=1::t:=λt ht=>by
  rw [<- hs] at ht
  have:=(zcq ht).2
  rw [h1] at this
  exact Option.some.inj this
 unfold zjg at h
 split at h
 ·cases h
 rename_i h2
 have h3:(hdS s).tm.2.isSome=true:=by
  cases he:(hdS s).tm.2.isSome with
  | true=>rfl
  | false=>exact absurd (.inl he) h2
 have h4:(hdS s).tm.1<=1099511627776:=by omega
 obtain ⟨t,ht⟩:=Option.isSome_iff_exists.1 h3
 split at h
 ·rename_i hm
  split at h
  rotate_left
  ·cases h
  rename_i h5
  simp only [Option.some.injEq] at h
  subst h
  refine ⟨h5.2,?_,rfl⟩
  have h6:=hraw _ (zn1 h5.1 h4 h5.2)
  rw [h6]
  have hm:z10 ((hdS s).b [])=true:=hm
  unfold z24
  rw [hm]
  rfl
 ·rename_i hm
  split at h
  ·cases h
  rename_i h7
  cases hr:z4q (hdS s).tm.1 (z09 64 (hdS s).tm.2).1.toNat ⟨#[]⟩ (z09 64 (hdS s).tm.2).2 with
  | none=>rw [hr] at h;cases h
  | some q =>
   rw [hr] at h
   simp only at h
   split at h
   rotate_left
   ·cases h
   rename_i h5
   simp only [Option.some.injEq] at h
   subst h
   refine ⟨h5.2,?_,rfl⟩
   obtain ⟨rs,q2⟩:=q
   obtain ⟨rfl,h5⟩:=h5
   have hrs:=(z2l h5).2
   obtain ⟨h8,h9⟩:=zhz (by decide) (λr hr=>(z3x (hrs r hr)).1) hr
   have h10:=z65 (by omega) h9
   have h11:=h10.2 (by omega)
   have h6:=hraw _ (zn1 h11 h4 h5)
   rw [h6]
   have hm:z10 ((hdS s).b rs)≠true:=hm
   unfold z24
   rw [if_neg hm,if_neg hm]
   have e:((hdS s).b rs).rs.length=(z09 64 (hdS s).tm.2).1:=by
    have h12:=h10.1
    have h13:rs.length=(z09 64 (hdS s).tm.2).1.toNat:=h8
    show ((rs.length:Nat):Int)=_
    rw [h13,Int.toNat_of_nonneg h12.1]
   rw [e,List.append_nil]
   rfl
abbrev polyB:BitVec 32:=0xEDB88320#32
def zer (s:BitVec 32):BitVec 32:=(s >>> 1) ^^^ (polyB &&& (0#32-(s &&& 1#32)))
def zew:Nat->BitVec 32->BitVec 32
 | 0,s=>s
 | k+1,s=>zer (zew k s)
def zh4 (s:BitVec 32) (c:UInt8):BitVec 32:=zew 8 (s ^^^ BitVec.ofNat 32 c.toNat)
def z3w (s:BitVec 32) (bs:List UInt8):BitVec 32:=bs.foldl zh4 s
def zip (x:BitVec 32) (bs:List UInt8):BitVec 32 := ~~~ (z3w (~~~ x) bs)
def z69 (bs:List UInt8):Nat:=(zip 0#32 bs).toNat
def z26 (n:Nat):List UInt8:=[UInt8.ofNat n,UInt8.ofNat (n / 256),UInt8.ofNat (n / 65536),UInt8.ofNat (n / 16777216)]
def z0r:List UInt8->Nat
 | a::b::c::d::_=>a.toNat+256*b.toNat+65536*c.toNat+16777216*d.toNat
 | _=>0
def z25 (bs:List UInt8):List UInt8:=z26 bs.length++bs
def z29 (bs:List UInt8):List UInt8:=if bs.length>262144 then [] else z25 bs++z26 (z69 (z25 bs))
def z18 (b:List UInt8):Option (List UInt8 × Nat) :=
 if b.length<8\/z0r b>262144\/z0r b+8>b.length then none else if z0r (b.drop (z0r b+4))=z69 (b.take (z0r b+4)) then some ((b.drop 4).take (z0r b),z0r b+8) else none
def z68 (s:BitVec 32) (b:Bool):BitVec 32:=(s >>> 1) ^^^ (if (s.getLsbD 0 != b)=true then polyB else 0#32)
def z95 (c:BitVec 32):Nat->BitVec 32->BitVec 32
 | 0,s=>s
 | k+1,s=>z68 (z95 c k s) (c.getLsbD k)
theorem zyi (x:BitVec 32):x &&& 1#32=if x.getLsbD 0=true then 1#32 else 0#32:=by
 apply BitVec.eq_of_getLsbD_eq
 intro i hi
 rw [BitVec.getLsbD_and,BitVec.getLsbD_one]
 by_cases h0:i=0
 ·subst h0
  by_cases hx:x.getLsbD 0=true
  ·rw [if_pos hx,hx];rfl
  ·have hx':x.getLsbD 0=false:=by cases h:x.getLsbD 0 with
    | false=>rfl
    | true=>exact absurd h hx
   rw [if_neg hx,hx'];rfl
 ·have:(decide (i=0))=false:=decide_eq_false h0
  by_cases hx:x.getLsbD 0=true
  ·rw [if_pos hx];simp [h0]
  ·rw [if_neg hx];simp [h0]
theorem zy2 (x:BitVec 32):zer x=(x >>> 1) ^^^ (if x.getLsbD 0=true then polyB else 0#32):=by
 unfold zer
 rw [zyi]
 by_cases hx:x.getLsbD 0=true
 ·rw [if_pos hx,if_pos hx];rfl
 ·rw [if_neg hx,if_neg hx];rfl
theorem zup (r c:BitVec 32):zer (r ^^^ c)=z68 r (c.getLsbD 0) ^^^ (c >>> 1):=by
 rw [zy2,BitVec.ushiftRight_xor_distrib,BitVec.getLsbD_xor]
 unfold z68
 have:((r.getLsbD 0 ^^ c.getLsbD 0)=true)=((r.getLsbD 0 != c.getLsbD 0)=true):=by cases r.getLsbD 0 <;> cases c.getLsbD 0 <;> rfl
 simp only [this]
 rw [BitVec.xor_assoc,BitVec.xor_comm (c >>> 1),<- BitVec.xor_assoc]
theorem zpf (c:BitVec 32) (k:Nat):(c >>> k) >>> 1=c >>> (k+1):=by rw [BitVec.shiftRight_add]
theorem zju (r c:BitVec 32):∀ k,zew k (r ^^^ c)=z95 c k r ^^^ (c >>> k)
 | 0=>by simp [zew,z95]
 | k+1=>by
  show zer (zew k (r ^^^ c))=z68 (z95 c k r) (c.getLsbD k) ^^^ _
  rw [zju r c k,zup,zpf]
  congr 2
theorem ztl (s:BitVec 32) (c:UInt8):zh4 s c=z95 (BitVec.ofNat 32 c.toNat) 8 s:=by
 unfold zh4
 rw [zju]
 have:BitVec.ofNat 32 c.toNat >>> 8=0#32:=by
  apply BitVec.eq_of_toNat_eq
  rw [BitVec.toNat_ushiftRight,BitVec.toNat_ofNat,Nat.shiftRight_eq_div_pow]
  have:=c.toNat_lt
  rw [Nat.mod_eq_of_lt (by omega)]
  show c.toNat / 2 ^ 8=0
  omega
 rw [this];simp
theorem zs8 (a b c d:UInt8) (r:List UInt8):z0r (a::b::c::d::r)=a.toNat+256*b.toNat+65536*c.toNat+16777216*d.toNat:=rfl
theorem zjt {n:Nat} (h:n<4294967296) (r:List UInt8):z0r (z26 n++r)=n:=by
 unfold z26 z0r
 simp
 omega
theorem zel:∀ (b:List UInt8),4<=b.length->z26 (z0r b)=b.take 4/\z0r b<4294967296
 | a::b::c::d::r,_=>by
  have h1:=a.toNat_lt
  have h2:=b.toNat_lt
  have h3:=c.toNat_lt
  have h4:=d.toNat_lt
  rw [zs8]
  refine ⟨?_,by omega⟩
  have e:∀ (x:UInt8) (n:Nat),n % 256=x.toNat->UInt8.ofNat n=x:=λx n h=>by
   apply UInt8.toNat_inj.1
   simp [h]
  unfold z26
  rw [e a _ (by omega),e b _ (by omega),e c _ (by omega),e d _ (by omega)]
  rfl
theorem z3q (n:Nat):(z26 n).length=4:=rfl
theorem zh1 (bs:List UInt8):z69 bs<4294967296:=(zip 0#32 bs).isLt
theorem z6d {bs:List UInt8} (h:bs.length<=262144) (r:List UInt8):z18 (z29 bs++r)=some (bs,bs.length+8):=by
 have hs:=zh1 (z25 bs)
 have hl:(z25 bs).length=bs.length+4:=by unfold z25;rw [List.length_append,z3q];omega
 have e0:z29 bs++r=z25 bs++(z26 (z69 (z25 bs))++r):=by unfold z29;rw [if_neg (by omega),List.append_assoc]
 have e1:z0r (z29 bs++r)=bs.length:=by
  rw [e0];unfold z25;rw [List.append_assoc];exact zjt (by omega) _
 have e2:(z29 bs++r).length=bs.length+8+r.length:=by
  rw [e0,List.length_append,List.length_append,hl,z3q];omega
 unfold z18
 rw [e1,e2,if_neg (by omega),e0,<- hl,List.drop_left,List.take_left,zjt hs,if_pos rfl]
 congr 2
 unfold z25
 rw [List.append_assoc,show (4:Nat)=(z26 bs.length).length from rfl,List.drop_left,List.take_left]
theorem z61 {b body:List UInt8} {n:Nat} (h:z18 b=some (body,n)):n=body.length+8/\n<=b.length/\body.length<=262144/\b.take n=z29 body:=by
 unfold z18 at h
 split at h
 ·cases h
 rename_i h1
 split at h
 ·rename_i h2
  simp only [Option.some.injEq,Prod.mk.injEq] at h
  obtain ⟨rfl,rfl⟩:=h
  have hbl:((b.drop 4).take (z0r b)).length=z0r b:=by rw [List.length_take,List.length_drop];omega
  refine ⟨by rw [hbl],by omega,by rw [hbl];omega,?_⟩
  have hh:z25 ((b.drop 4).take (z0r b))=b.take (z0r b+4):=by
   unfold z25
   rw [hbl,(zel b (by omega)).1,Nat.add_comm,List.take_add]
  unfold z29
  rw [if_neg (by rw [hbl];omega),hh,<- h2,(zel (b.drop (z0r b+4)) (by rw [List.length_drop];omega)).1,show z0r b+8=(z0r b+4)+4 from rfl,List.take_add]
 ·cases h
theorem ztj (b:List UInt8):z18 b=if b.length<8\/z0r b>262144\/z0r b+8>b.length then none else if z29 ((b.drop 4).take (z0r b))=b.take (z0r b+8) then some ((b.drop 4).take (z0r b),z0r b+8) else none:=by
 by_cases h1:b.length<8\/z0r b>262144\/z0r b+8>b.length
 ·unfold z18;rw [if_pos h1,if_pos h1]
 rw [if_neg h1]
 by_cases h2:z29 ((b.drop 4).take (z0r b))=b.take (z0r b+8)
 ·rw [if_pos h2]
  have hbl:((b.drop 4).take (z0r b)).length=z0r b:=by rw [List.length_take,List.length_drop];omega
  have h3:=z6d (bs:=(b.drop 4).take (z0r b)) (by rw [hbl];omega) (b.drop (z0r b+8))
  rw [h2,List.take_append_drop,hbl] at h3
  exact h3
 ·rw [if_neg h2]
  cases hf:z18 b with
  | none=>rfl
  | some q =>
   obtain ⟨g1,g2,g3,g4⟩:=z61 (body:=q.1) (n:=q.2) hf
   unfold z18 at hf
   rw [if_neg h1] at hf
   split at hf
   ·simp only [Option.some.injEq] at hf
    subst hf
    exact absurd g4.symm h2
   ·cases hf
def shB (base fin:Int):List UInt8:=83::(uI base++uI fin)
def shL (base fin:Int):List UInt8:=z29 (shB base fin)
def frL (b:BatM):List UInt8:=z29 (z24 b)
structure SegA where
 base:Int
 fin:Int
 bs:List BatM
def SegA.file (s:SegA):List UInt8:=shL s.base s.fin++s.bs.flatMap frL
def z0c (bs:List BatM):Int:=match bs.getLast? with
 | none=>0
 | some b=>b.base+z01 b
def SegA.reach (s:SegA):Int:=max (max s.base s.fin) (z0c s.bs)
def z5q (x:Int) (rs:List RecM):Int:=rs.foldl (λt r=>max t r.time) x
def z3k (b:BatM):Int:=if b.rs=[] then b.time else z5q (-1) b.rs
def z1i (x:Int) (bs:List BatM):Int:=bs.foldl (λt b=>max t (z3k b)) x
def zr (l:List SegA):Int:=match l.getLast? with
 | none=>0
 | some s=>s.reach
def zl (l:List SegA):Int:=match l with
 | []=>0
 | s::_=>s.base
def z1y:Int->List BatM->Prop
 | _,[]=>True
 | n,b::bs=>z02 b=0/\b.p=b/\n<=b.base/\z1y (b.base+z01 b) bs
structure SegOk (s:SegA):Prop where
 base:0<=s.base/\s.base<=1099511627776
 fin:s.fin=0\/(s.base<s.fin/\s.fin<=1099511627776)
 bs:z1y s.base s.bs
def z0b:Int->List SegA->Prop
 | _,[]=>True
 | n,s::r=>n<=s.base/\SegOk s/\z0b (max s.reach (s.base+1)) r
def z5s (base:Int) (body:List UInt8):Option Int :=
 let a:=z12 (some body)
 let b:=z0v a.2
 let c:=z0v b.2
 if c.2=some []/\a.1=83/\(b.1:Int)=base/\base<=1099511627776/\c.1<=1099511627776/\(c.1=0\/base<c.1) then some c.1 else none
def z2n:Nat->Int->List UInt8->List BatM × Nat
 | 0,_,_=>([],0)
 | k+1,n,raw=>match z18 raw with
  | none=>([],0)
  | some (body,m)=>match z5z body with
   | none=>([],0)
   | some b=>if b.base<n then ([],0) else (b::(z2n k (b.base+z01 b) (raw.drop m)).1,m+(z2n k (b.base+z01 b) (raw.drop m)).2)
def z4r (base:Int) (raw:List UInt8):Option (SegA × Nat):=match z18 raw with
 | none=>none
 | some (body,m)=>match z5s base body with
  | none=>none
  | some fin=>some (⟨base,fin,(z2n raw.length base (raw.drop m)).1⟩,m+(z2n raw.length base (raw.drop m)).2)
theorem z7s {bs:List UInt8} (h:bs.length<=262144):(z29 bs).length=bs.length+8:=by
 unfold z29
 rw [if_neg (by omega),List.length_append,z3q]
 show (z26 _++_).length+4=_
 rw [List.length_append,z3q]
 omega
theorem zai (base fin:Int):3<=(shB base fin).length/\(shB base fin).length<=21:=by
 have h1:=z16 base
 have h2:=z16 fin
 unfold shB
 rw [List.length_cons,List.length_append]
 omega
theorem z5k (base fin:Int):11<=(shL base fin).length/\(shL base fin).length<=29:=by
 have h:=zai base fin
 unfold shL
 rw [z7s (by omega)]
 omega
theorem zvr {time:Int} {ahead:ByteArray} {r:RecM}:(z4d time ahead r).length<=31+r.key.size+10+r.value.size:=by
 unfold z4d z49
 have h1:=zc7 (r.time-time)
 have h2:=z16 ((z04 (bl ahead) (bl r.key):Nat):Int)
 have h3:=z16 (((r.key.size-z04 (bl ahead) (bl r.key):Nat)):Int)
 have h4:=z16 (r.value.size:Int)
 have h5:=z0z r.key
 have h6:=z0z r.value
 simp only [List.length_append,List.length_cons,List.length_drop]
 split
 ·simp only [List.length_nil];omega
 ·simp only [List.length_append];omega
theorem zbp {time:Int} {n:Nat}:∀ {rs:List RecM} {ahead:ByteArray},(∀ r ∈ rs,r.key.size+r.value.size<=n)->(z27 time ahead rs).length<=rs.length*(41+n)
 | [],_,_=>by simp [z27]
 | r::rs,ahead,h=>by
  have h1:=zvr (time:=time) (ahead:=ahead) (r:=r)
  have h2:=zbp (time:=time) (n:=n) (rs:=rs) (ahead:=r.key) λx hx=>h x (List.mem_cons_of_mem _ hx)
  have h3:=h r (List.mem_cons_self ..)
  unfold z27
  rw [List.length_append,List.length_cons,Nat.add_mul]
  omega
theorem znp {b:BatM} {n:Nat} (h:∀ r ∈ b.rs,r.key.size+r.value.size<=n):2<=(z24 b).length/\(z24 b).length<=62+b.rs.length*(41+n):=by
 have h1:=z16 b.base
 have h2:=z16 b.pid
 have h3:=z16 b.epoch
 have h4:=z16 b.seq
 have h5:=z16 b.time
 have h6:=z16 (b.rs.length:Nat)
 have h7:=zbp (time:=b.time) (ahead:=⟨#[]⟩) h
 unfold z24
 simp only [List.length_cons,List.length_append]
 split <;> split <;> simp only [List.length_nil,List.length_append] <;> omega
theorem z45 {b:BatM} (hv:z02 b=0):2<=(z24 b).length/\(z24 b).length<=262144:=by
 obtain ⟨h64,hrs⟩:=z2l hv
 have h:=znp (b:=b) (n:=2048) λr hr=>by
  obtain ⟨h1,h2,-⟩:=z3x (hrs r hr)
  omega
 have:b.rs.length*(41+2048)<=64*(41+2048):=Nat.mul_le_mul_right _ h64
 omega
theorem z3p {b:BatM} (hv:z02 b=0):10<=(frL b).length/\(frL b).length=(z24 b).length+8:=by
 have h:=z45 hv
 unfold frL
 rw [z7s h.2]
 omega
theorem zqo {base fin:Int} (hb:0<=base/\base<=1099511627776) (hf:fin=0\/(base<fin/\fin<=1099511627776)):z5s base (shB base fin)=some fin:=by
 unfold z5s shB
 have e1:z12 (some (83::(uI base++uI fin)))=(83,some (uI base++uI fin)):=rfl
 have e2:z0v (some (uI base++uI fin))=(base.toNat,some (uI fin)):=z7f (by omega) _
 have e3:z0v (some (uI fin))=(fin.toNat,some []):=by
  have:=z7f (v:=fin.toNat) (by omega) []
  rwa [List.append_nil] at this
 simp only [e1,e2,e3]
 rw [if_pos ⟨trivial,trivial,by omega,by omega,by omega,by omega⟩]
 congr 1
 omega
theorem zik {base fin:Int} {body:List UInt8} (h:z5s base body=some fin):(0<=base/\base<=1099511627776)/\(fin=0\/(base<fin/\fin<=1099511627776))/\body=shB base fin:=by
 unfold z5s at h
 simp only at h
 split at h
 rotate_left
 ·cases h
 rename_i hc
 obtain ⟨h1,h2,h3,h4,h5,h6⟩:=hc
 simp only [Option.some.injEq] at h
 have i1:=z70 h1
 have i2:=z70 i1.2
 have i3:=zcq i2.2
 refine ⟨by omega,by omega,?_⟩
 have e:=i3.2
 rw [h2] at e
 simp only [Option.some.injEq] at e
 rw [e]
 unfold shB uI
 have e1:base.toNat=(z0v (z12 (some body)).2).1:=by omega
 have e2:fin.toNat=(z0v (z0v (z12 (some body)).2).2).1:=by omega
 rw [e1,e2,List.append_nil]
 rfl
theorem z1y.mono {m n:Int} {bs:List BatM} (h:z1y n bs) (hm:m<=n):z1y m bs:=by
 cases bs with
 | nil=>trivial
 | cons b bs=>exact ⟨h.1,h.2.1,by have:=h.2.2.1;omega,h.2.2.2⟩
theorem z1y.valid:∀ {n:Int} {bs:List BatM},z1y n bs->∀ b ∈ bs,z02 b=0/\b.p=b
 | _,b::bs,h,x,hx=>by
  rcases List.mem_cons.1 hx with rfl|hx
  ·exact ⟨h.1,h.2.1⟩
  ·exact h.2.2.2.valid x hx
theorem zih:z18 []=none:=by
 rw [ztj,if_pos (by simp)]
theorem zdf {bs r:List UInt8} (h:bs.length<=262144) {k:Nat} (hk:k<bs.length+8):z18 ((z29 bs++r).take k)=none:=by
 cases hf:z18 ((z29 bs++r).take k) with
 | none=>rfl
 | some q =>
  exfalso
  obtain ⟨body,n⟩:=q
  obtain ⟨h1,h2,h3,h4⟩:=z61 hf
  rw [List.length_take] at h2
  have e1:((z29 bs++r).take k).take n=(z29 bs++r).take n:=by rw [List.take_take,Nat.min_eq_left (by omega)]
  rw [e1] at h4
  have e2:=z6d h3 ((z29 bs++r).drop n)
  rw [<- h4,List.take_append_drop,z6d h] at e2
  simp only [Option.some.injEq,Prod.mk.injEq] at e2
  omega
theorem zfp:∀ {bs:List BatM} {n:Int} {k:Nat} {rest:List UInt8},z1y n bs->bs.length<=k->z18 rest=none->z2n k n (bs.flatMap frL++rest)=(bs,(bs.flatMap frL).length)
 | [],n,0,rest,_,_,_=>rfl
 | [],n,k+1,rest,_,_,hr=>by
  unfold z2n
  rw [List.flatMap_nil,List.nil_append,hr]
  rfl
 | b::bs,n,0,rest,_,hk,_=>by simp at hk
 | b::bs,n,k+1,rest,⟨hv,hp,hn,ho⟩,hk,hr=>by
  have hl:=z45 hv
  have hf:=z3p hv
  unfold z2n
  rw [List.flatMap_cons,List.append_assoc]
  have e:z18 (frL b++(bs.flatMap frL++rest))=some (z24 b,(z24 b).length+8):=z6d hl.2 _
  rw [e]
  simp only
  rw [zi4 hv]
  simp only
  rw [hp,if_neg (by omega),<- hf.2,List.drop_left,zfp ho (by simpa using hk) hr,List.length_append]
theorem zi1:∀ {k:Nat} {n:Int} {raw:List UInt8},z1y n (z2n k n raw).1/\raw.take (z2n k n raw).2=(z2n k n raw).1.flatMap frL/\(z2n k n raw).2<=raw.length
 | 0,n,raw=>⟨trivial,by simp [z2n],Nat.zero_le _⟩
 | k+1,n,raw=>by
  unfold z2n
  cases hf:z18 raw with
  | none=>exact ⟨trivial,by simp,Nat.zero_le _⟩
  | some q =>
   obtain ⟨body,m⟩:=q
   simp only
   cases hd:z5z body with
   | none=>exact ⟨trivial,by simp,Nat.zero_le _⟩
   | some b =>
    simp only
    by_cases hb:b.base<n
    ·rw [if_pos hb];exact ⟨trivial,by simp,Nat.zero_le _⟩
    rw [if_neg hb]
    obtain ⟨i1,i2,i3⟩:=zi1 (k:=k) (n:=b.base+z01 b) (raw:=raw.drop m)
    obtain ⟨d1,d2,d3⟩:=zkm hd
    obtain ⟨f1,f2,f3,f4⟩:=z61 hf
    rw [List.length_drop] at i3
    refine ⟨⟨d1,d3,by omega,i1⟩,?_,by simp only;omega⟩
    simp only
    rw [List.take_add,f4,i2,List.flatMap_cons,<- d2]
    rfl
theorem z93:∀ {n:Int} {bs:List BatM},z1y n bs->bs.length*10<=(bs.flatMap frL).length
 | _,[],_=>by simp
 | _,b::bs,⟨h1,_,_,h⟩=>by
  have:=z93 h
  have:=z3p h1
  rw [List.flatMap_cons,List.length_append,List.length_cons]
  omega
theorem z2a (s:SegA):s.file.length=(shL s.base s.fin).length+(s.bs.flatMap frL).length:=by
 unfold SegA.file
 rw [List.length_append]
theorem zhk {s:SegA} (h:SegOk s) {rest:List UInt8} (hr:z18 rest=none):z4r s.base (s.file++rest)=some (s,s.file.length):=by
 have hl:=zai s.base s.fin
 unfold z4r
 have e0:s.file++rest=z29 (shB s.base s.fin)++(s.bs.flatMap frL++rest):=by
  unfold SegA.file shL
  rw [List.append_assoc]
 have e:z18 (s.file++rest)=some (shB s.base s.fin,(shB s.base s.fin).length+8):=by
  rw [e0]
  exact z6d (by omega) _
 rw [e]
 simp only
 rw [zqo h.base h.fin]
 simp only
 have e2:(s.file++rest).drop ((shB s.base s.fin).length+8)=s.bs.flatMap frL++rest:=by
  rw [e0,<- z7s (show (shB s.base s.fin).length<=262144 by omega),List.drop_left]
 have e3:s.bs.length<=(s.file++rest).length:=by
  have:=z93 h.bs
  rw [List.length_append,z2a]
  omega
 rw [e2,zfp h.bs e3 hr,z2a]
 unfold shL
 rw [z7s (by omega)]
theorem zib {s:SegA} (h:SegOk s):z4r s.base s.file=some (s,s.file.length):=by
 have:=zhk h zih
 rwa [List.append_nil] at this
theorem ziz {base:Int} {raw:List UInt8} {s:SegA} {m:Nat} (h:z4r base raw=some (s,m)):SegOk s/\s.base=base/\raw.take m=s.file/\m<=raw.length/\m=s.file.length:=by
 unfold z4r at h
 cases hf:z18 raw with
 | none=>rw [hf] at h;cases h
 | some q =>
  obtain ⟨body,k⟩:=q
  rw [hf] at h
  simp only at h
  cases hh:z5s base body with
  | none=>rw [hh] at h;cases h
  | some fin =>
   rw [hh] at h
   simp only [Option.some.injEq,Prod.mk.injEq] at h
   obtain ⟨rfl,rfl⟩:=h
   obtain ⟨h1,h2,h3⟩:=zik hh
   obtain ⟨i1,i2,i3⟩:=zi1 (k:=raw.length) (n:=base) (raw:=raw.drop k)
   obtain ⟨f1,f2,f3,f4⟩:=z61 hf
   rw [List.length_drop] at i3
   have e:raw.take (k+(z2n raw.length base (raw.drop k)).2)=SegA.file ⟨base,fin,(z2n raw.length base (raw.drop k)).1⟩:=by
    rw [List.take_add,f4,i2,h3]
    rfl
   refine ⟨⟨h1,h2,i1⟩,rfl,e,by omega,?_⟩
   rw [<- e,List.length_take]
   omega
theorem z1y.take:∀ {n:Int} {bs:List BatM} (k:Nat),z1y n bs->z1y n (bs.take k)
 | _,[],k,_=>by simp [z1y]
 | _,b::bs,0,_=>trivial
 | _,b::bs,k+1,⟨h1,h2,h3,h4⟩=>⟨h1,h2,h3,h4.take k⟩
theorem zk7:∀ {n:Int} {bs:List BatM} (k:Nat),z1y n bs->∃ j rest,j<=bs.length/\(bs.flatMap frL).take k=(bs.take j).flatMap frL++rest/\z18 rest=none/\∀ m,m<=bs.length->((bs.take m).flatMap frL).length<=k->m<=j
 | _,[],k,_=>⟨0,[],by simp,by simp,zih,λm hm _=>hm⟩
 | n,b::bs,k,⟨h1,h2,h3,h4⟩=>by
  have hl:=z45 h1
  have hf:=z3p h1
  by_cases hk:k<(frL b).length
  ·refine ⟨0,(frL b++bs.flatMap frL).take k,by omega,by simp,zdf hl.2 (by omega),λm hm h=>?_⟩
   cases m with
   | zero=>omega
   | succ m =>
    rw [List.take_succ_cons,List.flatMap_cons,List.length_append] at h
    omega
  ·obtain ⟨j,rest,i1,i2,i3,i4⟩:=zk7 (k-(frL b).length) h4
   refine ⟨j+1,rest,by simp;omega,?_,i3,λm hm h=>?_⟩
   ·rw [List.flatMap_cons,List.take_append,List.take_of_length_le (by omega),i2,List.take_succ_cons,List.flatMap_cons,List.append_assoc]
   ·cases m with
    | zero=>omega
    | succ m =>
     rw [List.take_succ_cons,List.flatMap_cons,List.length_append] at h
     have:=i4 m (by simpa using hm) (by omega)
     omega
def SegA.cut (s:SegA) (j:Nat):SegA:=⟨s.base,s.fin,s.bs.take j⟩
theorem SegOk.cut {s:SegA} (h:SegOk s) (j:Nat):SegOk (s.cut j):=⟨h.base,h.fin,h.bs.take j⟩
theorem zub {s:SegA} (h:SegOk s) (k:Nat):(k<(shL s.base s.fin).length/\z4r s.base (s.file.take k)=none) \/
  ∃ j,j<=s.bs.length/\(s.cut j).file.length<=k/\z4r s.base (s.file.take k)=some (s.cut j,(s.cut j).file.length)/\∀ m,m<=s.bs.length->(s.cut m).file.length<=k->m<=j:=by
 have hl:=zai s.base s.fin
 have hsl:(shL s.base s.fin).length=(shB s.base s.fin).length+8:=z7s (by omega)
 by_cases hk:k<(shL s.base s.fin).length
 ·left
  refine ⟨hk,?_⟩
  unfold z4r
  have e:z18 (s.file.take k)=none:=zdf (by omega) (by omega)
  rw [e]
 ·right
  obtain ⟨j,rest,i1,i2,i3,i4⟩:=zk7 (k-(shL s.base s.fin).length) h.bs
  have e:s.file.take k=(s.cut j).file++rest:=by
   unfold SegA.file SegA.cut
   rw [List.take_append,List.take_of_length_le (by omega),i2,List.append_assoc]
  refine ⟨j,i1,?_,by rw [e];exact zhk (h.cut j) i3,λm hm h2=>i4 m hm ?_⟩
  ·have:=congrArg List.length e
   rw [List.length_take,List.length_append] at this
   omega
  ·rw [z2a] at h2
   have:(s.cut m).bs=s.bs.take m:=rfl
   rw [this] at h2
   have:(shL (s.cut m).base (s.cut m).fin).length=(shL s.base s.fin).length:=rfl
   omega
theorem z1l {α:Type} (l:List α) (x:α):(l++[x]).getLast? = some x:=by simp
theorem z35 (bs:List BatM) (b:BatM):z0c (bs++[b])=b.base+z01 b:=by
 unfold z0c
 rw [z1l]
theorem zfz (x:Int) (bs:List BatM) (b:BatM):z1i x (bs++[b])=max (z1i x bs) (z3k b):=by
 unfold z1i
 rw [List.foldl_append]
 rfl
theorem z1y.next:∀ {n:Int} {bs:List BatM},0<=n->z1y n bs->(bs≠[]->n<z0c bs)/\(bs=[]->z0c bs=0)/\z0c bs<=1099511627777
 | _,[],_,_=>⟨λh=>absurd rfl h,λ_=>rfl,by decide⟩
 | n,b::bs,hn,⟨h1,h2,h3,h4⟩=>by
  obtain ⟨s1,-,⟨-,hba,-⟩,-,s2⟩:=z1e b h1
  obtain ⟨i1,i2,i3⟩:=h4.next (by omega)
  by_cases hb:bs=[]
  ·subst hb
   have e:z0c [b]=b.base+z01 b:=z35 [] b
   rw [e]
   exact ⟨λ_=>by omega,(λh=>by cases h),by omega⟩
  ·have e:z0c (b::bs)=z0c bs:=by
    unfold z0c
    cases bs with
    | nil=>exact absurd rfl hb
    | cons c cs=>rfl
   rw [e]
   have:=i1 hb
   exact ⟨λ_=>by omega,(λh=>by cases h),i3⟩
theorem z1y.snoc:∀ {n:Int} {bs:List BatM} {b:BatM},0<=n->z1y n bs->z02 b=0->b.p=b->n<=b.base->z0c bs<=b.base->z1y n (bs++[b])
 | n,[],b,_,_,hv,hp,hn,_=>⟨hv,hp,hn,trivial⟩
 | n,a::bs,b,h0,⟨h1,h2,h3,h4⟩,hv,hp,hn,hx=>by
  obtain ⟨s1,-,⟨-,hba,-⟩,-,s2⟩:=z1e a h1
  refine ⟨h1,h2,h3,?_⟩
  have i:=h4.next (by omega)
  by_cases hb:bs=[]
  ·subst hb
   have e:z0c [a]=a.base+z01 a:=z35 [] a
   exact z1y.snoc (by omega) h4 hv hp (by omega) (by rw [i.2.1 rfl];omega)
  ·have e:z0c (a::bs)=z0c bs:=by
    unfold z0c
    cases bs with
    | nil=>exact absurd rfl hb
    | cons c cs=>rfl
   rw [e] at hx
   have:=i.1 hb
   exact z1y.snoc (by omega) h4 hv hp (by omega) hx
theorem z5f {s:SegA} (h:SegOk s):s.base<=s.reach/\s.fin<=s.reach/\z0c s.bs<=s.reach/\s.reach<=1099511627777/\(s.bs≠[]->s.base<z0c s.bs):=by
 obtain ⟨i1,i2,i3⟩:=h.bs.next h.base.1
 have h1:=h.base
 have h2:=h.fin
 unfold SegA.reach
 refine ⟨by omega,by omega,by omega,by omega,i1⟩
structure EntA where
 offset:Int
 place:Int
 before:Int
structure IdxA where
 offset:Int
 place:Int
 late:Int
 gap:Int
 l:List EntA
def zcs (gap:Int):IdxA:=⟨-1,-1,-1,gap,[]⟩
def zay (o p t:Int):Prop:=(0<=o/\o<=1099511627776)/\(0<=p/\p<=4194304)/\(0<=t/\t<=1099511627776)
instance (o p t:Int):Decidable (zay o p t):=by unfold zay;infer_instance
def zve (x:IdxA) (p:Int):Bool:=match x.l.getLast? with
 | none=>true
 | some e=>decide (p-e.place>=x.gap)
def z4s (x:IdxA) (o p:Int):List EntA:=if zve x p then x.l++[⟨o,p,x.late⟩] else x.l
def z9u (x:IdxA) (o p t:Int):Int × IdxA:=if ¬ zay o p t then (2,x) else if o<=x.offset\/p<=x.place then (21,x) else (0,⟨o,p,max x.late t,x.gap,z4s x o p⟩)
def zbf:IdxA->Int->List BatM->IdxA
 | x,_,[]=>x
 | x,q,b::bs=>zbf (z9u x b.base q (z3k b)).2 (q+(frL b).length) bs
def SegA.idx (gap:Int) (s:SegA):IdxA:=zbf (zcs gap) (shL s.base s.fin).length s.bs
def z3h (l:List EntA) (o:Int):Option EntA:=(l.filter λe=>decide (e.offset<=o)).getLast?
theorem zbs:∀ (bs:List BatM) (x:IdxA) (q:Int) (b:BatM),zbf x q (bs++[b])=(z9u (zbf x q bs) b.base (q+(bs.flatMap frL).length) (z3k b)).2
 | [],x,q,b=>by simp [zbf]
 | a::bs,x,q,b=>by
  show zbf (z9u x a.base q (z3k a)).2 (q+(frL a).length) (bs++[b])=_
  rw [zbs bs]
  rw [show q+((frL a).length:Int)+((bs.flatMap frL).length:Nat)=q+(((a::bs).flatMap frL).length:Nat) by rw [List.flatMap_cons,List.length_append];omega]
  rfl
theorem zjw:∀ {rs:List RecM} {x:Int},x<=z5q x rs/\∀ r ∈ rs,r.time<=z5q x rs
 | [],x=>⟨Int.le_refl _,λ_ h=>by cases h⟩
 | r::rs,x=>by
  have h:=zjw (rs:=rs) (x:=max x r.time)
  have e:z5q x (r::rs)=z5q (max x r.time) rs:=rfl
  rw [e]
  refine ⟨by omega,λy hy=>?_⟩
  rcases List.mem_cons.1 hy with rfl|hy
  ·omega
  ·exact h.2 y hy
theorem zi2:∀ {rs:List RecM} {x m:Int},x<=m->(∀ r ∈ rs,r.time<=m)->z5q x rs<=m
 | [],x,m,h,_=>h
 | r::rs,x,m,h,hr=>by
  have e:z5q x (r::rs)=z5q (max x r.time) rs:=rfl
  rw [e]
  have:=hr r (List.mem_cons_self ..)
  exact zi2 (by omega) λy hy=>hr y (List.mem_cons_of_mem _ hy)
theorem zua {b:BatM} (h:z02 b=0):0<=z3k b/\z3k b<=1099511627776:=by
 obtain ⟨-,-,⟨-,-,-,-,-,htm⟩,-,-⟩:=z1e b h
 obtain ⟨-,hrs⟩:=z2l h
 unfold z3k
 split
 ·exact htm
 ·rename_i hne
  obtain ⟨r,hr⟩:=List.exists_mem_of_ne_nil _ hne
  have h1:=(zjw (rs:=b.rs) (x := -1)).2 r hr
  have h2:=(z3x (hrs r hr)).2.2.1
  refine ⟨by omega,zi2 (by omega) λr hr=>(z3x (hrs r hr)).2.2.1.2⟩
theorem zex:∀ {bs:List BatM} {x:Int},x<=z1i x bs/\∀ b ∈ bs,z3k b<=z1i x bs
 | [],x=>⟨Int.le_refl _,λ_ h=>by cases h⟩
 | r::rs,x=>by
  have h:=zex (bs:=rs) (x:=max x (z3k r))
  have e:z1i x (r::rs)=z1i (max x (z3k r)) rs:=rfl
  rw [e]
  refine ⟨by omega,λy hy=>?_⟩
  rcases List.mem_cons.1 hy with rfl|hy
  ·omega
  ·exact h.2 y hy
theorem zhj:∀ {bs:List BatM} {x m:Int},x<=m->(∀ b ∈ bs,z3k b<=m)->z1i x bs<=m
 | [],x,m,h,_=>h
 | r::rs,x,m,h,hr=>by
  have e:z1i x (r::rs)=z1i (max x (z3k r)) rs:=rfl
  rw [e]
  have:=hr r (List.mem_cons_self ..)
  exact zhj (by omega) λy hy=>hr y (List.mem_cons_of_mem _ hy)
theorem zot {x:Int} (bs:List BatM) (i:Nat):z1i x (bs.take i)<=z1i x bs :=
 zhj zex.1 λb hb=>zex.2 b (List.mem_of_mem_take hb)
structure IdxOk (gap q:Int) (bs:List BatM) (x:IdxA):Prop where
 gap:x.gap=gap
 late:x.late=z1i (-1) bs
 offset:x.offset=match bs.getLast? with|none => -1|some b=>b.base
 place:x.place<q+(bs.flatMap frL).length
 lplace:∀ e ∈ x.l,e.place<=x.place
 ent:∀ e ∈ x.l,∃ i,∃ hi:i<bs.length,e=⟨bs[i].base,q+((bs.take i).flatMap frL).length,z1i (-1) (bs.take i)⟩
 first:∀ b,bs.head? = some b->x.l.head? = some ⟨b.base,q,-1⟩
 offs:x.l.Pairwise λa b=>a.offset<b.offset
 befs:x.l.Pairwise λa b=>a.before<=b.before
theorem z9o {n:Int} {bs:List BatM} {b:BatM} (h:z1y n (bs++[b])) (h0:0<=n):z02 b=0/\n<=b.base/\(∀ c,bs.getLast? = some c->c.base<b.base)/\z1y n bs/\z0c bs<=b.base:=by
 induction bs generalizing n with
 | nil=>exact ⟨h.1,h.2.2.1,by simp,trivial,by have:=h.2.2.1;show (0:Int)<=_;omega⟩
 | cons a bs ih =>
  obtain ⟨h1,h2,h3,h4⟩:=h
  obtain ⟨s1,-,⟨-,hba,-⟩,-,s2⟩:=z1e a h1
  obtain ⟨i1,i2,i3,i4,i5⟩:=ih h4 (by omega)
  refine ⟨i1,by omega,λc hc=>?_,⟨h1,h2,h3,i4⟩,?_⟩
  ·cases bs with
   | nil=>simp at hc;subst hc;omega
   | cons d ds=>exact i3 c (by simpa using hc)
  ·cases bs with
   | nil=>show a.base+z01 a<=_;omega
   | cons d ds=>exact i5
theorem zk0 (gap:Int):∀ (m:Nat) {n q:Int} {bs:List BatM},bs.length=m->0<=n->0<=q->z1y n bs->q+(bs.flatMap frL).length<=4194304->IdxOk gap q bs (zbf (zcs gap) q bs)
 | 0,n,q,bs,hm,_,hq,_,_=>by
  have:bs=[]:=List.length_eq_zero_iff.1 hm
  subst this
  exact ⟨rfl,rfl,rfl,by show (-1:Int)<_;simp;omega,(λ_ h=>by cases h),(λ_ h=>by cases h),(λ_ h=>by cases h),.nil,.nil⟩
 | m+1,n,q,bs,hm,hn,hq,hb,hl=>by
  have hne:bs≠[]:=by rintro rfl;cases hm
  obtain ⟨bs,b,rfl⟩:∃ cs b,bs=cs++[b]:=⟨bs.dropLast,bs.getLast hne,(List.dropLast_concat_getLast hne).symm⟩
  rw [List.length_append] at hm
  obtain ⟨hv,hnb,hlb,hb',-⟩:=z9o hb hn
  have hfl:=z3p hv
  have hfl2:((bs++[b]).flatMap frL).length=(bs.flatMap frL).length+(frL b).length:=by simp
  have ih:=zk0 gap m (by simpa using hm) hn hq hb' (by omega)
  have hlt:=zua hv
  obtain ⟨-,-,⟨-,hba,-⟩,-,-⟩:=z1e b hv
  rw [zbs]
  generalize hx:zbf (zcs gap) q bs=x at ih
  have hoff:x.offset<b.base:=by
   rw [ih.offset]
   cases hc:bs.getLast? with
   | none=>show (-1:Int)<_;omega
   | some c=>exact hlb c hc
  unfold z9u
  rw [if_neg (by intro h;apply h;exact ⟨by omega,by omega,by omega⟩),if_neg (by have:=ih.place;omega)]
  have hw:∀ (i:Nat) (hi:i<bs.length),(bs++[b])[i]'(by rw [List.length_append];omega)=bs[i]/\(bs++[b]).take i=bs.take i:=λi hi=>⟨List.getElem_append_left hi,by rw [List.take_append_of_le_length (by omega)]⟩
  have hmem:∀ e ∈ z4s x b.base (q+(bs.flatMap frL).length),e ∈ x.l\/e=⟨b.base,q+(bs.flatMap frL).length,x.late⟩:=λe he=>by
   unfold z4s at he
   split at he
   ·rcases List.mem_append.1 he with he|he
    ·exact .inl he
    ·exact .inr (by simpa using he)
   ·exact .inl he
  have hent:∀ e ∈ x.l,e.offset<b.base/\e.before<=x.late:=λe he=>by
   obtain ⟨i,hi,rfl⟩:=ih.ent e he
   refine ⟨?_,by rw [ih.late];exact zot bs i⟩
   have hlast:∀ {n:Int} {bs:List BatM},z1y n bs->0<=n->∀ (i:Nat) (hi:i<bs.length),bs[i].base<z0c bs:=by
    intro n bs hbs hn i hi
    have h1:z1y n (bs.take i++[bs[i]]):=by
     have:=hbs.take (i+1)
     rwa [List.take_succ_eq_append_getElem hi] at this
    have h2:=z9o h1 hn
    have h3:∀ {n:Int} {ds cs:List BatM},z1y n (ds++cs)->0<=n->z0c ds<=z0c (ds++cs):=by
     intro n ds cs h hn
     induction cs generalizing ds with
     | nil=>rw [List.append_nil];exact Int.le_refl _
     | cons c cs ih =>
      have h':z1y n ((ds++[c])++cs):=by rwa [List.append_assoc]
      have i1:=ih h'
      rw [List.append_assoc] at i1
      have h4:z1y n (ds++[c]):=by
       have:=h'.take (ds++[c]).length
       rwa [List.take_left] at this
      have h5:=z9o h4 hn
      obtain ⟨s1,-,-,-,-⟩:=z1e c h5.1
      have e:z0c (ds++[c])=c.base+z01 c:=z35 ds c
      have i1:z0c (ds++[c])<=z0c (ds++(c::cs)):=i1
      have:=h5.2.2.2.2
      omega
    have h6:=h3 (ds:=bs.take i++[bs[i]]) (cs:=bs.drop (i+1)) (by rw [<- List.take_succ_eq_append_getElem hi,List.take_append_drop];exact hbs) hn
    rw [<- List.take_succ_eq_append_getElem hi,List.take_append_drop,List.take_succ_eq_append_getElem hi,z35] at h6
    obtain ⟨s1,-,-,-,-⟩:=z1e _ h2.1
    omega
   have h7:=hlast hb' hn i hi
   have h8:=(z9o hb hn).2.2.2.2
   show bs[i].base<b.base
   omega
  refine ⟨ih.gap,?_,by rw [z1l],?_,?_,?_,?_,?_,?_⟩
  ·rw [zfz,<- ih.late]
  ·show q+((bs.flatMap frL).length:Int)<_
   omega
  ·intro e he
   show e.place<=q+((bs.flatMap frL).length:Int)
   rcases hmem e he with he|rfl
   ·have:=ih.lplace e he
    have:=ih.place
    omega
   ·exact Int.le_refl _
  ·intro e he
   rcases hmem e he with he|rfl
   ·obtain ⟨i,hi,rfl⟩:=ih.ent e he
    obtain ⟨h1,h2⟩:=hw i hi
    exact ⟨i,by rw [List.length_append];omega,by rw [h1,h2]⟩
   ·refine ⟨bs.length,by simp,?_⟩
    rw [List.getElem_append_right (Nat.le_refl _),List.take_left,ih.late]
    simp
  ·intro a ha
   show (z4s x b.base (q+(bs.flatMap frL).length)).head? = _
   cases bs with
   | nil =>
    simp at ha
    subst ha
    subst hx
    show some (⟨b.base,q+((([]:List BatM).flatMap frL).length:Int),-1⟩:EntA)=_
    congr 2
    simp
   | cons c cs =>
    have h1:=ih.first a (by simpa using ha)
    unfold z4s
    split
    ·rw [List.head?_append,h1];rfl
    ·exact h1
  ·show (z4s x b.base _).Pairwise _
   unfold z4s
   split
   ·refine List.pairwise_append.2 ⟨ih.offs,by simp,λa ha c hc=>?_⟩
    simp at hc
    subst hc
    exact (hent a ha).1
   ·exact ih.offs
  ·show (z4s x b.base _).Pairwise _
   unfold z4s
   split
   ·refine List.pairwise_append.2 ⟨ih.befs,by simp,λa ha c hc=>?_⟩
    simp at hc
    subst hc
    exact (hent a ha).2
   ·exact ih.befs
theorem zpl {α:Type} {p:α->Bool} {l:List α} {i:Nat} (hi:i<=l.length) (h1:∀ x ∈ l.take i,p x=true) (h2:∀ x ∈ l.drop i,p x=false):l.filter p=l.take i:=by
 rw [<- List.take_append_drop i l,List.filter_append,List.filter_eq_self.2 h1,List.filter_eq_nil_iff.2 λx hx=>by rw [h2 x hx];simp,List.append_nil]
 rw [List.take_append_drop]
theorem zq3 {α:Type} {p:α->Bool} {l:List α} {i:Nat} (hi:i<=l.length) (hm:l.Pairwise λa b=>p b=true->p a=true) (h1:∀ (h:i-1<l.length),0<i->p l[i-1]=true) (h2:∀ h:i<l.length,p l[i]=false):l.filter p=l.take i:=by
 have hm':∀ (a b:Nat) (hb:b<l.length) (h:a<b),p l[b]=true->p (l[a]'(by omega))=true:=λa b hb h=>List.pairwise_iff_getElem.1 hm a b (by omega) hb h
 refine zpl hi (λx hx=>?_) λx hx=>?_
 ·obtain ⟨j,hj,rfl⟩:=List.mem_iff_getElem.1 hx
  rw [List.length_take] at hj
  rw [List.getElem_take]
  by_cases hji:j=i-1
  ·subst hji;exact h1 (by omega) (by omega)
  ·exact hm' j (i-1) (by omega) (by omega) (h1 (by omega) (by omega))
 ·obtain ⟨j,hj,rfl⟩:=List.mem_iff_getElem.1 hx
  rw [List.length_drop] at hj
  rw [List.getElem_drop]
  cases hp:p (l[i+j]'(by omega)) with
  | false=>rfl
  | true =>
   have h3:=h2 (by omega)
   by_cases hj0:j=0
   ·subst hj0;simp only [Nat.add_zero] at hp;rw [hp] at h3;cases h3
   ·have:=hm' i (i+j) (by omega) (by omega) hp
    rw [this] at h3;cases h3
theorem zhx {α:Type} {l:List α} {i:Nat} (hi:i<=l.length):(l.take i).getLast? = if i=0 then none else l[i-1]? := by
 cases i with
 | zero=>simp
 | succ i =>
  rw [if_neg (by omega),List.take_succ_eq_append_getElem (by omega),z1l]
  simp
theorem zm9 {α:Type} {p:α->Bool} {l:List α} {e:α} (h:(l.filter p).getLast? = some e):∃ a c,l=a++e::c/\p e=true/\∀ x ∈ c,p x=false:=by
 induction l with
 | nil=>simp at h
 | cons y r ih =>
  rw [List.filter_cons] at h
  by_cases hr:(r.filter p)=[]
  ·split at h
   ·rw [hr] at h
    simp at h
    subst h
    exact ⟨[],r,rfl,by assumption,λx hx=>by simpa using List.filter_eq_nil_iff.1 hr x hx⟩
   ·rw [hr] at h;simp at h
  ·have h':(r.filter p).getLast? = some e:=by
    split at h
    ·cases hq:r.filter p with
     | nil=>exact absurd hq hr
     | cons z zs=>rw [hq] at h;simpa using h
    ·exact h
   obtain ⟨a,c,rfl,h1,h2⟩:=ih h'
   exact ⟨y::a,c,rfl,h1,h2⟩
theorem Ret.mono {P:Program} {f:FuncId} {args:Array Value} {w:World} {R R':List Value->World->Prop} (h:Ret P f args w R) (hi:∀ vs w',R vs w'->R' vs w'):Ret P f args w R' :=
 Calls.mono h λe w' ⟨vs,he,hv⟩=>⟨vs,he,hi _ _ hv⟩
def stR (R:RdM):Lf:=if R.e=0 then some (z4v R) else none
theorem z7j {R:RdM} (h:R.e=0):stR R=some (z4v R):=if_pos h
theorem z6m {R:RdM} (h:R.e≠0):stR R=none:=if_neg h
theorem zv7 {R:RdM}:(stR R).isSome=decide (R.e=0):=by
 unfold stR;split <;> simp [*]
theorem zda {R:RdM}:(R.uint).1=(z0v (stR R)).1/\stR R.uint.2=(z0v (stR R)).2:=by
 by_cases h:R.e=0
 ·rw [z7j h]
  cases hn:z3t 0 (R.bs.drop R.at_) with
  | none =>
   have e1:R.uint=(0,⟨R.bs,R.at_,6⟩):=by unfold RdM.uint;rw [if_neg (by rw [h];simp)];simp only [hn]
   have e2:z0v (some (z4v R))=(0,none):=by unfold z0v z4v;simp only [hn]
   rw [e1,e2]
   exact ⟨rfl,if_neg (show ¬ (6:Int)=0 by decide)⟩
  | some q =>
   have e1:R.uint=(q.1,⟨R.bs,R.at_+q.2,R.e⟩):=by unfold RdM.uint;rw [if_neg (by rw [h];simp)];simp only [hn]
   have e2:z0v (some (z4v R))=(q.1,some ((z4v R).drop q.2)):=by unfold z0v z4v;simp only [hn]
   rw [e1,e2]
   refine ⟨rfl,?_⟩
   show (if R.e=0 then some (R.bs.drop (R.at_+q.2)) else none)=some ((R.bs.drop R.at_).drop q.2)
   rw [if_pos h,List.drop_drop]
 ·rw [zj2 h]
  show 0=(z0v (stR R)).1/\stR R=(z0v (stR R)).2
  rw [z6m h]
  exact ⟨rfl,rfl⟩
theorem zi3 {R:RdM} {lo hi:Int}:(R.within lo hi).1=(z1r lo hi (stR R)).1/\stR (R.within lo hi).2=(z1r lo hi (stR R)).2:=by
 obtain ⟨h1,h2⟩:=zda (R:=R)
 unfold RdM.within z1r
 rw [<- h1,<- h2]
 by_cases h:R.uint.2.e=0
 ·rw [if_neg (by rw [h];simp),z7j h]
  simp only
  by_cases hc:zag R.uint.1<lo\/zag R.uint.1>hi
  ·rw [if_pos hc,if_pos hc]
   exact ⟨rfl,if_neg (show ¬ (8:Int)=0 by decide)⟩
  ·rw [if_neg hc,if_neg hc]
   exact ⟨rfl,z7j h⟩
 ·rw [if_pos h]
  show 0=_/\stR R.uint.2=_
  rw [z6m h]
  exact ⟨rfl,rfl⟩
def rdS (T':TypeId) (p:Nat) (s:Lf):HP:=HP.ex λR:RdM=>HP.and (stR R=s) (rdP T' p R)
section
variable {w:World} {l r:List HP} {p:Nat} {s:Lf} {T':TypeId}
theorem z6z (hs:Sat w (rdS T' p s::l)):∃ R:RdM,stR R=s/\Sat w (rdP T' p R::l):=by
 obtain ⟨R,hs⟩:=hs.ex
 obtain ⟨h,hs⟩:=hs.and
 exact ⟨R,h,hs⟩
theorem z2p {R:RdM} (h:stR R=s) (hs:Sat w (rdP T' p R::l)):Sat w (rdS T' p s::l):=.ex_mk R (.and_mk h hs)
theorem zsp (x:Sl) (bs:List UInt8) [hx:FocR l x 1 (bs.flatMap zf)] (hn:bs.length<=1000000000) (hs:Sat w l) :
  Ret P F.a138 #[x.v] w λvs w'=>∃ p:Nat,vs=[.pointer (some ⟨p,0,none⟩)]/\Sat w' (rdS T.a36 p (some bs)::l) :=
 (zm1 x bs hn hs).mono λ_ _ h=>by
  obtain ⟨p,rfl,hs⟩:=h
  exact ⟨p,rfl,z2p (R:=⟨bs,0,0⟩) rfl hs⟩
theorem zgi [hf:Fo l (rdS T.a36) p s r] (hs:Sat w l):Ret P F.a145 #[.pointer (some ⟨p,0,none⟩)] w λvs w'=>vs=[.int .u64 ((z0v s).1:Int)]/\Sat w' (rdS T.a36 p (z0v s).2::r):=by
 obtain ⟨R,rfl,hs⟩:=z6z (hs.perm hf.perm)
 refine (znf (p:=p) hs).mono λ_ _ h=>?_
 obtain ⟨rfl,hs⟩:=h
 exact ⟨by rw [zda.1],z2p zda.2 hs⟩
theorem ztp (lo hi:Int) [hf:Fo l (rdS T.a36) p s r] (hs:Sat w l):Ret P F.a146 #[.pointer (some ⟨p,0,none⟩),.int .i64 lo,.int .i64 hi] w λvs w'=>vs=[.int .i64 (z1r lo hi s).1]/\Sat w' (rdS T.a36 p (z1r lo hi s).2::r):=by
 obtain ⟨R,rfl,hs⟩:=z6z (hs.perm hf.perm)
 refine (zs4 (p:=p) lo hi hs).mono λ_ _ h=>?_
 obtain ⟨rfl,hs⟩:=h
 exact ⟨by rw [zi3.1],z2p zi3.2 hs⟩
theorem zsa [hf:Fo l (rdS T.a36) p s r] (hs:Sat w l):Ret P F.a141 #[.pointer (some ⟨p,0,none⟩)] w λvs w'=>∃ e:Int,vs=[.int .i64 e]/\(e=0↔s.isSome=true)/\Sat w' (rdS T.a36 p s::r):=by
 obtain ⟨R,rfl,hs⟩:=z6z (hs.perm hf.perm)
 refine (z02j (p:=p) hs).mono λ_ _ h=>?_
 obtain ⟨rfl,hs⟩:=h
 exact ⟨R.e,rfl,by rw [zv7,decide_eq_true_iff],z2p rfl hs⟩
theorem ztc [hf:Fo l (rdS T.a36) p s r] (hs:Sat w l):Ret P F.a140 #[.pointer (some ⟨p,0,none⟩)] w λvs w'=>∃ e:Int,vs=[.int .i64 e]/\(e=0↔s=some [])/\Sat w' r:=by
 obtain ⟨R,rfl,hs⟩:=z6z (hs.perm hf.perm)
 have hb:=(z5u hs).1
 refine (z00j (p:=p) hs).mono λ_ _ h=>?_
 obtain ⟨rfl,hs⟩:=h
 refine ⟨_,rfl,?_,hs.tail⟩
 rw [zpy hb]
 unfold stR
 by_cases h:R.e=0 <;> simp [h]
end
section
variable {w:World} {l r:List HP} {p:Nat} {s:Lf}
theorem zyc (b:Bool) (hs:Sat w l):Ret P F.a135 #[.bool b] w λvs w'=>∃ z:Sl,vs=[z.v]/\Sat w' (slc T.a34 1 z ([z55 b].flatMap zf)::l) :=
 zlh b <| by
  unfold zwc
  refine zg (λh=>?_) λh=>?_
  ·subst h
   refine z1w hs (enc:=zf) (1:UInt8) λz w' hs=>?_
   exact ⟨rfl,z,rfl,hs⟩
  ·have h:b=false:=by simpa using h
   subst h
   refine z1w hs (enc:=zf) (0:UInt8) λz w' hs=>?_
   exact ⟨rfl,z,rfl,hs⟩
theorem zh6 (n:Nat) {x:Sl} {bs:List UInt8} {e:Int} {at_:Nat} (hn:at_+n<=bs.length) (hb:bs.length<=1000000000) (hcap:x.len<=x.cap) [hf:FocB l p (.cells [.slice x.a x.len x.cap,.int .i64 at_,.int .i64 e].toArray T.a36) r] [hr:FocR r x 1 (bs.flatMap zf)] (hs:Sat w l) :
  Ret P F.a152 #[.pointer (some ⟨p,0,none⟩),.int .i64 n] w λvs w'=>vs=[.slice (z1f x.a 1 at_ x.cap) n (x.cap-at_)]/\Sat w' (pt p (.cells #[.slice x.a x.len x.cap,.int .i64 (at_+n:Nat),.int .i64 e] T.a36)::r) :=
 zls _ n <| by
  unfold zx1
  have hs:=hs.perm hf.perm
  have hl:=hs.slen x (xs:=bs) (enc:=zf)
  refine zm ?_
  refine zb hs ?_
  refine zm ?_
  have e2:IntKind.wrap .i64 ((at_:Int)+n)=((at_+n:Nat):Int):=by rw [w64 (by omega) (by omega)];omega
  rw [e2]
  refine z0f hs λw' hs=>?_
  refine z07 hs λw' hs=>?_
  refine zm ?_
  refine zb hs ?_
  refine zm ?_
  refine zb hs ?_
  refine zm ?_
  refine zb hs ?_
  have e3:IntKind.wrap .i64 (((at_+n:Nat):Int)-n)=(at_:Int):=by rw [w64 (by omega) (by omega)];omega
  rw [e3]
  refine wp_must (by omega) ?_
  refine zi ?_
  refine ⟨rfl,?_,hs⟩
  simp only [Int.toNat_natCast,Nat.add_sub_cancel_left]
end
theorem bvi (s:BitVec 32):BitVec.ofInt 32 ((s.toNat:Nat):Int)=s:=by rw [BitVec.ofInt_natCast,BitVec.ofNat_toNat,BitVec.setWidth_eq]
theorem wbv (s:BitVec 32):IntKind.wrap .u32 ((s.toNat:Nat):Int)=((s.toNat:Nat):Int):=by rw [z9r,Nat.mod_eq_of_lt s.isLt]
theorem ztq (s:BitVec 32):BitVec.ofInt 32 4294967295 ^^^ BitVec.ofInt 32 ((s.toNat:Nat):Int) = ~~~ s:=by
 rw [bvi]
 have:BitVec.ofInt 32 4294967295=BitVec.allOnes 32:=by decide +kernel
 rw [this,BitVec.allOnes_xor]
theorem z032 (s:BitVec 32):BitVec.ofInt 32 (Int.fdiv ((s.toNat:Nat):Int) 2)=s >>> 1:=by
 rw [z6y _ (by decide),BitVec.ofInt_natCast]
 apply BitVec.eq_of_toNat_eq
 have:=s.isLt
 rw [BitVec.toNat_ofNat,BitVec.toNat_ushiftRight,Nat.shiftRight_eq_div_pow]
 show s.toNat / 2 % 2 ^ 32=s.toNat / 2 ^ 1
 omega
theorem z000 (s:BitVec 32):BitVec.ofInt 32 (IntKind.wrap .u32 (0-((s.toNat:Nat):Int)))=0#32-s:=by
 apply BitVec.eq_of_toNat_eq
 have:=s.isLt
 have e:IntKind.wrap .u32 (0-((s.toNat:Nat):Int))=(((4294967296-s.toNat) % 4294967296:Nat):Int):=by
  simp [IntKind.wrap,IntKind.bits,IntKind.signed];omega
 rw [e,BitVec.ofInt_natCast,BitVec.toNat_ofNat,BitVec.toNat_sub]
 simp
theorem zy4 (s:BitVec 32):IntKind.wrap .u32 (((BitVec.toNat (BitVec.ofInt 32 (Int.fdiv ((s.toNat:Nat):Int) 2) ^^^ BitVec.ofInt 32 (IntKind.wrap .u32 (((BitVec.toNat (BitVec.ofInt 32 3988292384 &&& BitVec.ofInt 32 (IntKind.wrap .u32 (0-IntKind.wrap .u32 (((BitVec.toNat (BitVec.ofInt 32 ((s.toNat:Nat):Int) &&& BitVec.ofInt 32 1):Nat):Int))))):Nat):Int)))):Nat):Int))=(((zer s).toNat:Nat):Int):=by
 rw [wbv,wbv,wbv,bvi,bvi,z000,z032]
 rfl
theorem zu1 (s:BitVec 32) (c:UInt8):IntKind.wrap .u32 (((BitVec.toNat (BitVec.ofInt 32 ((s.toNat:Nat):Int) ^^^ BitVec.ofInt 32 (IntKind.wrap .u32 ((c.toNat:Nat):Int))):Nat):Int))=(((s ^^^ BitVec.ofNat 32 c.toNat).toNat:Nat):Int):=by
 have:=c.toNat_lt
 rw [wbv,bvi,z9r,Nat.mod_eq_of_lt (by omega),BitVec.ofInt_natCast]
section
variable {w:World} {l r:List HP} {Q:Post} {S:World->Prop}
theorem zic (s:BitVec 32) (bs:List UInt8) (i:Nat) (hi:i<bs.length):z3w s (bs.take (i+1))=zh4 (z3w s (bs.take i)) bs[i]:=by
 unfold z3w
 rw [List.take_add_one,List.getElem?_eq_getElem hi,Option.toList_some,List.foldl_append];rfl
theorem zyg (m:BitVec 32) (x:Sl) (ps:List (Sl × List UInt8)) [hx:FocR l x 1 ((ps.map Prod.fst).flatMap z0d)] (hps:∀ p ∈ ps,FocR l p.1 1 (p.2.flatMap zf)/\p.2.length<=1000000000) (hpl:ps.length<=1000000) (hs:Sat w l) :
  Ret P F.a21 #[.int .u32 ((m.toNat:Nat):Int),x.v] w λvs w'=>vs=[.int .u32 (((zip m (ps.flatMap Prod.snd)).toNat:Nat):Int)]/\Sat w' l :=
 zqr _ x <| by
  unfold z00n
  have hl:=hs.slen x (xs:=ps.map Prod.fst) (enc:=z0d)
  rw [List.length_map] at hl
  rw [ztq,wbv]
  refine wp_lt ?_
  refine zp (λu w'=>u=((((z3w (~~~ m) (ps.flatMap Prod.snd)).toNat:Nat):Int),())/\Sat w' l) ?_ ?_
  rotate_left
  ·rintro _ w' ⟨rfl,hs⟩
   refine zk ?_
   rw [ztq,wbv]
   refine wp_lt ?_
   exact ⟨rfl,rfl,hs⟩
  refine z08 (λk u w=>∃ i:Nat,u=((((z3w (~~~ m) ((ps.take i).flatMap Prod.snd)).toNat:Nat):Int),(i:Int),())/\i<=ps.length/\ps.length-i=k/\Sat w l) ps.length ⟨0,rfl,by omega,rfl,hs⟩ ?_
  clear hs
  rintro k _ w ⟨i,rfl,hi,hk,hs⟩
  refine zk ?_
  refine zg (λhc=>?_) λhc=>?_
  rotate_left
  ·refine zn (zh ⟨?_,hs⟩)
   rw [List.take_of_length_le (by omega)]
  have hil:i<ps.length:=by omega
  obtain ⟨hF,hpl2⟩:=hps _ (List.getElem_mem hil)
  have hpi:=hs.slen ps[i].1 (xs:=ps[i].2) (enc:=zf)
  refine zp (λu w'=>u=((((z3w (~~~ m) ((ps.take (i+1)).flatMap Prod.snd)).toNat:Nat):Int),())/\Sat w' l) ?_ ?_
  rotate_left
  ·rintro _ w' ⟨rfl,hs⟩
   refine zk ?_
   refine z4c (us':=[.int .u32 (((z3w (~~~ m) ((ps.take (i+1)).flatMap Prod.snd)).toNat:Nat):Int),.int .i64 ((i+1:Nat):Int)]) (by (try simp (disch:=omega) only [w64]);first|rfl|(congr;omega)) ?_
   refine z0n (ps.length-(i+1)) ?_
   exact ⟨i+1,rfl,by omega,rfl,hs⟩
  refine z1k hs (xs:=ps.map Prod.fst) (enc:=z0d) i (by rw [List.length_map];exact hil) ?_
  rw [List.getElem_map]
  have hto:z3w (~~~ m) ((ps.take (i+1)).flatMap Prod.snd)=z3w (z3w (~~~ m) ((ps.take i).flatMap Prod.snd)) ps[i].2:=by
   rw [List.take_add_one,List.getElem?_eq_getElem hil,Option.toList_some,List.flatMap_append,List.flatMap_singleton]
   unfold z3w
   rw [List.foldl_append]
  rw [hto]
  generalize z3w (~~~ m) ((ps.take i).flatMap Prod.snd)=s0
  generalize ps[i]=q at *
  refine zp (λu w'=>u=((((z3w s0 q.2).toNat:Nat):Int),())/\Sat w' l) ?_ (by rintro _ w' ⟨rfl,hs⟩;refine zk ?_;exact zh ⟨rfl,hs⟩)
  refine z08 (λk u w=>∃ j:Nat,u=((((z3w s0 (q.2.take j)).toNat:Nat):Int),(j:Int),())/\j<=q.2.length/\q.2.length-j=k/\Sat w l) q.2.length ⟨0,rfl,by omega,rfl,hs⟩ ?_
  clear hs
  rintro k _ w ⟨j,rfl,hj,hk,hs⟩
  refine zk ?_
  refine zg (λhc=>?_) λhc=>?_
  rotate_left
  ·refine zn (zh ⟨?_,hs⟩)
   rw [List.take_of_length_le (by omega)]
  have hjl:j<q.2.length:=by omega
  refine zp (λu w'=>u=((((z3w s0 (q.2.take (j+1))).toNat:Nat):Int),())/\Sat w' l) ?_ ?_
  rotate_left
  ·rintro _ w' ⟨rfl,hs⟩
   refine zk ?_
   refine z4c (us':=[.int .u32 (((z3w s0 (q.2.take (j+1))).toNat:Nat):Int),.int .i64 ((j+1:Nat):Int)]) (by (try simp (disch:=omega) only [w64]);first|rfl|(congr;omega)) ?_
   refine z0n (q.2.length-(j+1)) ?_
   exact ⟨j+1,rfl,by omega,rfl,hs⟩
  refine z1k hs (xs:=q.2) (enc:=zf) j hjl ?_
  refine wp_lt ?_
  rw [zu1]
  refine wp_lt ?_
  rw [zic s0 q.2 j hjl]
  generalize z3w s0 (q.2.take j)=s1
  show Prog.wp P _ _ _ _
  refine zp (λu w'=>u=((((zh4 s1 q.2[j]).toNat:Nat):Int),())/\Sat w' l) ?_ (by rintro _ w' ⟨rfl,hs⟩;refine zk ?_;exact zh ⟨rfl,hs⟩)
  unfold zh4
  generalize s1 ^^^ BitVec.ofNat 32 q.2[j].toNat=s2
  refine z08 (λk u w=>∃ i:Nat,u=((((zew i s2).toNat:Nat):Int),(i:Int),())/\i<=8/\8-i=k/\Sat w l) 8 ⟨0,rfl,by omega,rfl,hs⟩ ?_
  clear hs
  rintro k _ w ⟨i,rfl,hi,hk,hs⟩
  refine zk ?_
  refine zg (λhc=>?_) λhc=>?_
  rotate_left
  ·obtain rfl:i=8:=by omega
   exact zn (zh ⟨rfl,hs⟩)
  rw [zy4]
  refine wp_lt ?_
  refine z4c (us':=[.int .u32 (((zer (zew i s2)).toNat:Nat):Int),.int .i64 ((i+1:Nat):Int)]) (by (try simp (disch:=omega) only [w64]);first|rfl|(congr;omega)) ?_
  refine z0n (8-(i+1)) ?_
  exact ⟨i+1,rfl,by omega,rfl,hs⟩
theorem z00b (x:Sl) (ps:List (Sl × List UInt8)) [hx:FocR l x 1 ((ps.map Prod.fst).flatMap z0d)] (hps:∀ p ∈ ps,FocR l p.1 1 (p.2.flatMap zf)/\p.2.length<=1000000000) (hpl:ps.length<=1000000) (hs:Sat w l) :
  Ret P F.a23 #[x.v] w λvs w'=>vs=[.int .u32 ((z69 (ps.flatMap Prod.snd):Nat):Int)]/\Sat w' l :=
 zpx x <| by
  unfold z00v
  refine za (zyg 0#32 x ps hps hpl hs) λ_ _ hs=>?_
  obtain ⟨rfl,hs⟩:=hs
  refine zd ?_
  refine wp_lt ?_
  exact ⟨rfl,rfl,hs⟩
theorem zgp (x y:Sl) (bs:List UInt8) [hx:FocR l x 1 ([y].flatMap z0d)] [hy:FocR l y 1 (bs.flatMap zf)] (hn:bs.length<=1000000000) (hs:Sat w l) :
  Ret P F.a23 #[x.v] w λvs w'=>vs=[.int .u32 ((z69 bs:Nat):Int)]/\Sat w' l:=by
 have:=@z00b w l x [(y,bs)] hx (by intro p hp;rw [List.mem_singleton.1 hp];exact ⟨hy,hn⟩) (by simp) hs
 simpa using this
theorem znn (n:Nat) (hn:n<4294967296) (hs:Sat w l):Ret P F.a24 #[.int .u32 (n:Int)] w λvs w'=>∃ z:Sl,vs=[z.v]/\Sat w' (slc T.a34 1 z ((z26 n).flatMap zf)::l) :=
 zr8 n <| by
  unfold z025
  have e0:IntKind.wrap .u8 (n:Int)=(((UInt8.ofNat n).toNat:Nat):Int):=by rw [z8c];simp
  have e1:IntKind.wrap .u8 (Int.fdiv (n:Int) 256)=(((UInt8.ofNat (n / 256)).toNat:Nat):Int):=by rw [z6y n (by decide),z8c];simp
  have e2:IntKind.wrap .u8 (Int.fdiv (n:Int) 65536)=(((UInt8.ofNat (n / 65536)).toNat:Nat):Int):=by rw [z6y n (by decide),z8c];simp
  have e3:IntKind.wrap .u8 (Int.fdiv (n:Int) 16777216)=(((UInt8.ofNat (n / 16777216)).toNat:Nat):Int):=by rw [z6y n (by decide),z8c];simp
  rw [e0,e1,e2,e3]
  refine z8t hs (enc:=zf) (z26 n) (cs:=((z26 n).flatMap zf).toArray) (by kernel_rfl) (λb w' hs=>?_) (by simp)
  exact ⟨rfl,_,rfl,hs⟩
theorem zo0 (n:Nat) (hn:n<4294967296) (hs:Sat w l):Ret P F.a115 #[.int .u32 (n:Int)] w λvs w'=>∃ z:Sl,vs=[z.v]/\Sat w' (slc T.a34 1 z ((z26 n).flatMap zf)::l) :=
 zm2 n <| by
  unfold zw5
  refine zp (λu w'=>∃ z:Sl,u=(z,())/\Sat w' (slc T.a34 1 z ((z26 n).flatMap zf)::l)) ?_ (by rintro _ w' ⟨z,rfl,hs⟩;refine zk ?_;exact ⟨rfl,z,rfl,hs⟩)
  refine z08 (λk u w=>∃ (i:Nat) (z:Sl),u=(((n / 256 ^ i:Nat):Int),z,(i:Int),())/\i<=4/\4-i=k/\Sat w (slc T.a34 1 z (((z26 n).take i).flatMap zf)::l)) 4 ⟨0,⟨none,0,0⟩,by simp,by omega,rfl,hs.slc_nil⟩ ?_
  clear hs
  rintro k _ w ⟨i,z,rfl,hi,hk,hs⟩
  refine zk ?_
  refine zg (λhc=>?_) λhc=>?_
  rotate_left
  ·obtain rfl:i=4:=by omega
   exact zn (zh ⟨z,rfl,hs⟩)
  have hil:i<(z26 n).length:=by rw [z3q];omega
  have hto:(z26 n).take (i+1)=(z26 n).take i++[UInt8.ofNat (n / 256 ^ i)]:=by
   rw [List.take_add_one,List.getElem?_eq_getElem hil,Option.toList_some]
   congr 2
   have hcase:i=0\/i=1\/i=2\/i=3:=by omega
   rcases hcase with rfl|rfl|rfl|rfl <;> simp [z26]
  have hlen:((z26 n).take i).length<=4:=by rw [List.length_take];omega
  refine z6a hs (xs:=(z26 n).take i) (enc:=zf) (UInt8.ofNat (n / 256 ^ i)) (λz w' hs=>?_) ?_
  ·rw [<- hto] at hs
   have hlt:n / 256 ^ i<=n:=Nat.div_le_self ..
   refine z1n (y:=((n / 256 ^ (i+1):Nat):Int)) ?_ ?_
   ·refine z1n (y:=((i+1:Nat):Int)) ?_ (by rw [w64 (by omega) (by omega)];omega)
    refine z0n (4-(i+1)) ?_
    exact ⟨i+1,z,rfl,by omega,rfl,hs⟩
   ·rw [zj1 _ (by decide),z9r,Nat.pow_succ,<- Nat.div_div_eq_div_mul]
    generalize n / 256 ^ i=m at hlt
    congr 1
    show m / 256 % _=m / 256
    omega
  ·rw [zeu _ (by decide)]
   unfold zf
   rw [z8c]
   simp
theorem zvm {a b c d:Nat} (ha:a<256) (hb:b<256) (hc:c<256) (hd:d<256) :
  IntKind.wrap .u32 (((BitVec.toNat (BitVec.ofInt 32 (IntKind.wrap .u32 (((BitVec.toNat (BitVec.ofInt 32 (IntKind.wrap .u32 (((BitVec.toNat (BitVec.ofInt 32 (IntKind.wrap .u32 (a:Int)) ||| BitVec.ofInt 32 (IntKind.wrap .u32 (IntKind.wrap .u32 (b:Int)*256))):Nat):Int))) ||| BitVec.ofInt 32 (IntKind.wrap .u32 (IntKind.wrap .u32 (c:Int)*65536))):Nat):Int))) ||| BitVec.ofInt 32 (IntKind.wrap .u32 (IntKind.wrap .u32 (d:Int)*16777216))):Nat):Int))=((a+256*b+65536*c+16777216*d:Nat):Int):=by
 have wm:∀ {m:Nat},m<4294967296->IntKind.wrap .u32 (m:Int)=(m:Int):=λ{m} h=>by rw [z9r,Nat.mod_eq_of_lt h]
 have or2:∀ {x y i:Nat},x<2 ^ i->y*2 ^ i+x<4294967296->BitVec.toNat (BitVec.ofInt 32 (x:Int) ||| BitVec.ofInt 32 ((y*2 ^ i:Nat):Int))=x+y*2 ^ i:=λ{x y i} h1 h2=>by
  rw [BitVec.ofInt_natCast,BitVec.ofInt_natCast,BitVec.toNat_or,BitVec.toNat_ofNat,BitVec.toNat_ofNat,Nat.mod_eq_of_lt (show x<2 ^ 32 by omega),Nat.mod_eq_of_lt (show y*2 ^ i<2 ^ 32 by omega),Nat.or_comm,Nat.mul_comm,<- Nat.two_pow_add_eq_or_of_lt h1,Nat.add_comm]
 have m1:((b:Nat):Int)*256=((b*2 ^ 8:Nat):Int):=rfl
 have m2:((c:Nat):Int)*65536=((c*2 ^ 16:Nat):Int):=rfl
 have m3:((d:Nat):Int)*16777216=((d*2 ^ 24:Nat):Int):=rfl
 rw [wm (show a<_ by omega),wm (show b<_ by omega),wm (show c<_ by omega),wm (show d<_ by omega),m1,m2,m3,wm (show b*2 ^ 8<_ by omega),wm (show c*2 ^ 16<_ by omega),wm (show d*2 ^ 24<_ by omega),
  or2 (by omega) (by omega),wm (show a+b*2 ^ 8<_ by omega),or2 (by omega) (by omega),wm (show a+b*2 ^ 8+c*2 ^ 16<_ by omega),or2 (by omega) (by omega),wm (by omega)]
 congr 1
 omega
theorem zw2 {bs:List UInt8} (h:4<=bs.length):z0r bs=bs[0].toNat+256*bs[1].toNat+65536*bs[2].toNat+16777216*bs[3].toNat:=by
 match bs,h with
 | a::b::c::d::r,_=>rfl
theorem z7q {α:Type} {enc:α->List Value} {xs:List α} {sz m:Nat} {ii:Int} {x:Sl} {T:TypeId} {g':Prop} {p:Pr} {dec:α->p.D} {f:p.D->Prog} (hs:Sat w l) [hf:FocR l x sz (xs.flatMap enc)] [hE:EncN enc sz] [hD:Enc1 enc p dec] [hT:One P T]
  (n:Nat) (hn:n<xs.length) (h:(f (dec xs[n])).wp P S w Q) (hm:m=n*sz:=by rfl) (hi:ii=n:=by rfl) :
  (Prog.ex [.adr] (c1 λa=>(0:Int)<=ii/\ii<((x.len:Nat):Int)/\x.a=some a) (u1 λa=>.read g' (ld T (Addr.add a m)) (.one (.one p)) (u1 f))).wp P S w Q:=by
 subst hm hi
 have hr:=hf.rd w hs
 have hl:x.len=xs.length:=hr.len hE.len hE.pos
 obtain ⟨a,ha,he⟩:=hr.el hE.len (by omega)
 refine ⟨(a,()),⟨by omega,by omega,ha⟩,(dec xs[n],()),λ_=>?_,h⟩
 have:=he n hn
 rw [hD.ok] at this
 have h2:=At.ld1 (P:=P) (T:=T) this rfl
 cases p <;> exact h2
theorem zcd (x:Sl) (bs:List UInt8) [hx:FocR l x 1 (bs.flatMap zf)] (hn:4<=bs.length) (hs:Sat w l):Ret P F.a25 #[x.v] w λvs w'=>vs=[.int .u32 ((z0r bs:Nat):Int)]/\Sat w' l :=
 zqp x <| by
  unfold z00w
  refine z07 hs λw' hs=>?_
  refine z7q hs (xs:=bs) (enc:=zf) 0 (by omega) ?_
  refine z7q hs (xs:=bs) (enc:=zf) 1 (by omega) ?_
  refine z7q hs (xs:=bs) (enc:=zf) 2 (by omega) ?_
  refine z7q hs (xs:=bs) (enc:=zf) 3 (by omega) ?_
  rw [zvm (by have:=bs[0].toNat_lt;omega) (by have:=bs[1].toNat_lt;omega) (by have:=bs[2].toNat_lt;omega) (by have:=bs[3].toNat_lt;omega),<- zw2 hn]
  refine wp_lt ?_
  refine zi ?_
  exact ⟨rfl,rfl,hs⟩
theorem znm (x:Sl) (ps:List (Sl × List UInt8)) [hx:FocR l x 1 ((ps.map Prod.fst).flatMap z0d)] (hps:∀ p ∈ ps,FocR l p.1 1 (p.2.flatMap zf)/\p.2.length<=1000000000) (hpl:ps.length<=1000000) (hs:Sat w l) :
  Ret P F.a22 #[x.v] w λvs w'=>∃ z:Sl,vs=[z.v]/\Sat w' (slc T.a34 1 z ((z29 (ps.flatMap Prod.snd)).flatMap zf)::l) :=
 zqn x <| by
  unfold zzn
  have hl:=hs.slen x (xs:=ps.map Prod.fst) (enc:=z0d)
  rw [List.length_map] at hl
  have hstep:∀ i (hi:i<ps.length),(ps.take (i+1)).flatMap Prod.snd=(ps.take i).flatMap Prod.snd++ps[i].2:=λi hi=>by
   rw [List.take_add_one,List.getElem?_eq_getElem hi,Option.toList_some,List.flatMap_append,List.flatMap_singleton]
  have hmany:∀ i,((ps.take i).flatMap Prod.snd).length<=(ps.flatMap Prod.snd).length:=λi=>by
   have:ps.flatMap Prod.snd=(ps.take i).flatMap Prod.snd++(ps.drop i).flatMap Prod.snd:=by rw [<- List.flatMap_append,List.take_append_drop]
   rw [this,List.length_append]
   omega
  refine zp (λu w'=>u=((((ps.flatMap Prod.snd).length:Nat):Int),())/\(ps.flatMap Prod.snd).length<=262144/\Sat w' l) ?_ ?_
  ·refine z08 (λk u w=>∃ i:Nat,u=(((((ps.take i).flatMap Prod.snd).length:Nat):Int),(i:Int),())/\i<=ps.length/\ps.length-i=k/\((ps.take i).flatMap Prod.snd).length<=262144/\Sat w l) ps.length ⟨0,rfl,by omega,rfl,by simp,hs⟩ ?_
   clear hs
   rintro k _ w ⟨i,rfl,hi,hk,hsm,hs⟩
   refine zk ?_
   refine zg (λhc=>?_) λhc=>?_
   rotate_left
   ·rw [List.take_of_length_le (by omega)] at hsm ⊢
    exact zn (zh ⟨rfl,hsm,hs⟩)
   have hil:i<ps.length:=by omega
   refine z1k hs (xs:=ps.map Prod.fst) (enc:=z0d) i (by rw [List.length_map];exact hil) ?_
   rw [List.getElem_map]
   obtain ⟨hF,hpb⟩:=hps _ (List.getElem_mem hil)
   have hpi:=hs.slen ps[i].1 (xs:=ps[i].2) (enc:=zf)
   have h1:=hmany (i+1)
   have h2:=congrArg List.length (hstep i hil)
   rw [List.length_append] at h2
   have e:IntKind.wrap .i64 (((((ps.take i).flatMap Prod.snd).length:Nat):Int)+((ps[i].1.len:Nat):Int))=((((ps.take (i+1)).flatMap Prod.snd).length:Nat):Int):=by rw [w64 (by omega) (by omega)];omega
   refine zin e ?_
   refine zg (λhbig=>?_) λhbig=>?_
   ·refine zn (zn ⟨rfl,⟨none,0,0⟩,rfl,?_⟩)
    have:z29 (ps.flatMap Prod.snd)=[]:=by unfold z29;rw [if_pos (by omega)]
    rw [this]
    exact hs.slc_nil
   refine z4c (us':=[.int .i64 ((((ps.take (i+1)).flatMap Prod.snd).length:Nat):Int),.int .i64 ((i+1:Nat):Int)]) (by (try simp (disch:=omega) only [w64]);first|rfl|(congr;omega)) ?_
   refine z0n (ps.length-(i+1)) ?_
   exact ⟨i+1,rfl,by omega,rfl,by omega,hs⟩
  clear hs
  rintro _ w ⟨rfl,hsm,hs⟩
  refine zk ?_
  have e8:IntKind.wrap .i64 ((((ps.flatMap Prod.snd).length:Nat):Int)+8)=(((ps.flatMap Prod.snd).length+8:Nat):Int):=by rw [w64 (by omega) (by omega)];omega
  rw [e8,z9r,Nat.mod_eq_of_lt (by omega)]
  refine zo2 ((ps.flatMap Prod.snd).length+8) hs λz w' hs=>?_
  refine za (znn (ps.flatMap Prod.snd).length (by omega) hs) λ_ _ hs=>?_
  obtain ⟨y,rfl,hs⟩:=hs
  refine zd ?_
  have hs:=hs.pick [1,0]
  refine wp_app' (xs:=[]) (ys:=z26 (ps.flatMap Prod.snd).length) (enc:=zf) hs (λz w' hs=>?_) (by simp [z3q])
  rw [List.nil_append] at hs
  have hs:Sat w' (slc T.a34 1 z ((z26 (ps.flatMap Prod.snd).length).flatMap zf)::l):=hs.sub
  refine zp (λu w'=>∃ z:Sl,u=(z,())/\Sat w' (slc T.a34 1 z ((z25 (ps.flatMap Prod.snd)).flatMap zf)::l)) ?_ ?_
  ·refine z08 (λk u w=>∃ (i:Nat) (z:Sl),u=(z,(i:Int),())/\i<=ps.length/\ps.length-i=k/\Sat w (slc T.a34 1 z ((z26 (ps.flatMap Prod.snd).length++(ps.take i).flatMap Prod.snd).flatMap zf)::l)) ps.length ⟨0,z,rfl,by omega,rfl,?_⟩ ?_
   ·simpa using hs
   clear hs
   rintro k _ w ⟨i,z,rfl,hi,hk,hs⟩
   refine zk ?_
   refine zg (λhc=>?_) λhc=>?_
   rotate_left
   ·refine zn (zh ⟨z,rfl,?_⟩)
    rw [List.take_of_length_le (by omega)] at hs
    exact hs
   have hil:i<ps.length:=by omega
   refine z1k hs (xs:=ps.map Prod.fst) (enc:=z0d) i (by rw [List.length_map];exact hil) ?_
   rw [List.getElem_map]
   have hF:=(hps _ (List.getElem_mem hil)).1
   have h1:=hmany (i+1)
   rw [hstep i hil,List.length_append] at h1
   refine wp_app' (xs:=z26 (ps.flatMap Prod.snd).length++(ps.take i).flatMap Prod.snd) (ys:=ps[i].2) (enc:=zf) hs (λz w' hs=>?_) (by rw [List.length_append,z3q];omega)
   rw [List.append_assoc,<- hstep i hil] at hs
   refine z4c (us':=[z.v,.int .i64 ((i+1:Nat):Int)]) (by (try simp (disch:=omega) only [w64]);first|rfl|(congr;omega)) ?_
   refine z0n (ps.length-(i+1)) ?_
   exact ⟨i+1,z,rfl,by omega,rfl,hs⟩
  clear hs
  rintro _ w ⟨z,rfl,hs⟩
  refine zk ?_
  have hhl:(z25 (ps.flatMap Prod.snd)).length=(ps.flatMap Prod.snd).length+4:=by unfold z25;rw [List.length_append,z3q];omega
  have hsl:=zh1 (z25 (ps.flatMap Prod.snd))
  refine z1w hs (enc:=z0d) z λy w' hs=>?_
  refine za (zgp y z (z25 (ps.flatMap Prod.snd)) (by omega) hs) λ_ _ hs=>?_
  obtain ⟨rfl,hs⟩:=hs
  refine zd ?_
  refine za (znn (z69 (z25 (ps.flatMap Prod.snd))) hsl hs) λ_ _ hs=>?_
  obtain ⟨u,rfl,hs⟩:=hs
  refine zd ?_
  have hs:=hs.pick [2,0,0]
  refine wp_app' (xs:=z25 (ps.flatMap Prod.snd)) (ys:=z26 (z69 (z25 (ps.flatMap Prod.snd)))) (enc:=zf) hs (λz w' hs=>?_) (by rw [z3q];omega)
  have e:z29 (ps.flatMap Prod.snd)=z25 (ps.flatMap Prod.snd)++z26 (z69 (z25 (ps.flatMap Prod.snd))):=by unfold z29;rw [if_neg (by omega)]
  rw [<- e] at hs
  exact ⟨rfl,z,rfl,hs.sub⟩
theorem zjs (x y:Sl) (bs:List UInt8) [hx:FocR l x 1 ([y].flatMap z0d)] [hy:FocR l y 1 (bs.flatMap zf)] (hn:bs.length<=1000000000) (hs:Sat w l) :
  Ret P F.a22 #[x.v] w λvs w'=>∃ z:Sl,vs=[z.v]/\Sat w' (slc T.a34 1 z ((z29 bs).flatMap zf)::l):=by
 have:=@znm w l x [(y,bs)] hx (by intro p hp;rw [List.mem_singleton.1 hp];exact ⟨hy,hn⟩) (by simp) hs
 simpa using this
theorem ze7 (x:Sl) (bs:List UInt8) [hx:FocR l x 1 (bs.flatMap zf)] (hcap:x.len<=x.cap) (hn:bs.length<=1000000000) (hs:Sat w l) :
  Ret P F.a20 #[x.v] w λvs w'=>∃ z:Sl,vs=[z.v,.int .i64 ((((z18 bs).getD ([],0)).2:Nat):Int),.bool (z18 bs).isSome]/\Sat w' (slc T.a34 1 z (((z18 bs).getD ([],0)).1.flatMap zf)::l) :=
 zqu x <| by
  unfold z017
  have hl:=hs.slen x (xs:=bs) (enc:=zf)
  have hno:∀ {w':World},z18 bs=none->Sat w' l->∃ z:Sl,[.slice none 0 0,.int .i64 0,.bool false]=[z.v,.int .i64 ((((z18 bs).getD ([],0)).2:Nat):Int),.bool (z18 bs).isSome]/\Sat w' (slc T.a34 1 z (((z18 bs).getD ([],0)).1.flatMap zf)::l):=λ{w'} h hs=>by
   rw [h];exact ⟨⟨none,0,0⟩,rfl,hs.slc_nil⟩
  refine zg (λh=>?_) λh=>?_
  ·exact ⟨rfl,hno (by unfold z18;rw [if_pos (.inl (by omega))]) hs⟩
  refine za (zcd x bs (by omega) hs) λ_ _ hs=>?_
  obtain ⟨rfl,hs⟩:=hs
  refine zd ?_
  have hf:=(zel bs (by omega)).2
  refine wp_lt ?_
  have e1:IntKind.wrap .i64 ((z0r bs:Nat):Int)=((z0r bs:Nat):Int):=by rw [w64 (by omega) (by omega)]
  have e2:IntKind.wrap .i64 (((x.len:Nat):Int)-8)=((bs.length-8:Nat):Int):=by rw [w64 (by omega) (by omega)];omega
  have e3:IntKind.wrap .i64 (((z0r bs:Nat):Int)+4)=((z0r bs+4:Nat):Int):=by rw [w64 (by omega) (by omega)];omega
  rw [e1,e2,e3]
  refine zg (λh2=>?_) λh2=>?_
  ·exact ⟨rfl,hno (by unfold z18;rw [if_pos (by omega)]) hs⟩
  refine wp_lt ?_
  rw [Int.toNat_natCast]
  have hle:z0r bs+8<=bs.length:=by omega
  have hF1:FocR l ⟨z1f x.a 1 (z0r bs+4) x.cap,x.len-(z0r bs+4),x.cap-(z0r bs+4)⟩ 1 ((bs.drop (z0r bs+4)).flatMap zf):=FocR.post hcap
  have hF2:FocR l ⟨x.a,z0r bs+4,x.cap⟩ 1 ((bs.take (z0r bs+4)).flatMap zf):=FocR.pre (by omega)
  have htl:(bs.take (z0r bs+4)).length<=1000000000:=by rw [List.length_take];omega
  have hdl:4<=(bs.drop (z0r bs+4)).length:=by rw [List.length_drop];omega
  refine zp (λu w'=>u=(decide (z0r (bs.drop (z0r bs+4))≠z69 (bs.take (z0r bs+4))),())/\Sat w' l) ?_ ?_
  ·have hbeq:∀ a b:Nat,(((a:Int) != (b:Int)):Bool)=decide (a≠b):=λa b=>by
    rw [Bool.eq_iff_iff];simp;omega
   refine z07 hs λw' hs=>?_
   refine wp_must ⟨by omega,show ((z0r bs+4:Nat):Int)<=((x.len:Nat):Int) by omega⟩ ?_
   refine wp_must ⟨by omega,show ((z0r bs+4:Nat):Int)<=((x.cap:Nat):Int) by omega⟩ ?_
   refine zd6 ?_ ?_
   ·refine za (zcd ⟨z1f x.a 1 (z0r bs+4) x.cap,x.len-(z0r bs+4),x.cap-(z0r bs+4)⟩ (bs.drop (z0r bs+4)) hdl hs) λ_ _ hs=>?_
    obtain ⟨rfl,hs⟩:=hs
    refine zd ?_
    refine z1w hs (enc:=z0d) ⟨x.a,z0r bs+4,x.cap⟩ λy w' hs=>?_
    refine za (zgp y ⟨x.a,z0r bs+4,x.cap⟩ (bs.take (z0r bs+4)) htl hs) λ_ _ hs=>?_
    obtain ⟨rfl,hs⟩:=hs
    refine zd ?_
    refine zi ?_
    exact zh ⟨by rw [hbeq],hs.tail⟩
   ·refine z1w hs (enc:=z0d) ⟨x.a,z0r bs+4,x.cap⟩ λy w' hs=>?_
    refine za (zcd ⟨z1f x.a 1 (z0r bs+4) x.cap,x.len-(z0r bs+4),x.cap-(z0r bs+4)⟩ (bs.drop (z0r bs+4)) hdl hs) λ_ _ hs=>?_
    obtain ⟨rfl,hs⟩:=hs
    refine zd ?_
    refine za (zgp y ⟨x.a,z0r bs+4,x.cap⟩ (bs.take (z0r bs+4)) htl hs) λ_ _ hs=>?_
    obtain ⟨rfl,hs⟩:=hs
    refine zd ?_
    refine zi ?_
    exact zh ⟨by rw [hbeq],hs.tail⟩
  clear hs
  rintro _ w ⟨rfl,hs⟩
  refine zk ?_
  refine zg (λh3=>?_) λh3=>?_
  ·exact ⟨rfl,hno (by unfold z18;rw [if_neg (by omega),if_neg h3]) hs⟩
  have h3:z0r (bs.drop (z0r bs+4))=z69 (bs.take (z0r bs+4)):=Decidable.not_not.1 h3
  have hsome:z18 bs=some ((bs.drop 4).take (z0r bs),z0r bs+8):=by unfold z18;rw [if_neg (by omega),if_pos h3]
  rw [hsome]
  refine wp_must ⟨by omega,by omega,show ((z0r bs+4:Nat):Int)<=((x.cap:Nat):Int) by omega⟩ ?_
  have hF3:FocR l ⟨z1f x.a 1 4 x.cap,x.len-4,x.cap-4⟩ 1 ((bs.drop 4).flatMap zf):=FocR.post hcap
  have hF4:FocR l ⟨z1f x.a 1 4 x.cap,z0r bs+4-4,x.cap-4⟩ 1 (((bs.drop 4).take (z0r bs+4-4)).flatMap zf):=FocR.pre (x:=⟨z1f x.a 1 4 x.cap,x.len-4,x.cap-4⟩) (by rw [List.length_drop];omega)
  refine za (zjj ⟨z1f x.a 1 4 x.cap,z0r bs+4-4,x.cap-4⟩ ((bs.drop 4).take (z0r bs+4-4)) (by rw [List.length_take];omega) hs) λ_ _ hs=>?_
  obtain ⟨z,rfl,hs⟩:=hs
  refine zd ?_
  refine z1n (y:=((z0r bs+8:Nat):Int)) ?_ (by rw [w64 (by omega) (by omega)];omega)
  exact ⟨rfl,z,rfl,hs⟩
end
section
variable {w:World} {l r:List HP} {p:Nat} {s:Lf}
theorem zn5 {R:RdM} (hb:R.at_<=R.bs.length) (he:R.e=0) (h:R.bs.length-R.at_=0):stR R=some []:=by
 rw [z7j he]
 unfold z4v
 rw [List.drop_eq_nil_of_le (by omega)]
theorem zji {R:RdM} (he:R.e=0) (h:R.at_<R.bs.length):stR R=some (R.bs[R.at_]::R.bs.drop (R.at_+1)):=by
 rw [z7j he]
 unfold z4v
 rw [List.drop_eq_getElem_cons h]
theorem zee {x:Sl} {bs:List UInt8} {n k:Nat} (hcap:x.len<=x.cap) (hk:n+k<=bs.length) [hf:FocR l x 1 (bs.flatMap zf)]:FocR l ⟨z1f x.a 1 n x.cap,k,x.cap-n⟩ 1 (((bs.drop n).take k).flatMap zf):=by
 have h:FocR l ⟨z1f x.a 1 n x.cap,x.len-n,x.cap-n⟩ 1 ((bs.drop n).flatMap zf):=FocR.post hcap
 exact FocR.pre (x:=⟨z1f x.a 1 n x.cap,x.len-n,x.cap-n⟩) (by rw [List.length_drop];omega)
theorem zgr [hf:Fo l (rdS T.a36) p s r] (hs:Sat w l):Ret P F.a139 #[.pointer (some ⟨p,0,none⟩)] w λvs w'=>vs=[.int .i64 ((z12 s).1:Int)]/\Sat w' (rdS T.a36 p (z12 s).2::r) :=
 zln _ <| by
  unfold zwy
  obtain ⟨R,rfl,hs⟩:=z6z (hs.perm hf.perm)
  have hb:=z5u hs
  refine za (zby (p:=p) hs) λ_ _ hs=>?_
  obtain ⟨rfl,hs⟩:=hs
  refine zd ?_
  refine zg (λh=>?_) λh=>?_
  ·have h:R.e≠0:=by simpa using h
   rw [z6m h]
   exact ⟨rfl,rfl,z2p (z6m h) hs⟩
  have h:R.e=0:=by simpa using h
  refine zm ?_
  refine za (zc1 (p:=p) hs) λ_ _ hs=>?_
  obtain ⟨rfl,hs⟩:=hs
  refine zd ?_
  refine zg (λh2=>?_) λh2=>?_
  ·refine zm ?_
   refine za (z79 (p:=p) 6 hs) λ_ _ hs=>?_
   obtain ⟨rfl,hs⟩:=hs
   refine zd ?_
   rw [zn5 hb.1 h (by omega)]
   exact ⟨rfl,rfl,z2p (if_neg (by show ¬ (if R.e=0 then (6:Int) else R.e)=0;rw [if_pos h];decide)) hs⟩
  have hlt:R.at_<R.bs.length:=by omega
  rw [zji h hlt]
  obtain ⟨x,-,hs⟩:=z2m hs
  have hl:=hs.slen x (xs:=R.bs) (enc:=zf)
  have hcap:x.len<=x.cap:=(hs.pick [1]).slc_cap
  refine zm ?_
  refine za (zh6 (p:=p) 1 (x:=x) (bs:=R.bs) (at_:=R.at_) (e:=R.e) (by omega) hb.2 hcap hs) λ_ w' hs=>?_
  obtain ⟨rfl,hs⟩:=hs
  refine zd ?_
  refine z7q (hf:=zee hcap (by omega)) hs (xs:=(R.bs.drop R.at_).take 1) (enc:=zf) 0 (by rw [List.length_take,List.length_drop];omega) ?_ rfl rfl
  have hg:((R.bs.drop R.at_).take 1)[0]'(by rw [List.length_take,List.length_drop];omega)=R.bs[R.at_]:=by simp
  rw [hg]
  have hc:=(R.bs[R.at_]).toNat_lt
  refine z1n (y:=((R.bs[R.at_]).toNat:Int)) ?_ (by rw [w64 (by omega) (by omega)])
  refine ⟨rfl,rfl,z2p (R:=⟨R.bs,R.at_+1,R.e⟩) ?_ (z1b ⟨R.bs,R.at_+1,R.e⟩ ⟨by show R.at_+1<=R.bs.length;omega,hb.2⟩ hs)⟩
  rw [z7j (R:=⟨R.bs,R.at_+1,R.e⟩) h]
  rfl
end
section
variable {w:World} {l r:List HP} {p:Nat} {s:Lf}
theorem ztd {P:Program} {t tx ty el:TypeId} {bytes:Nat} {xs:List UInt8} {t0:ByteArray} {x:Sl} {k:Sl->Prog} {Q:Post} {S:World->Prop} (hs:Sat w l) [ht:SlT P t el 1 bytes] [hst:StT P tx] [hf:FocS l x el 1 (xs.flatMap zf) r]
  (h:∀ z w',Sat w' (slc el 1 z ((xs++bl t0).flatMap zf)::r)->(k z).wp P S w' Q) (hb:(xs.length+t0.size)*bytes<=140737488355328/\xs.length+t0.size<=9223372036854775807) (hS:∀ w',S w':=by exact λ_=>trivial) :
  (Prog.act (app t tx ty (.slice x.a x.len x.cap) (.string t0)) sL (u1 k)).wp P S w Q:=by
 have h1:x.len=xs.length:=(hs.focS x).rd.len (enc:=zf) (λ_=>rfl) (by decide)
 obtain ⟨i,z,hi,h2,rfl,hz,hzs⟩:=ht.parts
 have hsrc:Src P i.size tx (.string t0) t0.size (byteCells t0) w:=by rw [h2];exact Src.ofString w hst.ok t0
 have hs':=hs.focS x
 rw [<- h2] at hs'
 obtain ⟨z,w',hrun,hlen,hs',_⟩:=zj0 (ty:=ty) ht.ok.1 hi hz hzs hs' hsrc (by rw [h1];exact hb.1) (by rw [h1];exact hb.2)
 refine ⟨(z,()),w',hrun,hS _,h z w' ?_⟩
 rw [h2] at hs'
 rw [List.flatMap_append,z9j (bl t0)]
 exact hs'
theorem zmx (t:ByteArray) (ht:t.size<=1000000000) (hs:Sat w l):Ret P F.a148 #[.string t] w λvs w'=>∃ z:Sl,vs=[z.v]/\Sat w' (slc T.a34 1 z ((uI (t.size:Nat)++bl t).flatMap zf)::l) :=
 zma t <| by
  unfold zwo
  refine za (z58 ((t.size:Nat):Int) (by omega) hs) λ_ w' hs=>?_
  obtain ⟨x,rfl,hs⟩:=hs
  refine zd ?_
  have hl:=hs.slen x
  have hul:=z16 ((t.size:Nat):Int)
  refine ztd (t0:=t) (xs:=uI (t.size:Nat)) hs (λz w' hs=>?_) (by omega)
  exact ⟨rfl,z,rfl,hs⟩
theorem zz6 [hf:Fo l (rdS T.a36) p s r] (hs:Sat w l):Ret P F.a142 #[.pointer (some ⟨p,0,none⟩)] w λvs w'=>vs=[.bool (z4k s).1]/\Sat w' (rdS T.a36 p (z4k s).2::r) :=
 zmo _ <| by
  unfold zxc
  obtain ⟨R,rfl,hs⟩:=z6z (hs.perm hf.perm)
  have hb:=z5u hs
  refine za (zby (p:=p) hs) λ_ _ hs=>?_
  obtain ⟨rfl,hs⟩:=hs
  refine zd ?_
  refine zg (λh=>?_) λh=>?_
  ·have h:R.e≠0:=by simpa using h
   rw [z6m h]
   exact ⟨rfl,rfl,z2p (z6m h) hs⟩
  have h:R.e=0:=by simpa using h
  refine z07 hs λw' hs=>?_
  refine zm ?_
  refine za (zc1 (p:=p) hs) λ_ _ hs=>?_
  obtain ⟨rfl,hs⟩:=hs
  refine zd ?_
  obtain ⟨x,-,hs⟩:=z2m hs
  have hl:=hs.slen x (xs:=R.bs) (enc:=zf)
  have hcap:x.len<=x.cap:=(hs.pick [1]).slc_cap
  refine z0k ?_
  refine zb hs ?_
  refine z0k ?_
  refine zb hs ?_
  by_cases h2:R.bs.length-R.at_=0
  ·refine zd5 hs (xs:=R.bs) (enc:=zf) (0:Int) (λhg=>absurd hg (by rw [h2];simp)) ?_
   refine zi ?_
   refine z17 ?_ (by rw [h2];exact .inl rfl)
   refine zm ?_
   have hs:=z1b R hb hs
   refine za (z79 (p:=p) 6 hs) λ_ _ hs=>?_
   obtain ⟨rfl,hs⟩:=hs
   refine zd ?_
   rw [zn5 hb.1 h h2]
   exact ⟨rfl,rfl,z2p (if_neg (by show ¬ (if R.e=0 then (6:Int) else R.e)=0;rw [if_pos h];decide)) hs⟩
  ·have hlt:R.at_<R.bs.length:=by omega
   refine zd5 hs (xs:=R.bs) (enc:=zf) (((R.bs[R.at_]).toNat:Nat):Int) (λ_=>⟨R.at_,hlt,rfl,rfl⟩) ?_
   refine zi ?_
   rw [zji h hlt]
   have hc:=(R.bs[R.at_]).toNat_lt
   unfold z4k
   simp only
   refine zg (λh3=>?_) λh3=>?_
   ·rw [if_neg (by omega)]
    refine zm ?_
    have hs:=z1b R hb hs
    refine za (z79 (p:=p) 6 hs) λ_ _ hs=>?_
    obtain ⟨rfl,hs⟩:=hs
    refine zd ?_
    exact ⟨rfl,rfl,z2p (if_neg (by show ¬ (if R.e=0 then (6:Int) else R.e)=0;rw [if_pos h];decide)) hs⟩
   ·rw [if_pos (by omega)]
    refine zm ?_
    refine za (zh6 (p:=p) 1 (x:=x) (bs:=R.bs) (at_:=R.at_) (e:=R.e) (by omega) hb.2 hcap hs) λ_ w' hs=>?_
    obtain ⟨rfl,hs⟩:=hs
    refine zd ?_
    refine z7q (hf:=zee hcap (by omega)) hs (xs:=(R.bs.drop R.at_).take 1) (enc:=zf) 0 (by rw [List.length_take,List.length_drop];omega) ?_ rfl rfl
    have hg:((R.bs.drop R.at_).take 1)[0]'(by rw [List.length_take,List.length_drop];omega)=R.bs[R.at_]:=by simp
    rw [hg]
    refine wp_lt ?_
    have e:((((R.bs[R.at_]).toNat:Nat):Int) == 1)=decide ((R.bs[R.at_]).toNat=1):=by
     rw [Bool.eq_iff_iff];simp;omega
    rw [e]
    refine ⟨rfl,rfl,z2p (R:=⟨R.bs,R.at_+1,R.e⟩) ?_ (z1b ⟨R.bs,R.at_+1,R.e⟩ ⟨by show R.at_+1<=R.bs.length;omega,hb.2⟩ hs)⟩
    rw [z7j (R:=⟨R.bs,R.at_+1,R.e⟩) h]
    rfl
theorem znv (most:Nat) (hm:most<=1000000000) [hf:Fo l (rdS T.a36) p s r] (hs:Sat w l):Ret P F.a144 #[.pointer (some ⟨p,0,none⟩),.int .i64 (most:Nat)] w λvs w'=>vs=[.string (z1q most s).1]/\Sat w' (rdS T.a36 p (z1q most s).2::r) :=
 zm4 _ _ <| by
  unfold zw9
  obtain ⟨R,rfl,hs⟩:=z6z (hs.perm hf.perm)
  have hb:=z5u hs
  refine za (zby (p:=p) hs) λ_ _ hs=>?_
  obtain ⟨rfl,hs⟩:=hs
  refine zd ?_
  refine zg (λh=>?_) λh=>?_
  ·have h:R.e≠0:=by simpa using h
   rw [z6m h]
   exact ⟨rfl,rfl,z2p (z6m h) hs⟩
  have h:R.e=0:=by simpa using h
  refine zm ?_
  obtain ⟨x,-,hs⟩:=z2m hs
  refine zb hs ?_
  refine wp_lt ?_
  refine zm ?_
  have hs:=z1b R hb hs
  refine za (zmq (p:=p) h hs) λ_ _ hs=>?_
  obtain ⟨rfl,hs⟩:=hs
  refine zd ?_
  refine wp_lt ?_
  refine zm ?_
  have hst:=zda (R:=R)
  have hbs:=zng R
  generalize hU:R.uint=U at *
  obtain ⟨v,R'⟩:=U
  have hs:Sat _ (rdP T.a36 p R'::r):=hs
  have hbs:R'.bs=R.bs:=hbs
  have hb':=z5u hs
  obtain ⟨y,-,hs⟩:=z2m hs
  have hl:=hs.slen y (xs:=R'.bs) (enc:=zf)
  have hcap:y.len<=y.cap:=(hs.pick [1]).slc_cap
  refine zb hs ?_
  refine wp_lt ?_
  have hend':∀ {w':World} {e:Int} {y:Sl},e≠0->Sat w' (pt p (.cells #[.slice y.a y.len y.cap,.int .i64 R'.at_,.int .i64 e] T.a36)::slc T.a34 1 y (R'.bs.flatMap zf)::r) ->
    (z1q most (stR R)).2=none->(z1q most (stR R)).1=⟨#[]⟩ ->
    (Prog.ex [.adr] (c1 λa27=>some ((⟨p,0,none⟩:Addr))=some a27) (u1 λa28=>.actU (st T.a10 (Addr.add (Addr.add a28 0) 1) (.int .i64 (R.at_:Int))) <| .done 0 [.string (ByteArray.mk #[])])).wp P (λ_=>True) w' λe vs w'=>e=0/\vs=[.string (z1q most (stR R)).1]/\Sat w' (rdS T.a36 p (z1q most (stR R)).2::r):=by
   intro w' e y he hs h1 h2
   refine zm ?_
   refine z0f hs λw' hs=>?_
   rw [h1,h2]
   refine ⟨rfl,rfl,z2p (R:=⟨R'.bs,R.at_,e⟩) (z6m he) (z1b ⟨R'.bs,R.at_,e⟩ ⟨by rw [hbs];exact hb.1,hb'.2⟩ hs)⟩
  refine z3z ?_
  refine zg (λhe=>?_) λhe=>?_
  ·have he:R'.e≠0:=by simpa using he
   refine z3f ?_
   have h1:(z0v (stR R)).2=none:=by rw [<- hst.2];exact z6m he
   refine hend' he hs (by unfold z1q;rw [h1]) (by unfold z1q;rw [h1])
  ·have he:R'.e=0:=by simpa using he
   have h1:(z0v (stR R)).2=some (z4v R'):=by rw [<- hst.2];exact z7j he
   have hv:=z70 h1
   have h0:(z0v (stR R)).1=v:=hst.1.symm
   have hlen:(z4v R').length=R'.bs.length-R'.at_:=zkq
   have ew:IntKind.wrap .u64 (if 0>((most:Nat):Int) then 0 else ((most:Nat):Int))=((most:Nat):Int):=by
    rw [if_neg (by omega),zjn (by omega) (by omega)]
   rw [ew]
   refine wp_lt ?_
   refine z3z ?_
   refine zg (λh3=>?_) λh3=>?_
   ·refine zm ?_
    have hs:=z1b R' hb' hs
    refine za (z79 (p:=p) 7 hs) λ_ _ hs=>?_
    obtain ⟨rfl,hs⟩:=hs
    refine zd ?_
    refine z3f ?_
    refine z3f ?_
    obtain ⟨y2,-,hs⟩:=z2m hs
    refine hend' (e:=(R'.fail 7).e) ?_ hs ?_ ?_
    ·show (if R'.e=0 then (7:Int) else R'.e)≠0
     rw [if_pos he];decide
    ·unfold z1q;rw [h1];simp only;rw [h0,if_neg (by omega)]
    ·unfold z1q;rw [h1];simp only;rw [h0,if_neg (by omega)]
   ·refine zm ?_
    have hs:=z1b R' hb' hs
    refine za (zc1 (p:=p) hs) λ_ _ hs=>?_
    obtain ⟨rfl,hs⟩:=hs
    refine zd ?_
    have eu:IntKind.wrap .u64 ((R'.bs.length-R'.at_:Nat):Int)=((R'.bs.length-R'.at_:Nat):Int):=zjn (by omega) (by omega)
    rw [eu]
    refine wp_lt ?_
    refine zg (λh4=>?_) λh4=>?_
    ·refine zm ?_
     refine za (z79 (p:=p) 6 hs) λ_ _ hs=>?_
     obtain ⟨rfl,hs⟩:=hs
     refine zd ?_
     refine z3f ?_
     refine z3f ?_
     obtain ⟨y2,-,hs⟩:=z2m hs
     refine hend' (e:=(R'.fail 6).e) ?_ hs ?_ ?_
     ·show (if R'.e=0 then (6:Int) else R'.e)≠0
      rw [if_pos he];decide
     ·unfold z1q;rw [h1];simp only;rw [h0,if_neg (by omega)]
     ·unfold z1q;rw [h1];simp only;rw [h0,if_neg (by omega)]
    ·refine zm ?_
     rw [w64 (by omega) (by omega)]
     obtain ⟨y2,-,hs⟩:=z2m hs
     have hcap2:y2.len<=y2.cap:=(hs.pick [1]).slc_cap
     refine za (zh6 (p:=p) v (x:=y2) (bs:=R'.bs) (at_:=R'.at_) (e:=R'.e) (by omega) hb'.2 hcap2 hs) λ_ w' hs=>?_
     obtain ⟨rfl,hs⟩:=hs
     refine zd ?_
     refine zs7 (hf:=zee hcap2 (by omega)) (bs:=(R'.bs.drop R'.at_).take v) hs ?_
     refine wp_lt ?_
     have e1:z1q most (stR R)=(⟨((z4v R').take v).toArray⟩,some ((z4v R').drop v)):=by
      unfold z1q;rw [h1];simp only;rw [h0,if_pos ⟨by omega,by omega⟩]
     rw [e1]
     refine zn (zn ⟨rfl,rfl,z2p (R:=⟨R'.bs,R'.at_+v,R'.e⟩) ?_ (z1b ⟨R'.bs,R'.at_+v,R'.e⟩ ⟨by show R'.at_+v<=R'.bs.length;omega,hb'.2⟩ hs)⟩)
     rw [z7j (R:=⟨R'.bs,R'.at_+v,R'.e⟩) he]
     unfold z4v
     rw [List.drop_drop]
end
section
variable {w:World} {l r:List HP} {p:Nat} {s:Lf}
theorem z9d (most:Int) (hm:0<=most/\most<9223372036854775807) [hf:Fo l (rdS T.a36) p s r] (hs:Sat w l):Ret P F.a50 #[.pointer (some ⟨p,0,none⟩),.int .i64 most] w λvs w'=>vs=[.int .i64 (z09 most s).1]/\Sat w' (rdS T.a36 p (z09 most s).2::r) :=
 zob _ most <| by
  unfold z019 z09
  refine za (zgi (p:=p) hs) λ_ _ hs=>?_
  obtain ⟨rfl,hs⟩:=hs
  refine zd ?_
  refine wp_lt ?_
  have e:IntKind.wrap .u64 most=most:=by rw [z40];omega
  rw [e]
  refine zg (λh=>?_) λh=>?_
  ·refine z1n (y:=most+1) ?_ (by rw [w64 (by omega) (by omega)])
   rw [if_pos h]
   exact ⟨rfl,rfl,hs⟩
  ·refine z1n (y:=((z0v s).1:Int)) ?_ (by rw [w64 (by omega) (by omega)])
   rw [if_neg h]
   exact ⟨rfl,rfl,hs⟩
theorem zn6 (a b:ByteArray) (ha:a.size<=1000000000) (hs:Sat w l):Ret P F.a43 #[.string a,.string b] w λvs w'=>vs=[.int .i64 (z04 (bl a) (bl b):Nat)]/\Sat w' l :=
 zqx a b <| by
  unfold z004
  refine z1n (y:=((min a.size b.size:Nat):Int)) ?_ (by split <;> omega)
  refine zp (λ_ w'=>(bl a).take (min a.size b.size)=(bl b).take (min a.size b.size)/\Sat w' l) ?_ ?_
  rotate_left
  ·rintro _ w' ⟨ht,hs⟩
   refine zk ?_
   refine wp_lt ?_
   refine ⟨rfl,?_,hs⟩
   rw [zc0 (i:=min a.size b.size) (by rw [z0z];omega) (by rw [z0z];omega) ht (by rw [z0z,z0z];omega)]
  refine z08 (λk v w=>∃ i:Nat,v=((i:Int),())/\i<=min a.size b.size/\min a.size b.size-i=k/\(bl a).take i=(bl b).take i/\Sat w l) (min a.size b.size) ⟨0,rfl,by omega,rfl,rfl,hs⟩ ?_
  clear hs
  rintro k _ w ⟨i,rfl,hi,hk,ht,hs⟩
  refine zk ?_
  refine zg (λhc=>?_) λhc=>?_
  rotate_left
  ·refine zn (zh ⟨?_,hs⟩)
   have:i=min a.size b.size:=by omega
   rwa [this] at ht
  have h1:i<(bl a).length:=by rw [z0z];omega
  have h2:i<(bl b).length:=by rw [z0z];omega
  refine wp_lt ?_
  refine z07 hs λw' hs=>?_
  refine wp_must (by omega) ?_
  refine wp_must (by omega) ?_
  refine zi ?_
  have hb:∀ (c:ByteArray) (h:i<(bl c).length),bt c (i:Int)=(((bl c)[i]).toNat:Int):=λc h=>by
   unfold bt
   rw [Int.toNat_natCast,List.getD_eq_getElem?_getD,List.getElem?_eq_getElem h];rfl
  rw [hb a h1,hb b h2]
  refine zg (λhd=>?_) λhd=>?_
  ·refine wp_lt ?_
   refine zn (zn ⟨rfl,?_,hs⟩)
   have hne:(bl a)[i]≠(bl b)[i]:=λe=>by rw [e] at hd;simp at hd
   rw [zc0 (i:=i) (by omega) (by omega) ht (.inr (.inr (by rw [List.getElem?_eq_getElem h1,List.getElem?_eq_getElem h2];simpa using hne)))]
  ·have he:(bl a)[i]=(bl b)[i]:=by
    apply UInt8.toNat_inj.1
    have:(((bl a)[i]).toNat:Int)=(((bl b)[i]).toNat:Int):=by simpa using hd
    omega
   refine z4c (us':=[.int .i64 ((i+1:Nat):Int)]) (by (try simp (disch:=omega) only [w64]);first|rfl|(congr;omega)) ?_
   refine z0n (min a.size b.size-(i+1)) ?_
   exact ⟨i+1,rfl,by omega,rfl,by rw [List.take_succ_eq_append_getElem h1,List.take_succ_eq_append_getElem h2,ht,he],hs⟩
end
theorem zod {lo hi:Int} (h:lo<=0/\0<=hi) (s:Lf):lo<=(z1r lo hi s).1/\(z1r lo hi s).1<=hi:=by
 unfold z1r
 split
 ·exact h
 ·split
  ·exact h
  ·simp only;omega
theorem ze6 {most:Int} (h:0<=most) (s:Lf):0<=(z09 most s).1/\(z09 most s).1<=most+1:=by
 unfold z09
 simp only
 split <;> omega
theorem zuq (most:Nat) (s:Lf):(z1q most s).1.size<=most:=by
 unfold z1q
 split
 ·show 0<=most;omega
 ·split
  ·rename_i h
   show (List.take _ _).length<=most
   rw [List.length_take];omega
  ·show 0<=most;omega
section
variable {w:World} {l r:List HP} {p:Nat} {s:Lf}
theorem zyk (time:Int) (ht:0<=time/\time<=1099511627776) (ahead:ByteArray) (ha:ahead.size<=100000) [hf:Fo l (rdS T.a36) p s r] (hs:Sat w l) :
  Ret P F.a48 #[.pointer (some ⟨p,0,none⟩),.int .i64 time,.string ahead] w λvs w'=>∃ x:RecM,vs=[.agg (zx x).toArray,.bool (z3m time ahead s).1.isSome]/\(∀ y,(z3m time ahead s).1=some y->x=y)/\x.key.size<=2100/\Sat w' (rdS T.a36 p (z3m time ahead s).2::r) :=
 zov _ _ _ <| by
  unfold z010
  refine zy hs λa0 w' hs=>?_
  have hbd:=zod (lo := -1099511627776) (hi:=1099511627776) (by decide) s
  refine za (ztp (p:=p) (-1099511627776) 1099511627776 hs) λ_ _ hs=>?_
  obtain ⟨rfl,hs⟩:=hs
  refine zd ?_
  refine wp_lt ?_
  refine za (zz6 (p:=p) hs) λ_ _ hs=>?_
  obtain ⟨rfl,hs⟩:=hs
  refine zd ?_
  refine zy hs λa4 w' hs=>?_
  rw [w64 (by omega) (by omega)]
  refine z03 hs λw' hs=>?_
  refine za (z9d (p:=p) 1024 (by omega) hs) λ_ _ hs=>?_
  obtain ⟨rfl,hs⟩:=hs
  refine zd ?_
  refine wp_lt ?_
  refine za (znv (p:=p) 1024 (by omega) hs) λ_ _ hs=>?_
  obtain ⟨rfl,hs⟩:=hs
  refine zd ?_
  refine wp_lt ?_
  have hR:z3m time ahead s=if (z09 1024 (z4k (z1r (-1099511627776) 1099511627776 s).2).2).1>ahead.size then (none,(z1q 1024 (z09 1024 (z4k (z1r (-1099511627776) 1099511627776 s).2).2).2).2) else
   let a:=z1r (-1099511627776) 1099511627776 s
   let b:=z4k a.2
   let c:=z09 1024 b.2
   let d:=z1q 1024 c.2
   let e:=if b.1 then (⟨#[]⟩,d.2) else z1q 1024 d.2
   if e.2.isSome=true/\(z04 (bl ahead) (bl (z57 ahead c.1 d.1)):Int)=c.1 then (some ⟨z57 ahead c.1 d.1,e.1,b.1,time+a.1⟩,e.2) else (none,e.2):=rfl
  simp only at hR
  have hcb:=ze6 (most:=1024) (by decide) (z4k (z1r (-1099511627776) 1099511627776 s).2).2
  have hdb:=zuq 1024 (z09 1024 (z4k (z1r (-1099511627776) 1099511627776 s).2).2).2
  generalize z3m time ahead s=RR at *
  generalize z1r (-1099511627776) 1099511627776 s=a at *
  generalize z4k a.2=b at *
  generalize z09 1024 b.2=c at *
  generalize z1q 1024 c.2=d at *
  refine zg (λh=>?_) λh=>?_
  ·rw [if_pos h] at hR
   subst hR
   refine zt hs ?_
   refine z03 hs λw' hs=>?_
   refine zt hs ?_
   exact ⟨rfl,⟨⟨#[]⟩,⟨#[]⟩,b.1,time+a.1⟩,rfl,(λy hy=>by cases hy),by show 0<=2100;omega,hs.sub⟩
  rw [if_neg h] at hR
  refine wp_must (by omega) ?_
  have hks:(ByteArray.extract ahead 0 (Int.toNat c.1)).size<=1025:=by
   rw [ByteArray.size_extract];omega
  refine wp_must (by omega) ?_
  refine z0f hs λw' hs=>?_
  have ek:ByteArray.extract ahead 0 (Int.toNat c.1)++d.1=z57 ahead c.1 d.1:=rfl
  rw [ek] at hs
  refine zb hs ?_
  have hkey:(z57 ahead c.1 d.1).size<=2100:=by
   unfold z57
   rw [ByteArray.size_append]
   omega
  refine zp (λ_ w'=>Sat w' (pt a4 (.cells #[.string (z57 ahead c.1 d.1),.string (if b.1=true then ((⟨#[]⟩:ByteArray),d.2) else z1q 1024 d.2).1,.bool b.1,.int .i64 (time+a.1)] T.a3)::rdS T.a36 p (if b.1=true then ((⟨#[]⟩:ByteArray),d.2) else z1q 1024 d.2).2::pt a0 (.cells #[.string ⟨#[]⟩,.string ⟨#[]⟩,.bool false,.int .i64 0] T.a3)::r)) ?_ ?_
  ·refine zg (λh2=>?_) λh2=>?_
   ·have h2:b.1=false:=by simpa using h2
    refine za (znv (p:=p) 1024 (by omega) hs) λ_ _ hs=>?_
    obtain ⟨rfl,hs⟩:=hs
    refine zd ?_
    refine z0f hs λw' hs=>?_
    refine zh ?_
    rw [if_neg (by rw [h2];simp)]
    exact hs.sub
   ·have h2:b.1=true:=by simpa using h2
    refine zh ?_
    rw [if_pos h2]
    dsimp only
    exact hs.sub
  rintro _ w1 hs
  generalize (if b.1=true then ((⟨#[]⟩:ByteArray),d.2) else z1q 1024 d.2)=e at *
  refine zp (λq w'=>q=(RR.1.isSome,())/\Sat w' (pt a0 (.cells #[.string (z57 ahead c.1 d.1),.string e.1,.bool b.1,.int .i64 (time+a.1)] T.a3)::rdS T.a36 p e.2::r)) ?_ ?_
  ·refine z07 hs λw' hs=>?_
   refine zgd hs ?_
   refine za (zsa (p:=p) hs) λ_ _ hs=>?_
   obtain ⟨er,rfl,her,hs⟩:=hs
   refine zd ?_ (by first|trivial|(repeat (first|exact trivial|exact λ_=>z0i hs|exact λ_=>z0o hs|refine And.intro ?_ ?_)))
   refine zb hs ?_
   refine zg (λh2=>?_) λh2=>?_
   ·have h2:e.2.isSome=true:=her.1 (by simpa using h2)
    refine za (zn6 ahead (z57 ahead c.1 d.1) (by omega) hs) λ_ _ hs=>?_
    obtain ⟨rfl,hs⟩:=hs
    refine zd ?_ (by first|trivial|(repeat (first|exact trivial|exact λ_=>z0i hs|exact λ_=>z0o hs|refine And.intro ?_ ?_)))
    refine zi ?_
    refine z03 hs λw' hs=>?_
    refine wp_lt ?_
    refine zi ?_
    refine zh ⟨?_,hs.sub⟩
    have e3:(((z04 (bl ahead) (bl (z57 ahead c.1 d.1)):Nat):Int) == c.1)=RR.1.isSome:=by
     rw [hR]
     by_cases h3:((z04 (bl ahead) (bl (z57 ahead c.1 d.1)):Nat):Int)=c.1
     ·rw [if_pos ⟨h2,h3⟩];simpa using h3
     ·rw [if_neg λh=>h3 h.2];simpa using h3
    rw [e3]
   ·have h2:¬ e.2.isSome=true:=λh=>h2 (by simpa using her.2 h)
    refine zi ?_
    refine z03 hs λw' hs=>?_
    refine zi ?_
    refine zh ⟨?_,hs.sub⟩
    rw [hR,if_neg λh=>h2 h.1]
    rfl
  rintro _ w1 ⟨rfl,hs⟩
  refine zt hs ?_
  refine ⟨rfl,⟨z57 ahead c.1 d.1,e.1,b.1,time+a.1⟩,rfl,λy hy=>?_,hkey,?_⟩
  ·rw [hR] at hy
   split at hy
   ·simpa using hy
   ·cases hy
  ·have e4:RR.2=e.2:=by rw [hR];split <;> rfl
   rw [e4]
   exact hs.sub
end
section
variable {P:Program} {w:World} {l r:List HP} {Q:Post} {S:World->Prop} {t:TypeId} {sz:Nat}
theorem zxf {α β γ δ:Type} {f:α->β->γ->δ->Prog} (a:α) (b:β) (c:γ) (d:δ) (h:(f a b c d).wp P S w Q):(u4 f (a,b,c,d,())).wp P S w Q:=h
theorem FocR.nil' (sz:Nat):FocR l ⟨none,0,0⟩ sz ([]:List Value):=⟨λ_ _=>⟨(Nat.zero_mul sz).symm,.inl rfl⟩⟩
theorem zcy {α:Type} {enc:α->List Value} {n:Nat} {ps:Array (Nat × Value)} {el:TypeId} {bytes:Nat} {k:Sl->Prog} (hs:Sat w l) [ht:SlT P t el sz bytes] [hE:EncN enc sz] (xs:List α)
  (h:∀ x w',Sat w' (slc el sz x (xs.flatMap enc)::l)->(k x).wp P S w' Q) (hc:z4h P t n ps=some (el,(xs.flatMap enc).toArray):=by kernel_rfl) (hn:xs.length=n:=by rfl) (hS:∀ w',S w':=by exact λ_=>trivial) :
  (Prog.act (Instr.buildSlice t n ps) sL (u1 k)).wp P S w Q:=z8t hs xs hc (λb w' hs=>h _ w' hs) (by simp) hn hS
end
section
variable {P:Program} {w:World} {l r:List HP} {Q:Post} {S:World->Prop} {α β γ δ ε ζ η θ:Type}
theorem z33 {f:α->β->Prog} (a:α) (b:β) (h:(f a b).wp P S w Q):(u2 f (a,b,())).wp P S w Q:=h
theorem zqm {f:α->β->γ->Prog} (a:α) (b:β) (c:γ) (h:(f a b c).wp P S w Q):(u3 f (a,b,c,())).wp P S w Q:=h
theorem z033 {f:α->β->γ->δ->ε->Prog} (a:α) (b:β) (c:γ) (d:δ) (e:ε) (h:(f a b c d e).wp P S w Q):(u5 f (a,b,c,d,e,())).wp P S w Q:=h
theorem zd8 {f:α->β->γ->δ->ε->ζ->η->Prog} (a:α) (b:β) (c:γ) (d:δ) (e:ε) (z:ζ) (y:η) (h:(f a b c d e z y).wp P S w Q):(u7 f (a,b,c,d,e,z,y,())).wp P S w Q:=h
theorem zge {f:α->β->γ->δ->ε->ζ->η->θ->Prog} (a:α) (b:β) (c:γ) (d:δ) (e:ε) (z:ζ) (y:η) (x:θ) (h:(f a b c d e z y x).wp P S w Q):(u8 f (a,b,c,d,e,z,y,x,())).wp P S w Q:=h
theorem zte {f : FuncId} {cap : Array Value} {args : List Value} {s : Sh} {k : HL s.prims → Prog} {vs₀ : List Value} {R : World → Prop} (hok : (P.funcs[f]?).any (fun fn => fn.body.isSome && fn.name != "runtime.NumGoroutine") = true) (x : HL s.prims)
  (hc:Ret P f (args.toArray++cap) w λvs w'=>vs=vs₀/\R w') (hx:za4 vs₀=s.mk x) (h:∀ w',R w'->S w'/\(k x).wp P S w' Q):(Prog.callv (.func (.func f) #[] cap) args s k).wp P S w Q:=by
 refine ⟨f,#[],cap,rfl,hok,?_⟩
 have e:(#[]:Array Value)++args.toArray++cap=args.toArray++cap:=by simp
 rw [e]
 refine Calls.mono hc λe w' ⟨vs,he,hv,hR⟩=>?_
 exact ⟨x,by rw [he,hv,hx],h w' hR⟩
end
section
variable {P:Program} {w:World} {l r:List HP} {Q:Post} {S:World->Prop} {T:TypeId} {sz:Nat} {x:Sl}
theorem At.part {A:Addr} {vs:List Value} (h:At w A vs) (j q:Nat):At w (A.add j) ((vs.drop j).take q):=by
 obtain ⟨b,o,arr,T',fr,rfl,hb,hc⟩:=h
 refine ⟨b,o+j,arr,T',fr,z2x ..,hb,λi hi=>?_⟩
 rw [List.length_take,List.length_drop] at hi
 rw [List.getElem?_take,if_pos (by omega),List.getElem?_drop,Nat.add_assoc,hc (j+i) (by omega)]
end
def zqj:BatM:=⟨0,0,0,0,0,0,z7i,[]⟩
abbrev zeroC:Array Value:=#[.int .i64 0,.int .i64 0,.int .i64 0,.int .i64 0,.int .i64 0,.int .i64 0,.slice none 0 0]
theorem ztb {P:Program} {p:Prog} {S:World->Prop} {w:World} {Q0 Q:Post} (h:p.wp P S w Q0) (h0:∀ e vs w,Q0 e vs w->e=0) (hQ:∀ vs w,Q0 0 vs w->Q 0 vs w):p.wp P S w Q :=
 Prog.wp_mono p (λe vs w h=>by have:=h0 e vs w h;subst this;exact hQ vs w h) h
theorem zpr (time:Int) (n:Nat) (ahead:ByteArray) (s:Lf):z4q time (n+1) ahead s=match (z3m time ahead s).1 with
  | none=>none
  | some x=>(z4q time n x.key (z3m time ahead s).2).map λq=>(x::q.1,q.2):=rfl
def BatM.at (b:BatM) (z:Sl):BatM:={ b with x:=z }
section
variable {w:World} {l r:List HP} {p:Nat} {s:Lf}
theorem zkn (x:Sl) (raw:List UInt8) [hx:FocR l x 1 (raw.flatMap zf)] (hn:raw.length<=1000000000) (hs:Sat w l) :
  Ret P F.a37 #[x.v] w λvs w'=>(∃ b z,z5z raw=some b/\vs=[.agg (zj (b.at z)).toArray,.int .i64 0]/\Sat w' (slc T.a3 4 z (b.rs.flatMap zx)::l)) \/
   (z5z raw=none/\vs=[.agg (zj zqj).toArray,.int .i64 6]/\Sat w' l) :=
 zqa _ <| by
  unfold z01p
  refine zy hs λa0 w' hs=>?_
  refine zy hs λa1 w' hs=>?_
  refine z03 hs λw' hs=>?_
  refine za (zsp x raw hn hs) λ_ w' hs=>?_
  obtain ⟨p,rfl,hs⟩:=hs
  refine zd ?_
  refine za (zgr (p:=p) hs) λ_ _ hs=>?_
  obtain ⟨rfl,hs⟩:=hs
  refine zd ?_
  have hfail:∀ {w':World},Sat w' (pt a1 (.cells zeroC T.a1)::pt a0 (.cells zeroC T.a1)::l)->z5z raw=none ->
    (Prog.read True (ld T.a1 ⟨a1,0,none⟩) (sG [.int .i64,.int .i64,.int .i64,.int .i64,.int .i64,.int .i64,.slc]) (u7 λn4 n5 n6 n7 n8 n9 l10 =>
     .actU (st T.a1 ⟨a0,0,none⟩ (.agg #[.int .i64 n4,.int .i64 n5,.int .i64 n6,.int .i64 n7,.int .i64 n8,.int .i64 n9,l10.v])) <|
     .read True (ld T.a1 ⟨a0,0,none⟩) (sG [.int .i64,.int .i64,.int .i64,.int .i64,.int .i64,.int .i64,.slc]) (u7 λn11 n12 n13 n14 n15 n16 l17 =>
     .done 0 [.agg #[.int .i64 n11,.int .i64 n12,.int .i64 n13,.int .i64 n14,.int .i64 n15,.int .i64 n16,l17.v],.int .i64 6]))).wp P (λ_=>True) w' λe vs w=>e=0/\((∃ b z,z5z raw=some b/\vs=[.agg (zj (b.at z)).toArray,.int .i64 0]/\Sat w (slc T.a3 4 z (b.rs.flatMap zx)::l)) \/
      (z5z raw=none/\vs=[.agg (zj zqj).toArray,.int .i64 6]/\Sat w l)):=by
   intro w' hs hd
   have hs:Sat w' (pt a1 (.cells [.int .i64 0,.int .i64 0,.int .i64 0,.int .i64 0,.int .i64 0,.int .i64 0,.slice none 0 0].toArray T.a1)::pt a0 (.cells [.int .i64 0,.int .i64 0,.int .i64 0,.int .i64 0,.int .i64 0,.int .i64 0,.slice none 0 0].toArray T.a1)::l):=hs
   refine zt hs ?_
   refine z03 hs λw' hs=>?_
   refine zt hs ?_
   exact ⟨rfl,.inr ⟨hd,rfl,hs.sub⟩⟩
  replace hs:Sat _ (rdS T.a36 p (z12 (some raw)).2::pt a1 (.cells zeroC T.a1)::pt a0 (.cells zeroC T.a1)::l):=hs.sub
  refine zg (λh=>?_) λh=>?_
  ·refine hfail hs.sub ?_
   unfold z5z
   rw [if_pos (by omega)]
  have hdec:z5z raw=zjg (hdS (z12 (some raw)).2):=by
   unfold z5z
   rw [if_neg (by omega)]
  generalize z5z raw=DD at *
  generalize (z12 (some raw)).2=s at *
  have hH:hdS s=⟨z12 s,z09 1099511627776 (z12 s).2,z09 1048576 (z09 1099511627776 (z12 s).2).2,
   if (z09 1048576 (z09 1099511627776 (z12 s).2).2).1>0 then z09 32767 (z09 1048576 (z09 1099511627776 (z12 s).2).2).2 else (0,(z09 1048576 (z09 1099511627776 (z12 s).2).2).2),
   if (z09 1048576 (z09 1099511627776 (z12 s).2).2).1>0/\z3g (z12 s).1=false then z09 2147483647 (if (z09 1048576 (z09 1099511627776 (z12 s).2).2).1>0 then z09 32767 (z09 1048576 (z09 1099511627776 (z12 s).2).2).2 else (0,(z09 1048576 (z09 1099511627776 (z12 s).2).2).2)).2 else (0,(if (z09 1048576 (z09 1099511627776 (z12 s).2).2).1>0 then z09 32767 (z09 1048576 (z09 1099511627776 (z12 s).2).2).2 else (0,(z09 1048576 (z09 1099511627776 (z12 s).2).2).2)).2),
   z09 1099511627776 (if (z09 1048576 (z09 1099511627776 (z12 s).2).2).1>0/\z3g (z12 s).1=false then z09 2147483647 (if (z09 1048576 (z09 1099511627776 (z12 s).2).2).1>0 then z09 32767 (z09 1048576 (z09 1099511627776 (z12 s).2).2).2 else (0,(z09 1048576 (z09 1099511627776 (z12 s).2).2).2)).2 else (0,(if (z09 1048576 (z09 1099511627776 (z12 s).2).2).1>0 then z09 32767 (z09 1048576 (z09 1099511627776 (z12 s).2).2).2 else (0,(z09 1048576 (z09 1099511627776 (z12 s).2).2).2)).2)).2⟩:=rfl
  refine za (zgr (p:=p) hs) λ_ _ hs=>?_
  obtain ⟨rfl,hs⟩:=hs
  refine zd ?_
  generalize z12 s=k at *
  refine za (z9d (p:=p) 1099511627776 (by omega) hs) λ_ _ hs=>?_
  obtain ⟨rfl,hs⟩:=hs
  refine zd ?_
  generalize z09 1099511627776 k.2=ba at *
  refine za (z9d (p:=p) 1048576 (by omega) hs) λ_ _ hs=>?_
  obtain ⟨rfl,hs⟩:=hs
  refine zd ?_
  generalize z09 1048576 ba.2=pi at *
  refine zy hs λa2 w' hs=>?_
  refine z03 hs λw' hs=>?_
  refine zb hs ?_
  generalize hep:(if pi.1>0 then z09 32767 pi.2 else (0,pi.2))=ep at *
  generalize hsq:(if pi.1>0/\z3g k.1=false then z09 2147483647 ep.2 else (0,ep.2))=sq at *
  refine zp (λ_ w'=>Sat w' (pt a2 (.cells [.int .i64 ba.1,.int .i64 pi.1,.int .i64 ep.1,.int .i64 sq.1,.int .i64 k.1,.int .i64 0,.slice none 0 0].toArray T.a1)::rdS T.a36 p sq.2::pt a1 (.cells zeroC T.a1)::pt a0 (.cells zeroC T.a1)::l)) ?_ ?_
  ·refine zg (λh=>?_) λh=>?_
   ·rw [if_pos h] at hep
    refine za (z9d (p:=p) 32767 (by omega) hs) λ_ _ hs=>?_
    obtain ⟨rfl,hs⟩:=hs
    refine zd ?_
    rw [hep] at hs ⊢
    refine z0f hs λw' hs=>?_
    refine zt hs ?_
    refine za (z75 ⟨ba.1,pi.1,ep.1,0,k.1,0,z7i,[]⟩ hs) λ_ w' hs=>?_
    obtain ⟨rfl,hs⟩:=hs
    refine zd ?_
    have em:z10 ⟨ba.1,pi.1,ep.1,0,k.1,0,z7i,[]⟩=z3g k.1:=rfl
    rw [em]
    refine z3z ?_
    refine zg (λh2=>?_) λh2=>?_
    ·have h2:z3g k.1=false:=by simpa using h2
     rw [if_pos ⟨h,h2⟩] at hsq
     refine za (z9d (p:=p) 2147483647 (by omega) hs) λ_ _ hs=>?_
     obtain ⟨rfl,hs⟩:=hs
     refine zd ?_
     rw [hsq] at hs ⊢
     refine z0f hs λw' hs=>?_
     refine z3f ?_
     refine zh ?_
     exact hs.sub
    ·have h2:z3g k.1≠false:=by simpa using h2
     rw [if_neg λh=>h2 h.2] at hsq
     refine z3f ?_
     refine zh ?_
     rw [<- hsq]
     exact hs.sub
   ·rw [if_neg h] at hep
    rw [if_neg λh2=>h h2.1] at hsq
    refine zh ?_
    rw [<- hsq,<- hep]
    exact hs.sub
  rintro _ w1 hs
  refine za (z9d (p:=p) 1099511627776 (by omega) hs) λ_ _ hs=>?_
  obtain ⟨rfl,hs⟩:=hs
  refine zd ?_
  have htb:=ze6 (most:=1099511627776) (by decide) sq.2
  generalize z09 1099511627776 sq.2=tm at *
  refine z0f hs λw' hs=>?_
  refine za (zsa (p:=p) hs) λ_ _ hs=>?_
  obtain ⟨er,rfl,her,hs⟩:=hs
  refine zd ?_
  refine zb hs ?_
  rw [hH] at hdec
  generalize hHH:(⟨k,ba,pi,ep,sq,tm⟩:HdS)=H at *
  have e1:H.tm=tm:=by rw [<- hHH]
  have e2:H.k=k:=by rw [<- hHH]
  unfold zjg at hdec
  rw [e1,e2] at hdec
  refine zg (λh=>?_) λh=>?_
  ·refine hfail hs.sub ?_
   rw [hdec,if_pos]
   rcases h with h|h
   ·left
    cases hi:tm.2.isSome with
    | false=>rfl
    | true=>exact absurd (her.2 hi) h
   ·right;omega
  have htm:tm.1<=1099511627776:=by
   apply Decidable.byContradiction
   intro hh
   exact h (.inr (by omega))
  have her0:tm.2.isSome=true:=her.1 (Decidable.byContradiction λhh=>h (.inl hh))
  rw [if_neg (by rw [her0];rintro (h|h);cases h;omega)] at hdec
  refine zt hs ?_
  refine za (z75 ⟨ba.1,pi.1,ep.1,sq.1,k.1,tm.1,z7i,[]⟩ hs) λ_ w' hs=>?_
  obtain ⟨rfl,hs⟩:=hs
  refine zd ?_
  have em:z10 ⟨ba.1,pi.1,ep.1,sq.1,k.1,tm.1,z7i,[]⟩=z3g k.1:=rfl
  rw [em]
  refine zp (λ_ w'=>∃ (rs:List RecM) (z:Sl) (s1:Lf),DD=(if s1=some []/\z02 (H.b rs)=0 then some (H.b rs) else none)/\Sat w' (slc T.a3 4 z (rs.flatMap zx)::pt a2 (.cells [.int .i64 ba.1,.int .i64 pi.1,.int .i64 ep.1,.int .i64 sq.1,.int .i64 k.1,.int .i64 tm.1,.slice z.a z.len z.cap].toArray T.a1)::rdS T.a36 p s1::pt a1 (.cells zeroC T.a1)::pt a0 (.cells zeroC T.a1)::l)) ?_ ?_
  ·refine zg (λh2=>?_) λh2=>?_
   rotate_left
   ·have h2:z3g k.1=true:=by simpa using h2
    rw [if_pos h2] at hdec
    refine zh ⟨[],⟨none,0,0⟩,tm.2,hdec,?_⟩
    have hs:Sat _ (slc T.a3 4 ⟨none,0,0⟩ (([]:List RecM).flatMap zx)::_):=hs.slc_nil
    exact hs.sub
   have h2:z3g k.1=false:=by simpa using h2
   rw [if_neg (by rw [h2];simp)] at hdec
   refine za (z9d (p:=p) 64 (by omega) hs) λ_ _ hs=>?_
   obtain ⟨rfl,hs⟩:=hs
   refine zd ?_
   have hnb:=ze6 (most:=64) (by decide) tm.2
   generalize z09 64 tm.2=n at *
   refine wp_lt ?_
   refine zg (λh3=>?_) λh3=>?_
   ·rw [if_pos h3] at hdec
    have hf:=hfail hs.sub hdec
    exact ztb hf (λ_ _ _ h=>h.1) λvs w h=>z7w (by decide) h
   rw [if_neg h3] at hdec
   refine zp (λ_ w'=>∃ (rs:List RecM) (z:Sl) (s1:Lf),z4q tm.1 n.1.toNat ⟨#[]⟩ n.2=some (rs,s1)/\Sat w' (slc T.a3 4 z (rs.flatMap zx)::pt a2 (.cells [.int .i64 ba.1,.int .i64 pi.1,.int .i64 ep.1,.int .i64 sq.1,.int .i64 k.1,.int .i64 tm.1,.slice z.a z.len z.cap].toArray T.a1)::rdS T.a36 p s1::pt a1 (.cells zeroC T.a1)::pt a0 (.cells zeroC T.a1)::l)) ?_ ?_
   rotate_left
   ·rintro _ w1 ⟨rs,z,s1,hrs,hs⟩
    rw [hrs] at hdec
    exact zh ⟨rs,z,s1,hdec,hs⟩
   refine z08 (λm v w=>∃ (i:Nat) (done:List RecM) (ahead:ByteArray) (z:Sl) (s1:Lf),v=(ahead,((i:Int),()))/\i<=n.1.toNat/\n.1.toNat-i=m/\done.length=i/\ahead.size<=2100 /\
    z4q tm.1 n.1.toNat ⟨#[]⟩ n.2=(z4q tm.1 (n.1.toNat-i) ahead s1).map (λq=>(done++q.1,q.2))/\Sat w (slc T.a3 4 z (done.flatMap zx)::pt a2 (.cells [.int .i64 ba.1,.int .i64 pi.1,.int .i64 ep.1,.int .i64 sq.1,.int .i64 k.1,.int .i64 tm.1,.slice z.a z.len z.cap].toArray T.a1)::rdS T.a36 p s1::pt a1 (.cells zeroC T.a1)::pt a0 (.cells zeroC T.a1)::l)) n.1.toNat
    ⟨0,[],⟨#[]⟩,⟨none,0,0⟩,n.2,rfl,by omega,rfl,rfl,(by show 0<=2100;omega),?_,(show Sat _ (slc T.a3 4 ⟨none,0,0⟩ (([]:List RecM).flatMap zx)::_) from hs.slc_nil).sub⟩ ?_
   ·cases z4q tm.1 n.1.toNat ⟨#[]⟩ n.2 <;> simp
   clear hs
   rintro m _ w ⟨i,done,ahead,z,s1,rfl,hi,hm,hdl,hah,hrec,hs⟩
   refine zg (λhc=>?_) λhc=>?_
   rotate_left
   ·refine zn (zh ⟨done,z,s1,?_,hs⟩)
    have hc:¬ ((i:Int)<n.1):=hc
    rw [hrec,show n.1.toNat-i=0 by omega]
    simp [z4q]
   have hc:(i:Int)<n.1:=hc
   refine zb hs ?_
   refine za (zyk (p:=p) tm.1 ⟨htb.1,htm⟩ ahead (by omega) hs) λ_ w' hs=>?_
   obtain ⟨y,rfl,hy,hyk,hs⟩:=hs
   refine ⟨(y.key,y.value,y.gone,y.time,(z3m tm.1 ahead s1).1.isSome,()),rfl,trivial,z033 _ _ _ _ _ ?_⟩
   refine zy hs λa3 w' hs=>?_
   refine z03 hs λw' hs=>?_
   refine wp_lt ?_
   have hsucc:n.1.toNat-i=(n.1.toNat-(i+1))+1:=by omega
   rw [hsucc] at hrec
   rw [zpr] at hrec
   refine zg (λh4=>?_) λh4=>?_
   ·have h4:(z3m tm.1 ahead s1).1=none:=by simpa using h4
    rw [h4] at hrec
    have hrec:z4q tm.1 n.1.toNat ⟨#[]⟩ n.2=none:=hrec
    rw [hrec] at hdec
    have hf:=hfail hs.sub hdec
    exact ztb hf (λ_ _ _ h=>h.1) λvs w h=>z7w (by decide) (z7w (by decide) (z7w (by decide) h))
   have h4:(z3m tm.1 ahead s1).1.isSome=true:=by
    cases hq:(z3m tm.1 ahead s1).1 with
    | none=>rw [hq] at h4;exact absurd (by simp) h4
    | some q=>rfl
   obtain ⟨y',hy'⟩:=Option.isSome_iff_exists.1 h4
   obtain rfl:=hy y' hy'
   rw [hy'] at hrec
   refine zb hs ?_
   refine zt hs ?_
   refine z6a (xs:=done) (enc:=zx) (y:=y) hs (λz' w' hs=>?_) rfl (by omega)
   refine z0f hs λw' hs=>?_
   refine zb hs ?_
   refine wp_lt ?_
   have e5:IntKind.wrap .i64 ((i:Int)+1)=((i+1:Nat):Int):=by rw [w64 (by omega) (by omega)];omega
   rw [e5]
   refine z0n (n.1.toNat-(i+1)) ?_
   refine ⟨i+1,done++[y],y.key,z',(z3m tm.1 ahead s1).2,rfl,by omega,rfl,by simp [hdl],hyk,?_,hs.sub⟩
   rw [hrec,Option.map_map]
   congr 1
   funext q
   simp
  rintro _ w1 ⟨rs,z,s1,hDD,hs⟩
  have hb:H.b rs=⟨ba.1,pi.1,ep.1,sq.1,k.1,tm.1,z7i,rs⟩:=by rw [<- hHH];rfl
  have hv0:z02 (H.b rs)=z02 ⟨ba.1,pi.1,ep.1,sq.1,k.1,tm.1,z,rs⟩:=by rw [hb];rfl
  refine zp (λq w'=>q=(DD.isNone,())/\Sat w' (slc T.a3 4 z (rs.flatMap zx)::pt a2 (.cells [.int .i64 ba.1,.int .i64 pi.1,.int .i64 ep.1,.int .i64 sq.1,.int .i64 k.1,.int .i64 tm.1,.slice z.a z.len z.cap].toArray T.a1)::pt a1 (.cells zeroC T.a1)::pt a0 (.cells zeroC T.a1)::l)) ?_ ?_
  ·refine za (ztc (p:=p) hs) λ_ w' hs=>?_
   obtain ⟨e,rfl,he,hs⟩:=hs
   refine zd ?_
   refine zt hs ?_
   refine zg (λh5=>?_) λh5=>?_
   ·refine zh ⟨?_,hs.sub⟩
    rw [hDD,if_neg λhh=>h5 (he.2 hh.1)]
    rfl
   ·have h5:s1=some []:=he.1 (Decidable.not_not.1 h5)
    refine za (zcu ⟨ba.1,pi.1,ep.1,sq.1,k.1,tm.1,z,rs⟩ hs) λ_ w' hs=>?_
    obtain ⟨rfl,hs⟩:=hs
    refine zd ?_
    refine zh ⟨?_,hs.sub⟩
    rw [hDD,<- hv0]
    by_cases h6:z02 (H.b rs)=0
    ·rw [if_pos ⟨h5,h6⟩,h6];rfl
    ·rw [if_neg λhh=>h6 hh.2]
     simpa using h6
  rintro _ w1 ⟨rfl,hs⟩
  refine zg (λh6=>?_) λh6=>?_
  ·exact hfail hs.sub (by simpa using h6)
  ·rw [hDD] at h6
   split at h6
   rotate_left
   ·exact absurd rfl h6
   rename_i h7
   rw [if_pos h7] at hDD
   refine zt hs ?_
   have hs:Sat w1 (slc T.a3 4 z (rs.flatMap zx)::pt a2 (.cells [.int .i64 ba.1,.int .i64 pi.1,.int .i64 ep.1,.int .i64 sq.1,.int .i64 k.1,.int .i64 tm.1,.slice z.a z.len z.cap].toArray T.a1)::pt a1 (.cells zeroC T.a1)::pt a0 (.cells [.int .i64 0,.int .i64 0,.int .i64 0,.int .i64 0,.int .i64 0,.int .i64 0,.slice none 0 0].toArray T.a1)::l):=hs
   refine z03 hs λw' hs=>?_
   refine zt hs ?_
   refine ⟨rfl,.inl ⟨H.b rs,z,hDD,?_,?_⟩⟩
   ·rw [hb];rfl
   ·rw [hb];exact hs.sub
end
section
variable {w:World} {l r:List HP} {Q:Post} {S:World->Prop}
theorem z6e {P:Program} {t:TypeId} {sz:Nat} {α:Type} {enc:α->List Value} {n:Nat} {ps:Array (Nat × Value)} {el:TypeId} {bytes:Nat} {k:Sl->Prog} (hs:Sat w l) [ht:SlT P t el sz bytes] [hE:EncN enc sz] (xs:List α)
  (h:∀ x w',Sat w' (slc el sz x (xs.flatMap enc)::l)->S w'/\(k x).wp P S w' Q) (hc:z4h P t n ps=some (el,(xs.flatMap enc).toArray):=by kernel_rfl) (hn:xs.length=n:=by rfl) :
  (Prog.act (Instr.buildSlice t n ps) sL (u1 k)).wp P S w Q:=by
 have hp:=hs.push (o:=.cells (xs.flatMap enc).toArray el) (w':={ w with heap:=w.heap.push (.cells (xs.flatMap enc).toArray el) }) rfl
 have hsz:(xs.flatMap enc).toArray.size=n*sz:=by rw [List.size_toArray,z44,hn]
 have h1:Sat { w with heap:=w.heap.push (.cells (xs.flatMap enc).toArray el) } (slc el sz ⟨some ⟨w.heap.size,0,none⟩,n,n⟩ (xs.flatMap enc)::l):=by
  have:=hp.slc_of (sz:=sz) hsz
  rwa [List.toList_toArray] at this
 have h2:=h ⟨some ⟨w.heap.size,0,none⟩,n,n⟩ _ h1
 exact ⟨(⟨some ⟨w.heap.size,0,none⟩,n,n⟩,()),_,zix hc,h2.1,h2.2⟩
theorem zo5 {P:Program} {α:Type} {enc:α->List Value} {xs ys:List α} {t tx ty el el':TypeId} {sz bytes sz' bytes':Nat} {x y:Sl} {k:Sl->Prog} (hs:Sat w l) [ht:SlT P t el sz bytes] [htx:SlT P tx el' sz' bytes'] [hf:FocS l x el sz (xs.flatMap enc) r] [hy:FocR l y sz (ys.flatMap enc)] [hE:EncN enc sz]
  (h:∀ z w',Sat w' (slc el sz z ((xs++ys).flatMap enc)::r)->S w'/\(k z).wp P S w' Q) (hb:(xs.length+ys.length)*bytes<=140737488355328/\xs.length+ys.length<=9223372036854775807:=by omega) :
  (Prog.act (app t tx ty (.slice x.a x.len x.cap) (.slice y.a y.len y.cap)) sL (u1 k)).wp P S w Q:=by
 have h1:x.len=xs.length:=(hs.focS x).rd.len hE.len hE.pos
 have h2:=hs.slen y (xs:=ys) (enc:=enc)
 refine zpm hs (hy.rd w hs) (λu hu=>?_) (by rw [h1,h2];exact hb.1) (by rw [h1,h2];exact hb.2) λz w' _ hs'=>h z w' ?_
 ·obtain ⟨a,-,hu⟩:=List.mem_flatMap.1 hu
  exact hE.one a u hu
 ·rw [List.flatMap_append];exact hs'
end
abbrev cB (b:BatM):Array Value:=#[.int .i64 b.base,.int .i64 b.pid,.int .i64 b.epoch,.int .i64 b.seq,.int .i64 b.kind,.int .i64 b.time,.slice b.x.a b.x.len b.x.cap]
abbrev cR (r:RecM):Array Value:=#[.string r.key,.string r.value,.bool r.gone,.int .i64 r.time]
theorem zaw (time:Int):∀ (rs:List RecM) (ahead:ByteArray) (r:RecM),z27 time ahead (rs++[r])=z27 time ahead rs++z4d time (match rs.getLast? with|none=>ahead|some x=>x.key) r
 | [],ahead,r=>by simp [z27]
 | a::rs,ahead,r=>by
  show z4d time ahead a++z27 time a.key (rs++[r])=z4d time ahead a++z27 time a.key rs++_
  rw [zaw time rs a.key r,List.append_assoc]
  congr 3
  cases rs with
  | nil=>rfl
  | cons b bs=>rfl
theorem zn0 {b:BatM} (hv:z02 b=0) (i:Nat):(z27 b.time ⟨#[]⟩ (b.rs.take i)).length<=133696:=by
 obtain ⟨h64,hrs⟩:=z2l hv
 have h1:=zbp (time:=b.time) (n:=2048) (rs:=b.rs.take i) (ahead:=⟨#[]⟩) λr hr=>by
  obtain ⟨h1,h2,-⟩:=z3x (hrs r (List.mem_of_mem_take hr))
  omega
 have h2:(b.rs.take i).length<=64:=by rw [List.length_take];omega
 have:(b.rs.take i).length*(41+2048)<=64*(41+2048):=Nat.mul_le_mul_right _ h2
 omega
def hdL (b:BatM):List UInt8:=1::UInt8.ofNat b.kind.toNat::(uI b.base++uI b.pid)
def z4e (b:BatM):List UInt8:=if b.pid>0 then uI b.epoch++(if z10 b then [] else uI b.seq) else []
theorem zcv (b:BatM):z24 b=(hdL b++z4e b++uI b.time)++if z10 b then [] else uI b.rs.length++z27 b.time ⟨#[]⟩ b.rs:=by
 unfold z24 hdL z4e
 simp only [List.cons_append,List.append_assoc]
section
variable {w:World} {l r:List HP}
set_option maxHeartbeats 1000000 in
theorem zks (b:BatM) [hb:FocR l b.x 4 (b.rs.flatMap zx)] (hs:Sat w l) :
  Ret P F.a38 #[.agg (zj b).toArray] w λvs w'=>(z02 b≠0/\vs=[.slice none 0 0,.int .i64 (z02 b)]/\Sat w' l)\/(z02 b=0/\∃ z:Sl,vs=[z.v,.int .i64 0]/\Sat w' (slc T.a34 1 z ((z24 b).flatMap zf)::l)) :=
 zor b.base b.pid b.epoch b.seq b.kind b.time b.x <| by
  unfold z008
  have hlx:=hs.slen b.x (xs:=b.rs) (enc:=zx)
  refine z00 hs λa0 w' hs=>?_
  refine zt hs ?_
  refine za (zcu b hs) λ_ w' hs=>?_
  obtain ⟨rfl,hs⟩:=hs
  refine zd ?_
  refine wp_lt ?_
  refine zg (λh=>?_) λh=>?_
  ·refine wp_lt ?_
   exact ⟨rfl,.inl ⟨h,rfl,hs.tail⟩⟩
  have hv:z02 b=0:=Decidable.not_not.1 h
  obtain ⟨-,-,⟨hk,hba,hpi,hep,hsq,htm⟩,hfit,-⟩:=z1e b hv
  obtain ⟨h64,hrs⟩:=z2l hv
  refine zp (λq w'=>∃ z:Sl,q=(z,())/\Sat w' (slc T.a34 1 z ((hdL b).flatMap zf)::pt a0 (.cells (cB b) T.a1)::l)) ?_ ?_
  ·have ek:IntKind.wrap .u8 b.kind=(((UInt8.ofNat b.kind.toNat).toNat:Nat):Int):=by
    rw [wu8 (by omega) (by omega),UInt8.toNat_ofNat'];omega
   have hul1:=z16 b.base
   have hul2:=z16 b.pid
   refine z07 hs λw' hs=>?_
   refine z1m hs ?_
   refine z1m hs ?_
   refine z1m hs ?_
   have fin:∀ {w':World} {z1 z2 z3:Sl},Sat w' (slc T.a34 1 z1 (([1,UInt8.ofNat b.kind.toNat]:List UInt8).flatMap zf)::slc T.a34 1 z2 ((uI b.base).flatMap zf)::slc T.a34 1 z3 ((uI b.pid).flatMap zf)::pt a0 (.cells (cB b) T.a1)::l) ->
     (Prog.act (Instr.buildSlice T.a23 3 #[(0,z1.v),(1,z2.v),(2,z3.v)]) sL (u1 λl17=>.call F.a137 [l17.v] sL (u1 λl18=>.untick <| .done 1 [l18.v]))).wp P (λ_=>True) w' (Post.catch (λe vs w'=>e=0/\((z02 b≠0/\vs=[.slice none 0 0,.int .i64 (z02 b)]/\Sat w' l)\/(z02 b=0/\∃ z:Sl,vs=[z.v,.int .i64 0]/\Sat w' (slc T.a34 1 z ((z24 b).flatMap zf)::l)))) 1 λvs w'=>∃ x,vs=z2q [.one .slc] x/\∃ z:Sl,x=(z,())/\Sat w' (slc T.a34 1 z ((hdL b).flatMap zf)::pt a0 (.cells (cB b) T.a1)::l)):=by
    intro w' z1 z2 z3 hs
    refine z6f hs (enc:=z0d) [z1,z2,z3] λz4 w' hs=>?_
    refine za (zvy z4 z1 z2 z3 [1,UInt8.ofNat b.kind.toNat] (uI b.base) (uI b.pid) (by simp only [List.length_cons,List.length_nil];omega) hs) λ_ w' hs=>?_
    obtain ⟨z5,rfl,hs⟩:=hs
    refine zd ?_
    refine zi ?_
    refine zh ⟨z5,rfl,?_⟩
    have e:[1,UInt8.ofNat b.kind.toNat]++(uI b.base++uI b.pid)=hdL b:=by unfold hdL;simp
    rw [e] at hs
    exact hs.sub
   rw [ek]
   refine zd6 ?_ ?_
   ·refine z6e hs (enc:=zf) [1,UInt8.ofNat b.kind.toNat] λz1 w' hs=>⟨(by first|trivial|(repeat (first|exact trivial|exact λ_=>z0i hs|exact λ_=>z0o hs|refine And.intro ?_ ?_))),?_⟩
    refine za (z58 b.base (by omega) hs) λ_ w' hs=>?_
    obtain ⟨z2,rfl,hs⟩:=hs
    refine zd ?_ (by first|trivial|(repeat (first|exact trivial|exact λ_=>z0i hs|exact λ_=>z0o hs|refine And.intro ?_ ?_)))
    refine za (z58 b.pid (by omega) hs) λ_ w' hs=>?_
    obtain ⟨z3,rfl,hs⟩:=hs
    refine zd ?_ (by first|trivial|(repeat (first|exact trivial|exact λ_=>z0i hs|exact λ_=>z0o hs|refine And.intro ?_ ?_)))
    refine zi ?_
    exact fin hs.sub
   ·refine za (z58 b.base (by omega) hs) λ_ w' hs=>?_
    obtain ⟨z2,rfl,hs⟩:=hs
    refine zd ?_ (by first|trivial|(repeat (first|exact trivial|exact λ_=>z0i hs|exact λ_=>z0o hs|refine And.intro ?_ ?_)))
    refine zd6 ?_ ?_
    ·refine z6e hs (enc:=zf) [1,UInt8.ofNat b.kind.toNat] λz1 w' hs=>⟨(by first|trivial|(repeat (first|exact trivial|exact λ_=>z0i hs|exact λ_=>z0o hs|refine And.intro ?_ ?_))),?_⟩
     refine za (z58 b.pid (by omega) hs) λ_ w' hs=>?_
     obtain ⟨z3,rfl,hs⟩:=hs
     refine zd ?_ (by first|trivial|(repeat (first|exact trivial|exact λ_=>z0i hs|exact λ_=>z0o hs|refine And.intro ?_ ?_)))
     refine zi ?_
     exact fin hs.sub
    ·refine za (z58 b.pid (by omega) hs) λ_ w' hs=>?_
     obtain ⟨z3,rfl,hs⟩:=hs
     refine zd ?_ (by first|trivial|(repeat (first|exact trivial|exact λ_=>z0i hs|exact λ_=>z0o hs|refine And.intro ?_ ?_)))
     refine z6e hs (enc:=zf) [1,UInt8.ofNat b.kind.toNat] λz1 w' hs=>⟨(by first|trivial|(repeat (first|exact trivial|exact λ_=>z0i hs|exact λ_=>z0o hs|refine And.intro ?_ ?_))),?_⟩
     refine zi ?_
     exact fin hs.sub
  rintro _ w1 ⟨z,rfl,hs⟩
  have hdl:(hdL b).length<=22:=by
   have hul1:=z16 b.base
   have hul2:=z16 b.pid
   unfold hdL
   simp only [List.length_cons,List.length_append]
   omega
  refine zb hs ?_
  refine zp (λq w'=>∃ z:Sl,q=(z,())/\Sat w' (slc T.a34 1 z ((hdL b++z4e b).flatMap zf)::pt a0 (.cells (cB b) T.a1)::l)) ?_ ?_
  ·refine zg (λh2=>?_) λh2=>?_
   rotate_left
   ·refine zh ⟨z,rfl,?_⟩
    have e:z4e b=[]:=by unfold z4e;rw [if_neg h2]
    rw [e,List.append_nil]
    exact hs
   have hul:=z16 b.epoch
   refine zb hs ?_
   refine za (z58 b.epoch (by omega) hs) λ_ w' hs=>?_
   obtain ⟨z2,rfl,hs⟩:=hs
   refine zd ?_
   refine wp_app' (xs:=hdL b) (ys:=uI b.epoch) (enc:=zf) hs λz3 w' hs=>?_
   refine zt hs ?_
   refine za (z75 b hs) λ_ w' hs=>?_
   obtain ⟨rfl,hs⟩:=hs
   refine zd ?_
   refine z3z ?_
   refine zg (λh3=>?_) λh3=>?_
   ·have h3:z10 b=false:=by simpa using h3
    have hul2:=z16 b.seq
    refine zb hs ?_
    refine za (z58 b.seq (by omega) hs) λ_ w' hs=>?_
    obtain ⟨z4,rfl,hs⟩:=hs
    refine zd ?_
    refine wp_app' (xs:=hdL b++uI b.epoch) (ys:=uI b.seq) (enc:=zf) hs (λz5 w' hs=>?_) (by rw [List.length_append];omega)
    refine z3f ?_
    refine zh ⟨z5,rfl,?_⟩
    have e:z4e b=uI b.epoch++uI b.seq:=by unfold z4e;rw [if_pos h2,h3];rfl
    rw [e,<- List.append_assoc]
    exact hs.sub
   ·have h3:z10 b=true:=by simpa using h3
    refine z3f ?_
    refine zh ⟨z3,rfl,?_⟩
    have e:z4e b=uI b.epoch:=by unfold z4e;rw [if_pos h2,h3,if_pos rfl,List.append_nil]
    rw [e]
    exact hs.sub
  rintro _ w2 ⟨z2,rfl,hs⟩
  have hml:(z4e b).length<=20:=by
   have hul1:=z16 b.epoch
   have hul2:=z16 b.seq
   unfold z4e
   split
   ·split
    ·simp only [List.length_append,List.length_nil];omega
    ·simp only [List.length_append];omega
   ·simp
  have htl:=z16 b.time
  refine zb hs ?_
  refine za (z58 b.time (by omega) hs) λ_ w' hs=>?_
  obtain ⟨z3,rfl,hs⟩:=hs
  refine zd ?_
  refine wp_app' (xs:=hdL b++z4e b) (ys:=uI b.time) (enc:=zf) hs (λz4 w' hs=>?_) (by rw [List.length_append];omega)
  refine zt hs ?_
  refine za (z75 b hs) λ_ w' hs=>?_
  obtain ⟨rfl,hs⟩:=hs
  refine zd ?_
  refine zg (λh3=>?_) λh3=>?_
  ·refine ⟨rfl,.inr ⟨hv,z4,rfl,?_⟩⟩
   rw [zcv,h3,if_pos rfl,List.append_nil]
   exact hs.sub
  have h3:z10 b=false:=by simpa using h3
  have hcl:=z16 ((b.rs.length:Nat):Int)
  refine zb hs ?_
  rw [hlx]
  refine za (z58 ((b.rs.length:Nat):Int) (by omega) hs) λ_ w' hs=>?_
  obtain ⟨z5,rfl,hs⟩:=hs
  refine zd ?_
  generalize hX:hdL b++z4e b++uI b.time=X at hs
  have hXl:X.length<=60:=by rw [<- hX];simp only [List.length_append];omega
  refine wp_app' (xs:=X) (ys:=uI (b.rs.length:Nat)) (enc:=zf) hs (λz6 w' hs=>?_) (by omega)
  refine zb hs ?_
  generalize hY:X++uI ((b.rs.length:Nat):Int)=Y at hs
  have hYl:Y.length<=80:=by rw [<- hY];simp only [List.length_append];omega
  have hfin:z24 b=Y++z27 b.time ⟨#[]⟩ b.rs:=by
   rw [zcv,hX,h3,if_neg (by simp),<- hY,List.append_assoc]
  refine zp (λq w'=>∃ z:Sl,q=(z,())/\Sat w' (slc T.a34 1 z ((z24 b).flatMap zf)::l)) ?_ ?_
  rotate_left
  ·rintro _ w' ⟨z,rfl,hs⟩
   exact ⟨rfl,.inr ⟨hv,z,rfl,hs⟩⟩
  have hrec:=zn0 hv
  refine z08 (λm v w=>∃ (i:Nat) (z:Sl),v=(z,((match (b.rs.take i).getLast? with|none=>(⟨#[]⟩:ByteArray)|some x=>x.key),((i:Int),())))/\i<=b.rs.length/\b.rs.length-i=m/\Sat w (slc T.a34 1 z ((Y++z27 b.time ⟨#[]⟩ (b.rs.take i)).flatMap zf)::pt a0 (.cells (cB b) T.a1)::l)) b.rs.length ⟨0,z6,rfl,by omega,rfl,by
   rw [List.take_zero]
   show Sat _ (slc T.a34 1 z6 ((Y++[]).flatMap zf)::_)
   rw [List.append_nil]
   exact hs.sub⟩ ?_
  clear hs
  rintro m _ w ⟨i,z,rfl,hi,hm,hs⟩
  refine zg (λhc=>?_) λhc=>?_
  rotate_left
  ·refine zn (zh ⟨z,rfl,?_⟩)
   have hc:¬ ((i:Int)<((b.x.len:Nat):Int)):=hc
   have hi2:i=b.rs.length:=by omega
   rw [hi2,List.take_length,<- hfin] at hs
   exact hs.sub
  have hc:((i:Int)<((b.x.len:Nat):Int)):=hc
  have hil:i<b.rs.length:=by omega
  refine z1p hs (xs:=b.rs) (enc:=zx) i hil ?_
  refine zy hs λa1 w' hs=>?_
  refine z03 hs λw' hs=>?_
  refine zb hs ?_
  obtain ⟨hr1,hr2,hr3,hr4⟩:=z3x (hrs b.rs[i] (List.getElem_mem hil))
  have hah:∀ x,(match (b.rs.take i).getLast? with|none=>(⟨#[]⟩:ByteArray)|some x=>x.key)=x->x.size<=1024:=by
   intro x hx
   cases hq:(b.rs.take i).getLast? with
   | none=>rw [hq] at hx;subst hx;show 0<=1024;omega
   | some y =>
    rw [hq] at hx
    subst hx
    exact (z3x (hrs y (List.mem_of_mem_take (List.mem_of_getLast? hq)))).1
  have hsn:=zaw b.time (b.rs.take i) ⟨#[]⟩ b.rs[i]
  rw [<- List.take_succ_eq_append_getElem hil] at hsn
  have hln:=hrec (i+1)
  rw [hsn,List.length_append] at hln
  have hlast:(match (b.rs.take (i+1)).getLast? with|none=>(⟨#[]⟩:ByteArray)|some x=>x.key)=b.rs[i].key:=by
   rw [List.take_succ_eq_append_getElem hil,z1l]
  generalize (match (b.rs.take i).getLast? with|none=>(⟨#[]⟩:ByteArray)|some x=>x.key)=ahead at *
  have hah:=hah ahead rfl
  refine za (zn6 ahead b.rs[i].key (by omega) hs) λ_ w' hs=>?_
  obtain ⟨rfl,hs⟩:=hs
  refine zd ?_
  refine wp_lt ?_
  have hal:=z80 (bl ahead) (bl b.rs[i].key)
  rw [z0z,z0z] at hal
  have hrl:z4d b.time ahead b.rs[i]=(z3a (b.rs[i].time-b.time)++([z55 b.rs[i].gone]++(uI (z04 (bl ahead) (bl b.rs[i].key):Nat)++z49 ahead b.rs[i].key)))++if b.rs[i].gone then [] else uI b.rs[i].value.size++bl b.rs[i].value:=by
   unfold z4d
   simp only [List.append_assoc,List.cons_append,List.nil_append,List.singleton_append]
  generalize hZ:Y++z27 b.time ⟨#[]⟩ (b.rs.take i)=Z at *
  have hZl:Z.length<=200000:=by rw [<- hZ,List.length_append];omega
  have htl1:=zc7 (b.rs[i].time-b.time)
  have htl2:=z16 ((z04 (bl ahead) (bl b.rs[i].key):Nat):Int)
  have htl3:(z49 ahead b.rs[i].key).length<=1034:=by
   unfold z49
   have:=z16 (((b.rs[i].key.size-z04 (bl ahead) (bl b.rs[i].key):Nat)):Int)
   rw [List.length_append,List.length_drop,z0z]
   omega
  refine zp (λq w'=>∃ z:Sl,q=(z,())/\Sat w' (slc T.a34 1 z ((Z++(z3a (b.rs[i].time-b.time)++([z55 b.rs[i].gone]++(uI (z04 (bl ahead) (bl b.rs[i].key):Nat)++z49 ahead b.rs[i].key)))).flatMap zf)::pt a1 (.cells (cR b.rs[i]) T.a3)::pt a0 (.cells (cB b) T.a1)::l)) ?_ ?_
  ·refine z07 hs λw' hs=>?_
   refine zb hs ?_
   refine zb hs ?_
   refine z1m hs ?_
   refine z1m hs ?_
   refine wp_must (by omega) ?_
   rw [w64 (by omega) (by omega)]
   refine za (zyz (b.rs[i].time-b.time) (by omega) hs) λ_ w' hs=>?_
   obtain ⟨u1_,rfl,hs⟩:=hs
   refine zd ?_ (by first|trivial|(repeat (first|exact trivial|exact λ_=>z0i hs|exact λ_=>z0o hs|refine And.intro ?_ ?_)))
   refine za (zyc b.rs[i].gone hs) λ_ w' hs=>?_
   obtain ⟨u2_,rfl,hs⟩:=hs
   refine zd ?_ (by first|trivial|(repeat (first|exact trivial|exact λ_=>z0i hs|exact λ_=>z0o hs|refine And.intro ?_ ?_)))
   refine za (z58 ((z04 (bl ahead) (bl b.rs[i].key):Nat):Int) (by omega) hs) λ_ w' hs=>?_
   obtain ⟨u3_,rfl,hs⟩:=hs
   refine zd ?_ (by first|trivial|(repeat (first|exact trivial|exact λ_=>z0i hs|exact λ_=>z0o hs|refine And.intro ?_ ?_)))
   refine zi ?_
   have ext:(ByteArray.extract b.rs[i].key (z04 (bl ahead) (bl b.rs[i].key)) b.rs[i].key.size).size=b.rs[i].key.size-z04 (bl ahead) (bl b.rs[i].key):=by rw [ByteArray.size_extract];omega
   have exb:bl (ByteArray.extract b.rs[i].key (z04 (bl ahead) (bl b.rs[i].key)) b.rs[i].key.size)=(bl b.rs[i].key).drop (z04 (bl ahead) (bl b.rs[i].key)):=by
    unfold bl
    rw [ByteArray.data_extract,Array.toList_extract,List.extract_eq_take_drop]
    exact List.take_of_length_le (by rw [List.length_drop];exact Nat.le_refl _)
   rw [Int.toNat_natCast]
   refine za (zmx (ByteArray.extract b.rs[i].key (z04 (bl ahead) (bl b.rs[i].key)) b.rs[i].key.size) (by omega) hs) λ_ w' hs=>?_
   obtain ⟨u4_,rfl,hs⟩:=hs
   refine zd ?_
   rw [ext,exb] at hs
   have hs:Sat _ (slc T.a34 1 u4_ ((z49 ahead b.rs[i].key).flatMap zf)::_):=hs
   refine z6f hs (enc:=z0d) [u1_,u2_,u3_,u4_] λu5_ w' hs=>?_
   refine za (zu6 u5_ u1_ u2_ u3_ u4_ (z3a (b.rs[i].time-b.time)) [z55 b.rs[i].gone] (uI (z04 (bl ahead) (bl b.rs[i].key):Nat)) (z49 ahead b.rs[i].key) (by simp only [List.length_cons,List.length_nil];omega) hs) λ_ w' hs=>?_
   obtain ⟨u6_,rfl,hs⟩:=hs
   refine zd ?_
   refine wp_app' (xs:=Z) (ys:=z3a (b.rs[i].time-b.time)++([z55 b.rs[i].gone]++(uI (z04 (bl ahead) (bl b.rs[i].key):Nat)++z49 ahead b.rs[i].key))) (enc:=zf) hs (λz5 w' hs=>?_) (by simp only [List.length_append,List.length_cons,List.length_nil];omega)
   refine zi ?_
   refine zh ⟨z5,rfl,?_⟩
   exact hs.sub
  rintro _ w3 ⟨z5,rfl,hs⟩
  refine zb hs ?_
  refine zp (λq w'=>∃ z:Sl,q=(z,())/\Sat w' (slc T.a34 1 z ((Z++z4d b.time ahead b.rs[i]).flatMap zf)::pt a1 (.cells (cR b.rs[i]) T.a3)::pt a0 (.cells (cB b) T.a1)::l)) ?_ ?_
  ·refine zg (λh5=>?_) λh5=>?_
   ·have h5:b.rs[i].gone=false:=by simpa using h5
    refine zb hs ?_
    refine za (zmx b.rs[i].value (by omega) hs) λ_ w' hs=>?_
    obtain ⟨u,rfl,hs⟩:=hs
    refine zd ?_
    have hvl:=z16 ((b.rs[i].value.size:Nat):Int)
    have hvs:=z0z b.rs[i].value
    refine wp_app' (xs:=Z++(z3a (b.rs[i].time-b.time)++([z55 b.rs[i].gone]++(uI (z04 (bl ahead) (bl b.rs[i].key):Nat)++z49 ahead b.rs[i].key)))) (ys:=uI (b.rs[i].value.size:Nat)++bl b.rs[i].value) (enc:=zf) hs (λz7 w' hs=>?_) (by simp only [List.length_append,List.length_cons,List.length_nil];omega)
    refine zh ⟨z7,rfl,?_⟩
    rw [hrl,if_neg (by rw [h5];simp),<- List.append_assoc]
    exact hs.sub
   ·have h5:b.rs[i].gone=true:=by simpa using h5
    refine zh ⟨z5,rfl,?_⟩
    rw [hrl,if_pos h5,List.append_nil]
    exact hs.sub
  rintro _ w4 ⟨z7,rfl,hs⟩
  refine zb hs ?_
  refine wp_lt ?_
  have e5:IntKind.wrap .i64 ((i:Int)+1)=((i+1:Nat):Int):=by rw [w64 (by omega) (by omega)];omega
  rw [e5]
  refine z0n (b.rs.length-(i+1)) ?_
  refine ⟨i+1,z7,by rw [hlast],by omega,rfl,?_⟩
  rw [hsn,<- List.append_assoc,hZ]
  exact hs.sub
end
def zit (b:BatM) (k:Nat):BatM:=⟨b.base+k,b.pid,b.epoch,if b.pid>0 then b.seq+k else b.seq,b.kind,b.time,b.x,b.rs.drop k⟩
def z0y (off:Int) (b:BatM):Option BatM:=if z02 b≠0\/off>=z3i b then none else if z10 b=true\/off<=b.base then some b else some (zit b (off-b.base).toNat)
def rsP (b:BatM):HP:=slc T.a3 4 b.x (b.rs.flatMap zx)
def z0p (bs:List BatM):HP:=HP.all (bs.map rsP)
section
variable {w:World} {l r:List HP}
theorem zy7 (b:BatM) [hb:FocR l b.x 4 (b.rs.flatMap zx)] (hlen:b.rs.length<=1000000) (hs:Sat w l):Ret P F.a36 #[.agg (zj b).toArray] w λvs w'=>∃ z:Sl,vs=[.agg (zj (b.at z)).toArray]/\Sat w' (slc T.a3 4 z (b.rs.flatMap zx)::l) :=
 zqv b.base b.pid b.epoch b.seq b.kind b.time b.x <| by
  unfold z02i
  refine z00 hs λa0 w' hs=>?_
  refine zy hs λa1 w' hs=>?_
  refine zb hs ?_
  have hs:Sat w' (slc T.a3 4 ⟨none,0,0⟩ (([]:List RecM).flatMap zx)::_):=hs.slc_nil
  refine wp_app' (x:=⟨none,0,0⟩) (xs:=([]:List RecM)) (ys:=b.rs) (enc:=zx) hs (λz w' hs=>?_) (by simp only [List.length_nil];omega)
  rw [List.nil_append] at hs
  refine z0f hs λw' hs=>?_
  refine zt hs ?_
  refine z03 hs λw' hs=>?_
  refine zt hs ?_
  refine ⟨rfl,z,rfl,?_⟩
  exact hs.sub
theorem zy3 (b:BatM) (k:Nat) (hk:k<=b.rs.length) (hcap:b.x.len<=b.x.cap) (hv:z02 b=0) [hb:FocR l b.x 4 (b.rs.flatMap zx)] (hs:Sat w l):Ret P F.a47 #[.agg (zj b).toArray,.int .i64 (k:Int),.int .i64 (b.x.len:Nat)] w λvs w'=>∃ z:Sl,vs=[.agg (zj ((zit b k).at z)).toArray]/\Sat w' (slc T.a3 4 z ((b.rs.drop k).flatMap zx)::l) :=
 zql b.base b.pid b.epoch b.seq b.kind b.time b.x _ _ <| by
  unfold z021
  have hl:=hs.slen b.x (xs:=b.rs) (enc:=zx)
  obtain ⟨h64,-⟩:=z2l hv
  obtain ⟨-,-,⟨-,hba,hpi,-,hsq,-⟩,-,-⟩:=z1e b hv
  refine z00 hs λa0 w' hs=>?_
  refine zy hs λa1 w' hs=>?_
  refine zt hs ?_
  refine zy hs λa9 w' hs=>?_
  refine z03 hs λw' hs=>?_
  refine zb hs ?_
  refine wp_must (by omega) ?_
  rw [Int.toNat_natCast,Int.toNat_natCast]
  have hf:FocR (pt a9 (.cells #[.int .i64 b.base,.int .i64 b.pid,.int .i64 b.epoch,.int .i64 b.seq,.int .i64 b.kind,.int .i64 b.time,.slice b.x.a b.x.len b.x.cap] T.a1)::pt a1 (.cells #[.int .i64 0,.int .i64 0,.int .i64 0,.int .i64 0,.int .i64 0,.int .i64 0,.slice none 0 0] T.a1)::pt a0 (.cells #[.int .i64 b.base,.int .i64 b.pid,.int .i64 b.epoch,.int .i64 b.seq,.int .i64 b.kind,.int .i64 b.time,.slice b.x.a b.x.len b.x.cap] T.a1)::l) ⟨z1f b.x.a 4 k b.x.cap,b.x.len-k,b.x.cap-k⟩ 4 ((b.rs.drop k).flatMap zx):=FocR.post hcap
  have hs:Sat w' (slc T.a3 4 ⟨none,0,0⟩ (([]:List RecM).flatMap zx)::_):=hs.slc_nil
  refine wp_app' (x:=⟨none,0,0⟩) (y:=⟨z1f b.x.a 4 k b.x.cap,b.x.len-k,b.x.cap-k⟩) (xs:=([]:List RecM)) (ys:=b.rs.drop k) (enc:=zx) hs (λz w' hs=>?_) (by simp only [List.length_nil,List.length_drop];omega)
  rw [List.nil_append] at hs
  refine z0f hs λw' hs=>?_
  refine zb hs ?_
  rw [w64 (by omega) (by omega)]
  refine z0f hs λw' hs=>?_
  refine zb hs ?_
  refine zp (λ_ w'=>Sat w' (pt a9 (.cells [.int .i64 (b.base+k),.int .i64 b.pid,.int .i64 b.epoch,.int .i64 (if b.pid>0 then b.seq+k else b.seq),.int .i64 b.kind,.int .i64 b.time,.slice z.a z.len z.cap].toArray T.a1)::slc T.a3 4 z ((b.rs.drop k).flatMap zx)::pt a1 (.cells #[.int .i64 0,.int .i64 0,.int .i64 0,.int .i64 0,.int .i64 0,.int .i64 0,.slice none 0 0] T.a1)::l)) ?_ ?_
  ·refine zg (λh=>?_) λh=>?_
   ·refine zb hs ?_
    rw [w64 (by omega) (by omega)]
    refine z0f hs λw' hs=>?_
    refine zh ?_
    rw [if_pos h]
    exact hs.sub
   ·refine zh ?_
    rw [if_neg h]
    exact hs.sub
  clear hs
  rintro _ w2 hs
  refine zt hs ?_
  refine z03 hs λw' hs=>?_
  refine zt hs ?_
  refine ⟨rfl,z,rfl,?_⟩
  exact hs.sub
theorem zz2 (b:BatM) (off:Int) (ho : -9223372036854775808<=off/\off<9223372036854775808) (hcap:b.x.len<=b.x.cap) [hb:FocR l b.x 4 (b.rs.flatMap zx)] (hs:Sat w l):Ret P F.a39 #[.agg (zj b).toArray,.int .i64 off] w λvs w' =>
  (z0y off b=none/\vs=[.agg (zj zqj).toArray,.bool false]/\Sat w' l)\/(∃ (c:BatM) (z:Sl),z0y off b=some c/\vs=[.agg (zj (c.at z)).toArray,.bool true]/\Sat w' (slc T.a3 4 z (c.rs.flatMap zx)::l)) :=
 zrs b.base b.pid b.epoch b.seq b.kind b.time b.x off <| by
  unfold z01a
  have hl:=hs.slen b.x (xs:=b.rs) (enc:=zx)
  refine z00 hs λa0 w' hs=>?_
  refine zy hs λa1 w' hs=>?_
  refine zp (λq w'=>q=(decide (z02 b≠0\/off>=z3i b),())/\Sat w' (pt a1 (.cells #[.int .i64 0,.int .i64 0,.int .i64 0,.int .i64 0,.int .i64 0,.int .i64 0,.slice none 0 0] T.a1)::pt a0 (.cells (cB b) T.a1)::l)) ?_ ?_
  ·refine zt hs ?_
   refine za (zcu b hs) λ_ w' hs=>?_
   obtain ⟨rfl,hs⟩:=hs
   refine zd ?_
   refine zt hs ?_
   refine zg (λh=>?_) λh=>?_
   ·exact zh ⟨by rw [decide_eq_true (.inl h)],hs⟩
   ·refine za (zd9 b hs) λ_ w' hs=>?_
    obtain ⟨rfl,hs⟩:=hs
    refine zd ?_
    refine wp_lt ?_
    refine zh ⟨?_,hs⟩
    rw [decide_eq_decide.2 (show (z02 b≠0\/off>=z3i b)↔off>=z3i b from ⟨λhh=>hh.resolve_left h,.inr⟩)]
  rintro _ w2 ⟨rfl,hs⟩
  refine zg (λh=>?_) λh=>?_
  ·have h:z02 b≠0\/off>=z3i b:=by simpa using h
   refine z03 hs λw' hs=>?_
   refine zt hs ?_
   refine ⟨rfl,.inl ⟨by unfold z0y;rw [if_pos h],rfl,hs.tail.tail⟩⟩
  have h:¬ (z02 b≠0\/off>=z3i b):=by simpa using h
  have hv:z02 b=0:=Decidable.byContradiction λhh=>h (.inl hh)
  have hno:off<z3i b:=by
   apply Decidable.byContradiction;intro hh;exact h (.inr (by omega))
  have hnx:z3i b=b.base+z01 b:=by unfold z3i;rw [if_neg (by rw [hv];simp)]
  obtain ⟨h64,-⟩:=z2l hv
  obtain ⟨-,-,⟨-,hba,-⟩,-,-⟩:=z1e b hv
  refine zt hs ?_
  refine za (z75 b hs) λ_ w' hs=>?_
  obtain ⟨rfl,hs⟩:=hs
  refine zd ?_
  refine zb hs ?_
  refine wp_lt ?_
  refine zg (λh2=>?_) λh2=>?_
  ·refine zt hs ?_
   refine za (zy7 b (by omega) hs) λ_ w' hs=>?_
   obtain ⟨z,rfl,hs⟩:=hs
   refine ⟨(b.base,b.pid,b.epoch,b.seq,b.kind,b.time,z,()),rfl,trivial,zd8 _ _ _ _ _ _ _ ?_⟩
   refine z03 hs λw' hs=>?_
   refine zt hs ?_
   refine ⟨rfl,.inr ⟨b,z,by unfold z0y;rw [if_neg h,if_pos h2],rfl,hs.sub⟩⟩
  ·have hm:z10 b=false:=by
    cases hm:z10 b with
    | false=>rfl
    | true=>exact absurd (.inl hm) h2
   have hob:¬ off<=b.base:=λhh=>h2 (.inr hh)
   have hsp:z01 b=b.rs.length:=by unfold z01;rw [hm];simp
   refine zt hs ?_
   refine zb hs ?_
   refine zb hs ?_
   rw [w64 (by omega) (by omega)]
   have eo:off-b.base=(((off-b.base).toNat:Nat):Int):=by omega
   rw [eo]
   refine za (zy3 b (off-b.base).toNat (by omega) hcap hv hs) λ_ w' hs=>?_
   obtain ⟨z,rfl,hs⟩:=hs
   refine ⟨(b.base+(off-b.base).toNat,b.pid,b.epoch,(if b.pid>0 then b.seq+(off-b.base).toNat else b.seq),b.kind,b.time,z,()),rfl,trivial,zd8 _ _ _ _ _ _ _ ?_⟩
   refine z03 hs λw' hs=>?_
   refine zt hs ?_
   refine ⟨rfl,.inr ⟨zit b (off-b.base).toNat,z,by unfold z0y;rw [if_neg h,if_neg h2],rfl,(show Sat w' (slc T.a3 4 z ((b.rs.drop (off-b.base).toNat).flatMap zx)::l) from hs.sub)⟩⟩
end
theorem zsh {a b:ByteArray} (h:a.data.toList=b.data.toList):a=b:=by
 cases a;cases b;exact congrArg ByteArray.mk (Array.ext' h)
theorem z9y:∀ x:List UInt8,Op.bytesLess x x=false
 | []=>rfl
 | a::x=>by rw [Op.bytesLess,z9y x];simp
theorem zfx:∀ {x y z:List UInt8},Op.bytesLess x y=true->Op.bytesLess y z=true->Op.bytesLess x z=true
 | [],_,[],_,h=>by cases ‹List UInt8› <;> simp [Op.bytesLess] at h
 | [],_,_::_,_,_=>rfl
 | _::_,[],_,h,_=>by simp [Op.bytesLess] at h
 | _::_,_::_,[],_,h=>by simp [Op.bytesLess] at h
 | a::x,b::y,c::z,h1,h2=>by
  simp only [Op.bytesLess,Bool.or_eq_true,decide_eq_true_eq,Bool.and_eq_true,beq_iff_eq] at h1 h2 ⊢
  rcases h1 with h1|⟨rfl,h1⟩
  ·rcases h2 with h2|⟨rfl,h2⟩
   ·exact .inl (UInt8.lt_trans h1 h2)
   ·exact .inl h1
  ·rcases h2 with h2|⟨rfl,h2⟩
   ·exact .inl h2
   ·exact .inr ⟨rfl,zfx h1 h2⟩
theorem zg3:∀ (x y:List UInt8),Op.bytesLess x y=true\/x=y\/Op.bytesLess y x=true
 | [],[]=>.inr (.inl rfl)
 | [],_::_=>.inl rfl
 | _::_,[]=>.inr (.inr rfl)
 | a::x,b::y=>by
  simp only [Op.bytesLess,Bool.or_eq_true,decide_eq_true_eq,Bool.and_eq_true,beq_iff_eq,List.cons.injEq]
  rcases Nat.lt_trichotomy a.toNat b.toNat with h|h|h
  ·exact .inl (.inl (UInt8.lt_iff_toNat_lt.2 h))
  ·have:=UInt8.toNat_inj.1 h
   subst this
   rcases zg3 x y with h|rfl|h
   ·exact .inl (.inr ⟨rfl,h⟩)
   ·exact .inr (.inl ⟨rfl,rfl⟩)
   ·exact .inr (.inr (.inr ⟨rfl,h⟩))
  ·exact .inr (.inr (.inl (UInt8.lt_iff_toNat_lt.2 h)))
def ltS (a b:ByteArray):Bool:=Op.bytesLess (ByteArray.toList a) (ByteArray.toList b)
theorem z7g (a:ByteArray):ltS a a=false:=z9y _
theorem zhh {a b c:ByteArray} (h1:ltS a b=true) (h2:ltS b c=true):ltS a c=true:=zfx h1 h2
theorem zs6 (a b:ByteArray):ltS a b=true\/a=b\/ltS b a=true:=by
 rcases zg3 (ByteArray.toList a) (ByteArray.toList b) with h|h|h
 ·exact .inl h
 ·exact .inr (.inl (zbt.1 h))
 ·exact .inr (.inr h)
theorem zs3 {a b:ByteArray} (h:ltS a b=true):ltS b a=false:=by
 cases hb:ltS b a with
 | false=>rfl
 | true=>have:=zhh h hb;rw [z7g] at this;cases this
structure FileA where
 name:ByteArray
 b:List UInt8
 kept:Nat
structure DiskA where
 room:Nat
 left:Int
 gone:Bool
 fs:List FileA
def used (fs:List FileA):Nat:=(fs.map λf=>f.b.length).sum
def DiskA.free (A:DiskA):Nat:=A.room-used A.fs
def okC (c:UInt8):Bool:=(97<=c.toNat && c.toNat<=122) || (48<=c.toNat && c.toNat<=57) || c.toNat == 46 || c.toNat == 45
def z2t (s:ByteArray):Bool:=s.data.toList.all okC && (1<=s.size && s.size<=24)
def z2b (fs:List FileA) (n:ByteArray):Bool:=fs.any λf=>decide (f.name=n)
def z2o (A:DiskA):DiskA:=if A.left>0 then { A with left:=A.left-1,gone:=decide (A.left-1=0) } else A
def z1v (n:ByteArray) (g:FileA->FileA) (f:FileA):FileA:=if f.name=n then g f else f
def z2v (x:FileA):List FileA->List FileA
 | []=>[x]
 | f::r=>if ltS x.name f.name then x::f::r else f::z2v x r
def z14 (n:ByteArray) (fs:List FileA):List FileA:=fs.filter λf=>!decide (f.name=n)
def zw (A:DiskA) (n:ByteArray) (bs:List UInt8):Int × DiskA :=
 if A.gone then (9,A) else if z2t n=false then (2,A) else if bs.length>A.free\/(z2b A.fs n=false/\A.fs.length>=128) then (5,A) else
  (0,z2o { A with fs:=if z2b A.fs n then A.fs.map (z1v n λf=>{ f with b:=f.b++bs }) else z2v ⟨n,bs,0⟩ A.fs })
def zb4 (ns:List ByteArray) (n:ByteArray):Bool:=ns.isEmpty || ns.any λm=>decide (m=n)
def z4a (ns:List ByteArray) (f:FileA):FileA:=if zb4 ns f.name then { f with kept:=f.b.length } else f
def z0x (A:DiskA) (ns:List ByteArray):Int × DiskA :=
 if A.gone then (9,A) else if ns.all (z2b A.fs)=false then (3,A) else (0,z2o { A with fs:=A.fs.map (z4a ns) })
def zj6 (fs:List FileA) (n:ByteArray):Nat:=match fs.find? λf=>decide (f.name=n) with
 | some f=>f.b.length
 | none=>0
def cutA' (A:DiskA) (n:ByteArray) (k:Int):Int × DiskA :=
 if A.gone then (9,A) else if z2b A.fs n=false then (3,A) else if k<0\/k>zj6 A.fs n then (2,A) else
  (0,z2o { A with fs:=A.fs.map (z1v n λf=>{ f with b:=f.b.take k.toNat,kept:=min f.kept k.toNat }) })
def z32 (A:DiskA) (a b:ByteArray):Int × DiskA :=
 if A.gone then (9,A) else match A.fs.find? λf=>decide (f.name=a) with
  | none=>(3,A)
  | some f=>if z2t b=false then (2,A) else (0,z2o (if a=b then A else { A with fs:=z2v { f with name:=b } (z14 b (z14 a A.fs)) }))
def z0t (A:DiskA) (n:ByteArray):Int × DiskA :=
 if A.gone then (9,A) else if z2b A.fs n=false then (3,A) else (0,z2o { A with fs:=z14 n A.fs })
def z5p (A:DiskA) (n:Int):DiskA:=if A.gone then A else { A with left:=if n<0 then -1 else n,gone:=decide (n=0) }
def z3e (f:FileA) (more:Int):Nat:=f.kept+(min more.toNat (f.b.length-f.kept))
def z3o (ps:List Int) (i:Nat):Int:=if ps=[] then 0 else ps.getD (i % ps.length) 0
def z41 (ps:List Int) (f:FileA) (i:Nat):FileA:={ f with b:=f.b.take (z3e f (z3o ps i)),kept:=z3e f (z3o ps i) }
def z1c (A:DiskA) (ps:List Int):DiskA:=⟨A.room,-1,false,A.fs.mapIdx λi f=>z41 ps f i⟩
structure okA (A:DiskA):Prop where
 room:A.room<=4194304
 used:used A.fs<=4194304
 many:A.fs.length<=128
 left : -1<=A.left/\A.left<=9223372036854775807
 sorted:A.fs.Pairwise λa b=>ltS a.name b.name=true
 kept:∀ f ∈ A.fs,f.kept<=f.b.length
 names:∀ f ∈ A.fs,f.name.size<=24
theorem z0w (f:FileA) (fs:List FileA):used (f::fs)=f.b.length+used fs:=by simp [used]
theorem z1o {a b:List FileA} (h:a.Perm b):used a=used b:=(h.map _).sum_nat
theorem z6x:∀ {fs:List FileA} {f:FileA},f ∈ fs->f.b.length<=used fs
 | g::r,f,h=>by
  rw [z0w]
  rcases List.mem_cons.1 h with rfl|h
  ·omega
  ·have:=z6x h;omega
theorem z1j {fs:List FileA} (h:fs.Pairwise λa b=>ltS a.name b.name=true):(fs.map (·.name)).Nodup:=by
 rw [List.Nodup,List.pairwise_map]
 exact h.imp λ{a b} hab e=>by rw [e,z7g] at hab;cases hab
theorem z66 {fs:List FileA} {n:ByteArray}:z2b fs n=true↔∃ f ∈ fs,f.name=n:=by simp [z2b]
theorem z5v {fs:List FileA} {n:ByteArray}:z2b fs n=false↔∀ f ∈ fs,f.name≠n:=by simp [z2b]
instance:ByE P T.a26 T.a34:=⟨by kernel_rfl,by kernel_rfl,by kernel_rfl⟩
instance:StT P T.a31:=⟨by kernel_rfl⟩
instance:KeyT P T.a31 ekS:=zva (by kernel_rfl)
instance:MapT P T.a12 T.a31 (.pointer none):=⟨T.a14,by kernel_rfl,by kernel_rfl⟩
abbrev evF (b:Nat):Value:=.pointer (some ⟨b,0,none⟩)
structure FileM where
 at_:Nat
 x:Sl
 f:FileA
def z3j (t:FileM):HP:=HP.star (pt t.at_ (.cells #[t.x.v,.int .i64 t.f.kept] T.a6)) (slc T.a34 1 t.x (t.f.b.flatMap zf))
def dk (d:Nat) (A:DiskA):HP:=HP.ex λm:Nat=>HP.ex λFS:List FileM=>HP.and ((FS.map (·.f)).Perm A.fs/\okA A)
 (HP.star (pt d (.cells #[.int .i64 A.left,.bool A.gone,.int .i64 A.room,.int .i64 (used A.fs),.map (some m)] T.a5))
  (HP.star (z3c ekS evF m (FS.map λt=>(t.f.name,t.at_))) (HP.all (FS.map z3j))))
section
variable {w:World} {l r:List HP}
theorem Sat.all_nil (hs:Sat w l):Sat w (HP.all []::l) :=
 ⟨⟨λ_=>none,World.env' w⟩,World.ph w,⟨(λ_ _ h=>by cases h),rfl⟩,PH.sub_refl _,(λ_=>Or.inl rfl),trivial,hs⟩
theorem Sat.all_cons {a:HP} {L:List HP} (hs:Sat w (HP.all (a::L)::l)):Sat w (a::HP.all L::l):=by
 refine Sat.star (A:=a) (B:=HP.all L) (hs.imp λp h=>?_)
 obtain ⟨p1,p2,h1,h2,hd,hA,hl⟩:=h
 exact ⟨p1,p2,h1,h2,hd,hA,hl⟩
theorem Sat.all_put {a:HP} {L:List HP} (hs:Sat w (a::HP.all L::l)):Sat w (HP.all (a::L)::l):=by
 refine (Sat.star_mk (A:=a) (B:=HP.all L) hs).imp λp h=>?_
 obtain ⟨p1,p2,h1,h2,hd,hA,hl⟩:=h
 exact ⟨p1,p2,h1,h2,hd,hA,hl⟩
theorem Sat.all_perm {L L':List HP} (hp:L.Perm L') (hs:Sat w (HP.all L::l)):Sat w (HP.all L'::l):=hs.imp λp h=>z9t hp h
theorem z20 {d:Nat} {A:DiskA} (hs:Sat w (dk d A::l)):∃ (m:Nat) (FS:List FileM),(FS.map FileM.f).Perm A.fs/\okA A /\
  Sat w (pt d (.cells #[.int .i64 A.left,.bool A.gone,.int .i64 A.room,.int .i64 (used A.fs),.map (some m)] T.a5)::z3c ekS evF m (FS.map λt=>(t.f.name,t.at_))::HP.all (FS.map z3j)::l):=by
 obtain ⟨m,hs⟩:=hs.ex
 obtain ⟨FS,hs⟩:=hs.ex
 obtain ⟨⟨h1,h2⟩,hs⟩:=hs.and
 have hs:=hs.star
 have hs:=(hs.pick [1]).star
 exact ⟨m,FS,h1,h2,hs.pick [2,0,0]⟩
theorem zn2 {d:Nat} {A:DiskA} {m:Nat} {FS:List FileM} (hp:(FS.map FileM.f).Perm A.fs) (hok:okA A)
  (hs:Sat w (pt d (.cells #[.int .i64 A.left,.bool A.gone,.int .i64 A.room,.int .i64 (used A.fs:Nat),.map (some m)] T.a5)::z3c ekS evF m (FS.map λt=>(t.f.name,t.at_))::HP.all (FS.map z3j)::l)):Sat w (dk d A::l):=by
 refine .ex_mk m (.ex_mk FS (.and_mk ⟨hp,hok⟩ (.star_mk ?_)))
 refine (Sat.star_mk (hs.pick [1,1])).pick [1]
theorem z1z {d:Nat} {A:DiskA} (m:Nat) {FS:List FileM} {r1 r2 r3 l':List HP} {u:Int} (hp:(FS.map FileM.f).Perm A.fs) (hok:okA A) (hs:Sat w l)
  [h1:FocB l d (.cells [.int .i64 A.left,.bool A.gone,.int .i64 A.room,.int .i64 u,.map (some m)].toArray T.a5) r1] [h2:FoM r1 m ekS evF (FS.map λt=>(t.f.name,t.at_)) r2] [h3:Foc r2 (HP.all (FS.map z3j)) r3] [h4:Sub r3 l']
  (hu:u=(used A.fs:Nat):=by rfl):Sat w (dk d A::l'):=by
 subst hu
 have h5:Sat w (dk d A::r3):=zn2 hp hok (hs.perm (h1.perm.trans (.cons _ (h2.perm.trans (.cons _ h3.perm)))))
 exact h5.sub
theorem z63 {FS:List FileM} {t:FileM} (hs:Sat w l) [h:Foc l (HP.all (FS.map z3j)) r] (ht:t ∈ FS):∃ FS',FS.Perm (t::FS') /\
  Sat w (pt t.at_ (.cells #[t.x.v,.int .i64 t.f.kept] T.a6)::slc T.a34 1 t.x (t.f.b.flatMap zf)::HP.all (FS'.map z3j)::r):=by
 obtain ⟨s,u,rfl⟩:=List.append_of_mem ht
 have hp:(s++t::u).Perm (t::(s++u)):=List.perm_middle
 exact ⟨s++u,hp,(((hs.perm h.perm).all_perm (hp.map z3j)).all_cons).star⟩
theorem z4l {FS:List FileM} (t:FileM) {r1 r2 r3:List HP} (hs:Sat w l) [h1:FocB l t.at_ (.cells [.slice t.x.a t.x.len t.x.cap,.int .i64 t.f.kept].toArray T.a6) r1] [h2:FocS r1 t.x T.a34 1 (t.f.b.flatMap zf) r2] [h3:Foc r2 (HP.all (FS.map z3j)) r3] :
  Sat w (HP.all ((t::FS).map z3j)::r3) :=
 Sat.all_put (Sat.star_mk (A:=pt t.at_ (.cells #[t.x.v,.int .i64 t.f.kept] T.a6)) (B:=slc T.a34 1 t.x (t.f.b.flatMap zf)) (hs.perm (h1.perm.trans (.cons _ (h2.perm.trans (.cons _ h3.perm))))))
end
section
variable {w:World} {l r:List HP} {d:Nat} {A:DiskA}
theorem zkh (n:Nat) (hn:n<=4194304) (hs:Sat w l):Ret P F.a17 #[.int .i64 n] w λvs w'=>∃ d,vs=[.pointer (some ⟨d,0,none⟩),.int .i64 0]/\Sat w' (dk d ⟨n,-1,false,[]⟩::l) :=
 zo9 n <| by
  unfold z011
  refine z0g ?_
  refine zv4 ekS evF hs λm w' hs=>?_
  refine z00 hs λd w' hs=>?_
  refine ⟨rfl,d,rfl,?_⟩
  exact zn2 (FS:=[]) (.refl _) ⟨hn,by simp [used],by simp,by simp,by simp,by simp,by simp⟩ ((hs.all_nil).pick [1,1,0])
theorem znk (c:UInt8):((!(decide ((c.toNat:Int)>=97) && decide ((c.toNat:Int)<=122)) && !(decide ((c.toNat:Int)>=48) && decide ((c.toNat:Int)<=57)) && (c.toNat:Int) != 46 && (c.toNat:Int) != 45)=true↔okC c=false):=by
 simp [okC];omega
theorem zsk (s:ByteArray) (hs:Sat w l):Ret P F.a16 #[.string s] w λvs w'=>vs=[.bool (z2t s)]/\Sat w' l :=
 zog s <| by
  unfold z02a
  refine zg (λh=>?_) λh=>?_
  ·refine ⟨rfl,?_,hs⟩
   have:z2t s=false:=by simp [z2t];omega
   rw [this]
  refine zjr hs λx w' hs=>?_
  have hl:=hs.slen x
  have hsz:s.data.toList.length=s.size:=by simp
  refine zp (λ_ w'=>s.data.toList.all okC=true/\Sat w' l) ?_ ?_
  ·refine z08 (λn v w=>∃ i:Nat,v=((i:Int),())/\i<=s.data.toList.length/\s.data.toList.length-i=n/\(s.data.toList.take i).all okC=true/\Sat w (slc T.a34 1 x (s.data.toList.flatMap zf)::l)) s.data.toList.length ⟨0,rfl,by omega,rfl,rfl,hs⟩ ?_
   clear hs
   rintro n _ w ⟨i,rfl,hi,hn,hall,hs⟩
   refine zk ?_
   refine zg (λhc=>?_) λhc=>?_
   ·have hil:i<s.data.toList.length:=by omega
    refine z1k hs i hil ?_
    refine wp_lt (wp_lt (wp_lt ?_))
    have htk:(s.data.toList.take (i+1)).all okC=okC s.data.toList[i]:=by
     rw [List.take_add_one,List.getElem?_eq_getElem hil,List.all_append,hall];simp
    refine zfm (λh3=>?_) λh3=>?_
    ·have h3:=(znk _).1 h3
     refine zn (zn ?_)
     refine ⟨rfl,?_,hs.tail⟩
     have:z2t s=false:=by
      have:s.data.toList.all okC=false:=by
       rw [<- List.take_append_drop (i+1) s.data.toList,List.all_append,htk,h3];rfl
      simp only [z2t,this,Bool.false_and]
     rw [this]
    ·have h3:okC s.data.toList[i]=true:=by
      cases hk:okC s.data.toList[i] with
      | true=>rfl
      | false=>have:=(znk _).2 hk;rw [this] at h3;cases h3
     refine z4c (us':=[.int .i64 ((i+1:Nat):Int)]) (by (try simp (disch:=omega) only [w64]);first|rfl|(congr;omega)) ?_
     refine z0n (s.data.toList.length-(i+1)) ?_
     exact ⟨i+1,rfl,by omega,rfl,by rw [htk,h3],hs⟩
   ·refine zn (zh ⟨?_,hs.tail⟩)
    rwa [List.take_of_length_le (by omega)] at hall
  ·rintro _ w' ⟨hall,hs⟩
   refine zk ?_
   refine ⟨rfl,?_,hs⟩
   have:z2t s=true:=by simp only [z2t,hall,Bool.true_and,Bool.and_eq_true,decide_eq_true_eq];omega
   rw [this]
theorem z038 [hf:Fo l dk d A r] (hs:Sat w l):Ret P F.a15 #[.pointer (some ⟨d,0,none⟩)] w λvs w'=>vs=[.int .i64 (if A.gone then 9 else 0)]/\Sat w' (dk d A::r) :=
 zq0 _ <| by
  unfold zzu
  obtain ⟨m,FS,hp,hok,hs⟩:=z20 (hs.perm hf.perm)
  refine wp_lt (z0g ?_ (by simp))
  (repeat (first|with_reducible (first|refine zk ?_|refine zm ?_|refine z0k ?_|refine zb hs ?_|refine zt hs ?_|refine zi ?_|refine z07 hs λ_ hs=>?_|refine zy hs λ_ _ hs=>?_|refine z00 hs λ_ _ hs=>?_|refine z0f hs λ_ hs=>?_|refine z03 hs λ_ hs=>?_)|(apply wp_must;(focus first|trivial|omega|assumption))|refine z19 ?_|refine wp_lt ?_))
  refine zg (λh=>?_) λh=>?_
  ·exact ⟨rfl,by rw [if_pos h],z1z m hp hok hs⟩
  ·exact ⟨rfl,by rw [if_neg h],z1z m hp hok hs⟩
theorem zyn {m:Nat} {n room u:Int} (hn:n<=9223372036854775807 /\ -1<=n) [hf:FocB l d (.cells #[.int .i64 n,.bool false,.int .i64 room,.int .i64 u,.map (some m)] T.a5) r] (hs:Sat w l) :
  Ret P F.a19 #[.pointer (some (Addr.add ⟨d,0,none⟩ 0))] w λvs w'=>vs=[] /\
   Sat w' (pt d (.cells #[.int .i64 (if n>0 then n-1 else n),.bool (if n>0 then decide (n-1=0) else false),.int .i64 room,.int .i64 u,.map (some m)] T.a5)::r) :=
 zp1 _ <| by
  unfold zzq
  have hs:=hs.focB d
  (repeat (first|with_reducible (first|refine zk ?_|refine zm ?_|refine z0k ?_|refine zb hs ?_|refine zt hs ?_|refine zi ?_|refine z07 hs λ_ hs=>?_|refine zy hs λ_ _ hs=>?_|refine z00 hs λ_ _ hs=>?_|refine z0f hs λ_ hs=>?_|refine z03 hs λ_ hs=>?_)|(apply wp_must;(focus first|trivial|omega|assumption))|refine z19 ?_|refine wp_lt ?_))
  refine zp (λ_ w'=>Sat w' (pt d (.cells #[.int .i64 (if n>0 then n-1 else n),.bool (if n>0 then decide (n-1=0) else false),.int .i64 room,.int .i64 u,.map (some m)] T.a5)::r)) ?_ ?_
  ·refine zg (λh=>?_) λh=>?_
   ·(repeat (first|with_reducible (first|refine zk ?_|refine zm ?_|refine z0k ?_|refine zb hs ?_|refine zt hs ?_|refine zi ?_|refine z07 hs λ_ hs=>?_|refine zy hs λ_ _ hs=>?_|refine z00 hs λ_ _ hs=>?_|refine z0f hs λ_ hs=>?_|refine z03 hs λ_ hs=>?_)|(apply wp_must;(focus first|trivial|omega|assumption))|refine z19 ?_|refine wp_lt ?_))
    refine zh ?_
    rw [if_pos h,if_pos h]
    rw [w64 (x:=n-1) (by omega) (by omega)] at hs
    exact hs
   ·refine zh ?_
    rw [if_neg h,if_neg h];exact hs
  ·rintro _ w' hs
   refine zk ?_
   exact ⟨rfl,rfl,hs⟩
theorem zv1 (A:DiskA) (h:A.gone=false):z2o A=⟨A.room,if A.left>0 then A.left-1 else A.left,if A.left>0 then decide (A.left-1=0) else false,A.fs⟩:=by
 unfold z2o
 split
 ·rfl
 ·rw [<- h]
theorem z001 [hf:Fo l dk d A r] (hs:Sat w l):Ret P F.a6 #[.pointer (some ⟨d,0,none⟩)] w λvs w'=>vs=[.int .i64 (A.free:Nat)]/\Sat w' (dk d A::r) :=
 zru _ <| by
  unfold zf7
  obtain ⟨m,FS,hp,hok,hs⟩:=z20 (hs.perm hf.perm)
  refine z0g ?_ (by simp)
  have h1:=hok.room
  have h2:=hok.used
  refine z07 hs λw' hs=>?_
  refine zm ?_
  refine zb hs ?_
  refine zm ?_
  refine zb hs ?_
  refine zin (y:=(A.free:Nat)) ?_ ?_
  ·have e:IntKind.wrap .i64 ((A.room:Int)-(used A.fs:Nat))=(A.room:Int)-(used A.fs:Nat):=zue
   rw [e]
   unfold DiskA.free
   split <;> omega
  exact zi ⟨rfl,rfl,z1z m hp hok hs⟩
theorem zso [hf:Fo l dk d A r] (hs:Sat w l):Ret P F.a8 #[.pointer (some ⟨d,0,none⟩)] w λvs w'=>vs=[.bool A.gone]/\Sat w' (dk d A::r) :=
 zt4 _ <| by
  unfold zf9
  obtain ⟨m,FS,hp,hok,hs⟩:=z20 (hs.perm hf.perm)
  (repeat (first|with_reducible (first|refine zk ?_|refine zm ?_|refine z0k ?_|refine zb hs ?_|refine zt hs ?_|refine zi ?_|refine z07 hs λ_ hs=>?_|refine zy hs λ_ _ hs=>?_|refine z00 hs λ_ _ hs=>?_|refine z0f hs λ_ hs=>?_|refine z03 hs λ_ hs=>?_)|(apply wp_must;(focus first|trivial|omega|assumption))|refine z19 ?_|refine wp_lt ?_))
  exact ⟨rfl,by simp,z1z m hp hok hs⟩
theorem z023 (n:Int) (hn : -9223372036854775808<=n/\n<=9223372036854775807) [hf:Fo l dk d A r] (hs:Sat w l):Ret P F.a7 #[.pointer (some ⟨d,0,none⟩),.int .i64 n] w λvs w'=>vs=[]/\Sat w' (dk d (z5p A n)::r) :=
 zsj _ n <| by
  unfold zf8
  obtain ⟨m,FS,hp,hok,hs⟩:=z20 (hs.perm hf.perm)
  refine z0k ?_
  refine zb hs ?_
  unfold z5p
  refine zg (λh=>?_) λh=>?_
  ·have h:A.gone=true:=by simpa using h
   rw [if_pos h]
   exact ⟨rfl,rfl,z1z m hp hok hs⟩
  ·have h:¬ A.gone=true:=by simpa using h
   rw [if_neg h]
   have e:(if -1>n then -1 else n)=if n<0 then -1 else n:=by split <;> split <;> omega
   rw [e]
   have hok':okA { A with left:=if n<0 then -1 else n,gone:=decide (n=0) }:=⟨hok.room,hok.used,hok.many,by show -1<=(if n<0 then -1 else n)/\(if n<0 then -1 else n)<=9223372036854775807;split <;> omega,hok.sorted,hok.kept,hok.names⟩
   (repeat (first|with_reducible (first|refine zk ?_|refine zm ?_|refine z0k ?_|refine zb hs ?_|refine zt hs ?_|refine zi ?_|refine z07 hs λ_ hs=>?_|refine zy hs λ_ _ hs=>?_|refine z00 hs λ_ _ hs=>?_|refine z0f hs λ_ hs=>?_|refine z03 hs λ_ hs=>?_)|(apply wp_must;(focus first|trivial|omega|assumption))|refine z19 ?_|refine wp_lt ?_))
   have eb:(n == 0)=decide (n=0):=by rw [Bool.eq_iff_iff];simp
   rw [eb] at hs
   exact ⟨rfl,rfl,z1z m hp hok' hs⟩
end
theorem z88 {fs:List FileA} {n:ByteArray} (hs:(fs.map (·.name)).Nodup) {f:FileA} (hf:f ∈ fs) (hn:f.name=n):fs.find? (λf=>decide (f.name=n))=some f:=by
 subst hn
 induction fs with
 | nil=>cases hf
 | cons g r ih =>
  rw [List.map_cons,List.nodup_cons] at hs
  rcases List.mem_cons.1 hf with rfl|hf
  ·rw [List.find?_cons_of_pos (by simp)]
  ·rw [List.find?_cons_of_neg (by simp;exact λe=>hs.1 (List.mem_map.2 ⟨f,hf,e.symm⟩))]
   exact ih hs.2 hf
theorem ztk {fs:List FileA} {n:ByteArray} (h:∀ f ∈ fs,f.name≠n):fs.find? (λf=>decide (f.name=n))=none:=List.find?_eq_none.2 λf hf=>by simpa using h f hf
theorem zyd {fs:List FileA} {n:ByteArray} (hs:(fs.map (·.name)).Nodup) {f:FileA} (hf:f ∈ fs) (hn:f.name=n):zj6 fs n=f.b.length:=by rw [zj6,z88 hs hf hn]
section
variable {w:World} {l r:List HP} {d:Nat} {A:DiskA}
theorem z7z {FS:List FileM} (hp:(FS.map FileM.f).Perm A.fs) {n:ByteArray} {b:Nat} (h:(n,b) ∈ FS.map λt=>(t.f.name,t.at_)):∃ t ∈ FS,t.at_=b/\t.f.name=n/\t.f ∈ A.fs:=by
 obtain ⟨t,ht,he⟩:=List.mem_map.1 h
 simp only [Prod.mk.injEq] at he
 exact ⟨t,ht,he.2,he.1,hp.mem_iff.1 (List.mem_map.2 ⟨t,ht,rfl⟩)⟩
theorem z7k {FS:List FileM} (hp:(FS.map FileM.f).Perm A.fs) {n:ByteArray} (h:∀ b,(n,b) ∉ FS.map λt=>(t.f.name,t.at_)):∀ f ∈ A.fs,f.name≠n:=λf hf e=>by
 obtain ⟨t,ht,rfl⟩:=List.mem_map.1 (hp.mem_iff.2 hf)
 exact h t.at_ (List.mem_map.2 ⟨t,ht,by rw [e]⟩)
theorem apart {FS FS':List FileM} {t:FileM} (hp:(FS.map FileM.f).Perm A.fs) (hok:okA A) (h:FS.Perm (t::FS')) :
  A.fs.Perm (t.f::FS'.map FileM.f)/\(∀ f ∈ FS'.map FileM.f,f.name≠t.f.name)/\t.f ∈ A.fs:=by
 have h1:A.fs.Perm (t.f::FS'.map FileM.f):=hp.symm.trans (h.map FileM.f)
 have h2:((t.f::FS'.map FileM.f).map (·.name)).Nodup:=(h1.map _).nodup_iff.1 (z1j hok.sorted)
 rw [List.map_cons,List.nodup_cons] at h2
 exact ⟨h1,λf hf e=>h2.1 (List.mem_map.2 ⟨f,hf,e⟩),h1.mem_iff.2 (List.mem_cons_self ..)⟩
theorem znz (x:Sl) (bs:List UInt8) (hb:bs.length<=100000000) [hf:FocR l x 1 (bs.flatMap zf)] (hs:Sat w l):Ret P F.a0 #[x.v] w λvs w'=>∃ z:Sl,vs=[z.v]/\Sat w' (slc T.a34 1 z (bs.flatMap zf)::l) :=
 zi5 x <| by
  unfold zf0
  refine zg (λh=>?_) λh=>?_
  ·have:bs=[]:=by
    obtain ⟨hlen,h0|⟨b,off,arr,T',fr,ha,-⟩⟩:=hf.rd w hs
    ·rw [z44,h0] at hlen;exact List.length_eq_zero_iff.1 (by omega)
    ·rw [h] at ha;cases ha
   subst this
   exact ⟨rfl,⟨none,0,0⟩,rfl,hs.slc_nil⟩
  ·refine z8t hs ([]:List UInt8) (enc:=zf) bs0 λb w' hs=>?_
   refine wp_app' hs (xs:=([]:List UInt8)) (ys:=bs) (enc:=zf) (λz w' hs=>?_) (by simp;omega)
   exact ⟨rfl,z,rfl,hs⟩
theorem zjk (n:ByteArray) [hf:Fo l dk d A r] (hs:Sat w l):Ret P F.a10 #[.pointer (some ⟨d,0,none⟩),.string n] w λvs w' =>
  (∃ f ∈ A.fs,f.name=n/\∃ z:Sl,vs=[z.v,.int .i64 0]/\Sat w' (slc T.a34 1 z (f.b.flatMap zf)::dk d A::r))\/((∀ f ∈ A.fs,f.name≠n)/\vs=[.slice none 0 0,.int .i64 3]/\Sat w' (dk d A::r)) :=
 zpe _ n <| by
  unfold z007
  obtain ⟨m,FS,hp,hok,hs⟩:=z20 (hs.perm hf.perm)
  refine z0g ?_ (by simp)
  (repeat (first|with_reducible (first|refine zk ?_|refine zm ?_|refine z0k ?_|refine zb hs ?_|refine zt hs ?_|refine zi ?_|refine z07 hs λ_ hs=>?_|refine zy hs λ_ _ hs=>?_|refine z00 hs λ_ _ hs=>?_|refine z0f hs λ_ hs=>?_|refine z03 hs λ_ hs=>?_)|(apply wp_must;(focus first|trivial|omega|assumption))|refine z19 ?_|refine wp_lt ?_))
  refine z78 hs (λb hb=>?_) λhb=>?_
  ·obtain ⟨t,ht,rfl,rfl,hA⟩:=z7z hp hb
   obtain ⟨FS',hpm,hs⟩:=z63 hs ht
   refine z0g ?_ (by simp)
   (repeat (first|with_reducible (first|refine zk ?_|refine zm ?_|refine z0k ?_|refine zb hs ?_|refine zt hs ?_|refine zi ?_|refine z07 hs λ_ hs=>?_|refine zy hs λ_ _ hs=>?_|refine z00 hs λ_ _ hs=>?_|refine z0f hs λ_ hs=>?_|refine z03 hs λ_ hs=>?_)|(apply wp_must;(focus first|trivial|omega|assumption))|refine z19 ?_|refine wp_lt ?_))
   have hlen:t.f.b.length<=4194304:=Nat.le_trans (z6x hA) hok.used
   refine za (znz t.x t.f.b (by omega) hs) λ_ _ hs=>?_
   obtain ⟨z,rfl,hs⟩:=hs
   refine zd ?_
   (repeat (first|with_reducible (first|refine zk ?_|refine zm ?_|refine z0k ?_|refine zb hs ?_|refine zt hs ?_|refine zi ?_|refine z07 hs λ_ hs=>?_|refine zy hs λ_ _ hs=>?_|refine z00 hs λ_ _ hs=>?_|refine z0f hs λ_ hs=>?_|refine z03 hs λ_ hs=>?_)|(apply wp_must;(focus first|trivial|omega|assumption))|refine z19 ?_|refine wp_lt ?_))
   refine ⟨rfl,.inl ⟨t.f,hA,rfl,z,rfl,?_⟩⟩
   have hs:=(z4l t hs).all_perm (hpm.symm.map z3j)
   have hs:=z1z (d:=d) (A:=A) (l':=slc T.a34 1 z (t.f.b.flatMap zf)::r) m hp hok hs
   exact hs.sub
  ·refine z17 ?_ (by rfl)
   exact ⟨rfl,.inr ⟨z7k hp hb,rfl,z1z m hp hok hs⟩⟩
end
theorem z8g {fs fs':List FileA} {f:FileA} (hp:fs.Perm (f::fs')) (hne:∀ g ∈ fs',g.name≠f.name):(z14 f.name fs).Perm fs':=by
 have h1:=hp.filter λg=>!decide (g.name=f.name)
 rw [List.filter_cons_of_neg (by simp)] at h1
 have h2:fs'.filter (λg=>!decide (g.name=f.name))=fs':=List.filter_eq_self.2 λg hg=>by simpa using hne g hg
 rw [h2] at h1
 exact h1
theorem zp7 {fs:List FileA} {n:ByteArray} (h:∀ f ∈ fs,f.name≠n):z14 n fs=fs:=List.filter_eq_self.2 λg hg=>by simpa using h g hg
theorem z6s {fs fs':List FileA} {f:FileA} {g:FileA->FileA} (hp:fs.Perm (f::fs')) (hne:∀ g ∈ fs',g.name≠f.name):(fs.map (z1v f.name g)).Perm (g f::fs'):=by
 have h1:=hp.map (z1v f.name g)
 rw [List.map_cons] at h1
 have h2:fs'.map (z1v f.name g)=fs':=by
  conv=>rhs;rw [<- List.map_id fs']
  exact List.map_congr_left λx hx=>by rw [z1v,if_neg (hne x hx)];rfl
 rw [h2,z1v,if_pos rfl] at h1
 exact h1
theorem z60 {n:ByteArray} {g:FileA->FileA} (hg:∀ f,(g f).name=f.name) (f:FileA):(z1v n g f).name=f.name:=by
 unfold z1v;split
 ·exact hg f
 ·rfl
theorem z8h {fs:List FileA} {g:FileA->FileA} (hg:∀ f,(g f).name=f.name) (h:fs.Pairwise λa b=>ltS a.name b.name=true):(fs.map g).Pairwise λa b=>ltS a.name b.name=true:=by
 rw [List.pairwise_map]
 exact h.imp λ{a b} hab=>by rw [hg,hg];exact hab
theorem zk3 {fs:List FileA} (n:ByteArray) (h:fs.Pairwise λa b=>ltS a.name b.name=true):(z14 n fs).Pairwise λa b=>ltS a.name b.name=true:=h.filter _
theorem z9l {fs:List FileA} {n:ByteArray} {f:FileA}:f ∈ z14 n fs↔f ∈ fs/\f.name≠n:=by simp [z14,List.mem_filter]
theorem z37 (x:FileA):∀ fs:List FileA,(z2v x fs).Perm (x::fs)
 | []=>.refl _
 | f::r=>by
  rw [z2v];split
  ·exact .refl _
  ·exact (List.Perm.cons f (z37 x r)).trans (.swap _ _ _)
theorem z9a {x f:FileA} {fs:List FileA}:f ∈ z2v x fs↔f=x\/f ∈ fs:=by rw [(z37 x fs).mem_iff,List.mem_cons]
theorem za2 (x:FileA):∀ {fs:List FileA},(∀ f ∈ fs,f.name≠x.name)->(fs.Pairwise λa b=>ltS a.name b.name=true)->(z2v x fs).Pairwise λa b=>ltS a.name b.name=true
 | [],_,_=>by simp [z2v]
 | f::r,hne,h=>by
  rw [List.pairwise_cons] at h
  rw [z2v];split
  ·rename_i hlt
   rw [List.pairwise_cons]
   refine ⟨λg hg=>?_,by rw [List.pairwise_cons];exact h⟩
   rcases List.mem_cons.1 hg with rfl|hg
   ·exact hlt
   ·exact zhh hlt (h.1 g hg)
  ·rename_i hlt
   rw [List.pairwise_cons]
   refine ⟨λg hg=>?_,za2 x (λg hg=>hne g (List.mem_cons_of_mem _ hg)) h.2⟩
   rcases z9a.1 hg with rfl|hg
   ·rcases zs6 f.name g.name with h1|h1|h1
    ·exact h1
    ·exact absurd h1 (hne f (List.mem_cons_self ..))
    ·exact absurd h1 hlt
   ·exact h.1 g hg
theorem z7t {A:DiskA} (h:okA A):okA (z2o A):=by
 unfold z2o
 split
 ·exact ⟨h.room,h.used,h.many,by have:=h.left;show -1<=A.left-1/\A.left-1<=_;omega,h.sorted,h.kept,h.names⟩
 ·exact h
theorem z2u (A:DiskA):(z2o A).fs=A.fs:=by unfold z2o;split <;> rfl
theorem z7e (A:DiskA):(z2o A).room=A.room:=by unfold z2o;split <;> rfl
section
variable {w:World} {l r:List HP} {d:Nat} {A:DiskA}
theorem z7v {m:Nat} {FS:List FileM} {fs':List FileA} {room left u:Int} {r1 r2 r3 l':List HP} (hg:A.gone=false) (hok':okA { A with fs:=fs' }) (hp:(FS.map FileM.f).Perm fs') (hs:Sat w l)
  [h1:FocB l d (.cells [.int .i64 left,.bool false,.int .i64 room,.int .i64 u,.map (some m)].toArray T.a5) r1] [h2:FoM r1 m ekS evF (FS.map λt=>(t.f.name,t.at_)) r2] [h3:Foc r2 (HP.all (FS.map z3j)) r3] [h4:Sub r3 l']
  (hu:u=(used fs':Nat):=by rfl) (hl:left=A.left:=by rfl) (hr:room=A.room:=by rfl) :
  Ret P F.a19 #[.pointer (some (Addr.add ⟨d,0,none⟩ 0))] w λvs w'=>vs=[]/\Sat w' (dk d (z2o { A with fs:=fs' })::l'):=by
 subst hu hl hr
 have hl:=hok'.left
 refine Calls.mono (zyn (d:=d) (m:=m) ⟨hl.2,hl.1⟩ hs) λe w' ⟨vs,he,hv,hs⟩=>⟨vs,he,hv,?_⟩
 have hd:=zv1 { A with fs:=fs' } hg
 rw [hd]
 have hok2:=z7t hok'
 rw [hd] at hok2
 exact z1z m (A:=⟨A.room,if A.left>0 then A.left-1 else A.left,if A.left>0 then decide (A.left-1=0) else false,fs'⟩) hp hok2 hs
theorem zsl (n:ByteArray) (m:Nat) {FS:List FileM} (hp:(FS.map FileM.f).Perm A.fs) (hok:okA A)
  (hs:Sat w (pt d (.cells #[.int .i64 A.left,.bool A.gone,.int .i64 A.room,.int .i64 (used A.fs),.map (some m)] T.a5)::z3c ekS evF m (FS.map λt=>(t.f.name,t.at_))::HP.all (FS.map z3j)::r)) :
  Ret P F.a14 #[.pointer (some ⟨d,0,none⟩),.string n] w λvs w'=>vs=[]/\∃ FS':List FileM,(FS'.map FileM.f).Perm (z14 n A.fs)/\(∀ t ∈ FS',t ∈ FS/\t.f.name≠n)/\(∀ t ∈ FS,t.f.name≠n->t ∈ FS') /\
   Sat w' (pt d (.cells #[.int .i64 A.left,.bool A.gone,.int .i64 A.room,.int .i64 (used (z14 n A.fs)),.map (some m)] T.a5)::z3c ekS evF m (FS'.map λt=>(t.f.name,t.at_))::HP.all (FS'.map z3j)::r) :=
 zr1 _ n <| by
  unfold zzl
  (repeat (first|with_reducible (first|refine zk ?_|refine zm ?_|refine z0k ?_|refine zb hs ?_|refine zt hs ?_|refine zi ?_|refine z07 hs λ_ hs=>?_|refine zy hs λ_ _ hs=>?_|refine z00 hs λ_ _ hs=>?_|refine z0f hs λ_ hs=>?_|refine z03 hs λ_ hs=>?_)|(apply wp_must;(focus first|trivial|omega|assumption))|refine z19 ?_|refine wp_lt ?_))
  refine z78 hs (λb hb=>?_) λhb=>?_
  ·obtain ⟨t,ht,rfl,rfl,hA⟩:=z7z hp hb
   obtain ⟨FS',hpm,hs⟩:=z63 hs ht
   obtain ⟨h1,h2,-⟩:=apart hp hok hpm
   have hd:=z8g h1 h2
   have hu:used A.fs=t.f.b.length+used (z14 t.f.name A.fs):=by rw [z1o h1,z0w,z1o hd]
   have h3:=hok.used
   refine z3z ?_
   refine z17 ?_ (by simp)
   refine z07 hs λw' hs=>?_
   refine zm ?_
   refine zb hs ?_
   refine zm ?_
   refine zb hs ?_
   rw [hs.slen t.x (xs:=t.f.b) (enc:=zf),zue (y:=(used (z14 t.f.name A.fs):Nat))]
   (repeat (first|with_reducible (first|refine zk ?_|refine zm ?_|refine z0k ?_|refine zb hs ?_|refine zt hs ?_|refine zi ?_|refine z07 hs λ_ hs=>?_|refine zy hs λ_ _ hs=>?_|refine z00 hs λ_ _ hs=>?_|refine z0f hs λ_ hs=>?_|refine z03 hs λ_ hs=>?_)|(apply wp_must;(focus first|trivial|omega|assumption))|refine z19 ?_|refine wp_lt ?_))
   refine znd hs (FS'.map λt=>(t.f.name,t.at_)) (.inl ⟨t.at_,hpm.map _⟩) λw' hs=>?_
   refine z3f ?_
   refine ⟨rfl,rfl,FS',hd.symm,λt' ht'=>⟨hpm.mem_iff.2 (List.mem_cons_of_mem _ ht'),h2 _ (List.mem_map.2 ⟨t',ht',rfl⟩)⟩,λt' ht' hne=>?_,hs.sub⟩
   rcases List.mem_cons.1 (hpm.mem_iff.1 ht') with rfl|h
   ·exact absurd rfl hne
   ·exact h
  ·have hn:=z7k hp hb
   refine z3z ?_
   refine z0g ?_ (by simp)
   refine z3f ?_
   rw [zp7 hn]
   exact ⟨rfl,rfl,FS,hp,λt ht=>⟨ht,hn _ (hp.mem_iff.1 (List.mem_map.2 ⟨t,ht,rfl⟩))⟩,λt ht _=>ht,hs⟩
theorem zb9 {A:DiskA} (h:okA A) (n:ByteArray):okA { A with fs:=z14 n A.fs }:=by
 have hle:used (z14 n A.fs)<=used A.fs:=by
  have:∀ fs:List FileA,used (z14 n fs)<=used fs:=λfs=>by
   induction fs with
   | nil=>exact Nat.le_refl _
   | cons f r ih =>
    unfold z14 at *
    rw [z0w,List.filter_cons]
    split
    ·rw [z0w];omega
    ·omega
  exact this _
 exact ⟨h.room,Nat.le_trans hle h.used,Nat.le_trans (List.length_filter_le _ _) h.many,h.left,zk3 n h.sorted,λf hf=>h.kept f (z9l.1 hf).1,λf hf=>h.names f (z9l.1 hf).1⟩
theorem zbu {k:Prog} {Q:List Value->World->Prop} (hs:Sat w l) [hf:Fo l dk d A r] (h1:A.gone=true->∀ w',Sat w' (dk d A::r)->Q [.int .i64 9] w') (h0:A.gone=false->∀ w',Sat w' (dk d A::r)->k.wp P tt w' λe vs w=>e=0/\Q vs w) :
  (Prog.call F.a15 [.pointer (some ⟨d,0,none⟩)] (sI .i64) (u1 λ(n0:Int)=>.lt (.int .i64) (n0) λ(n1:Int)=>.ite (n1 != 0) (.lt (.int .i64) (n1) λ(n2:Int)=>.done 0 [.int .i64 n2]) k)).wp P tt w λe vs w=>e=0/\Q vs w:=by
 refine za (z038 hs) λ_ _ hs=>?_
 obtain ⟨rfl,hs⟩:=hs
 refine zd ?_
 refine wp_lt ?_
 by_cases hg:A.gone=true
 ·rw [if_pos hg]
  refine z17 ?_ (by decide)
  exact wp_lt ⟨rfl,h1 hg _ hs⟩
 ·rw [if_neg hg]
  refine z0g ?_ (by decide)
  exact h0 (by simpa using hg) _ hs
theorem z92 (n:ByteArray) [hf:Fo l dk d A r] (hs:Sat w l):Ret P F.a11 #[.pointer (some ⟨d,0,none⟩),.string n] w λvs w'=>vs=[.int .i64 (z0t A n).1]/\Sat w' (dk d (z0t A n).2::r) :=
 zrq _ n <| by
  unfold z02e z0t
  refine zbu hs (λhg w' hs=>?_) λhg w' hs=>?_
  ·rw [if_pos hg];exact ⟨rfl,hs⟩
  rw [if_neg (by rw [hg];simp)]
  obtain ⟨m,FS,hp,hok,hs⟩:=z20 hs
  (repeat (first|with_reducible (first|refine zk ?_|refine zm ?_|refine z0k ?_|refine zb hs ?_|refine zt hs ?_|refine zi ?_|refine z07 hs λ_ hs=>?_|refine zy hs λ_ _ hs=>?_|refine z00 hs λ_ _ hs=>?_|refine z0f hs λ_ hs=>?_|refine z03 hs λ_ hs=>?_)|(apply wp_must;(focus first|trivial|omega|assumption))|refine z19 ?_|refine wp_lt ?_))
  refine z78 hs (λb hb=>?_) λhb=>?_
  ·obtain ⟨t,ht,rfl,rfl,hA⟩:=z7z hp hb
   refine z0g ?_ (by simp)
   rw [if_neg (by rw [z66.2 ⟨_,hA,rfl⟩];simp)]
   refine za (zsl t.f.name m hp hok hs) λ_ _ hs=>?_
   obtain ⟨rfl,FS',hp',-,-,hs⟩:=hs
   refine zd ?_
   (repeat (first|with_reducible (first|refine zk ?_|refine zm ?_|refine z0k ?_|refine zb hs ?_|refine zt hs ?_|refine zi ?_|refine z07 hs λ_ hs=>?_|refine zy hs λ_ _ hs=>?_|refine z00 hs λ_ _ hs=>?_|refine z0f hs λ_ hs=>?_|refine z03 hs λ_ hs=>?_)|(apply wp_must;(focus first|trivial|omega|assumption))|refine z19 ?_|refine wp_lt ?_))
   rw [hg] at hs
   refine za (z7v (l':=r) hg (zb9 hok t.f.name) hp' hs) λ_ _ hs=>?_
   obtain ⟨rfl,hs⟩:=hs
   refine zd ?_
   (repeat (first|with_reducible (first|refine zk ?_|refine zm ?_|refine z0k ?_|refine zb hs ?_|refine zt hs ?_|refine zi ?_|refine z07 hs λ_ hs=>?_|refine zy hs λ_ _ hs=>?_|refine z00 hs λ_ _ hs=>?_|refine z0f hs λ_ hs=>?_|refine z03 hs λ_ hs=>?_)|(apply wp_must;(focus first|trivial|omega|assumption))|refine z19 ?_|refine wp_lt ?_))
   exact ⟨rfl,rfl,hs⟩
  ·refine z17 ?_ (by rfl)
   rw [if_pos (z5v.2 (z7k hp hb))]
   exact ⟨rfl,rfl,z1z m hp hok hs⟩
theorem zbc {fs fs':List FileA} {f:FileA} {g:FileA->FileA} (hp:fs.Perm (f::fs')) (hne:∀ g ∈ fs',g.name≠f.name):used (fs.map (z1v f.name g))=(g f).b.length+used fs':=by
 rw [z1o (z6s hp hne),z0w]
theorem z031 (n:ByteArray) (k:Int) [hf:Fo l dk d A r] (hs:Sat w l):Ret P F.a5 #[.pointer (some ⟨d,0,none⟩),.string n,.int .i64 k] w λvs w'=>vs=[.int .i64 (cutA' A n k).1]/\Sat w' (dk d (cutA' A n k).2::r) :=
 zrt _ n k <| by
  unfold zf6 cutA'
  refine zbu hs (λhg w' hs=>?_) λhg w' hs=>?_
  ·rw [if_pos hg];exact ⟨rfl,hs⟩
  rw [if_neg (by rw [hg];simp)]
  obtain ⟨m,FS,hp,hok,hs⟩:=z20 hs
  (repeat (first|with_reducible (first|refine zk ?_|refine zm ?_|refine z0k ?_|refine zb hs ?_|refine zt hs ?_|refine zi ?_|refine z07 hs λ_ hs=>?_|refine zy hs λ_ _ hs=>?_|refine z00 hs λ_ _ hs=>?_|refine z0f hs λ_ hs=>?_|refine z03 hs λ_ hs=>?_)|(apply wp_must;(focus first|trivial|omega|assumption))|refine z19 ?_|refine wp_lt ?_))
  refine z78 hs (λb hb=>?_) λhb=>?_
  ·obtain ⟨t,ht,rfl,rfl,hA⟩:=z7z hp hb
   refine wp_lt ?_
   refine z0g ?_ (by simp)
   rw [if_neg (by rw [z66.2 ⟨_,hA,rfl⟩];simp),zyd (z1j hok.sorted) hA rfl]
   obtain ⟨FS',hpm,hs⟩:=z63 hs ht
   obtain ⟨h1,h2,-⟩:=apart hp hok hpm
   have hlen:=hs.slen t.x (xs:=t.f.b) (enc:=zf)
   have hcap:=(hs.focS t.x).slc_cap
   (repeat (first|with_reducible (first|refine zk ?_|refine zm ?_|refine z0k ?_|refine zb hs ?_|refine zt hs ?_|refine zi ?_|refine z07 hs λ_ hs=>?_|refine zy hs λ_ _ hs=>?_|refine z00 hs λ_ _ hs=>?_|refine z0f hs λ_ hs=>?_|refine z03 hs λ_ hs=>?_)|(apply wp_must;(focus first|trivial|omega|assumption))|refine z19 ?_|refine wp_lt ?_))
   refine zg (λh=>?_) λh=>?_
   ·rw [if_pos (by omega)]
    have hs:=(z4l t hs).all_perm (hpm.symm.map z3j)
    exact ⟨rfl,rfl,z1z m hp hok hs⟩
   ·rw [if_neg (by omega)]
    obtain ⟨k,rfl⟩:∃ j:Nat,k=j:=⟨k.toNat,by omega⟩
    rw [Int.toNat_natCast]
    have hk:k<=t.f.b.length:=by omega
    have hu0:used A.fs=t.f.b.length+used (FS'.map FileM.f):=by rw [z1o h1,z0w]
    have hu1:=zbc (g:=λf=>{ f with b:=f.b.take k,kept:=min f.kept k }) h1 h2
    have hu2:used (A.fs.map (z1v t.f.name λf=>{ f with b:=f.b.take k,kept:=min f.kept k }))=k+used (FS'.map FileM.f):=by
     rw [hu1];show (t.f.b.take k).length+_=_;rw [List.length_take,Nat.min_eq_left hk]
    have hou:=hok.used
    refine z07 hs λw' hs=>?_
    refine zm ?_
    refine zb hs ?_
    refine zm ?_
    refine zb hs ?_
    have e1:IntKind.wrap .i64 ((used A.fs:Nat)-IntKind.wrap .i64 (((t.x.len:Nat):Int)-(k:Int)))=(used (A.fs.map (z1v t.f.name λf=>{ f with b:=f.b.take k,kept:=min f.kept k })):Nat):=by
     rw [w64 (x:=((t.x.len:Nat):Int)-(k:Int)) (by omega) (by omega),w64 (by omega) (by omega)];omega
    rw [e1]
    (repeat (first|with_reducible (first|refine zk ?_|refine zm ?_|refine z0k ?_|refine zb hs ?_|refine zt hs ?_|refine zi ?_|refine z07 hs λ_ hs=>?_|refine zy hs λ_ _ hs=>?_|refine z00 hs λ_ _ hs=>?_|refine z0f hs λ_ hs=>?_|refine z03 hs λ_ hs=>?_)|(apply wp_must;(focus first|trivial|omega|assumption))|refine z19 ?_|refine wp_lt ?_))
    have hs:=(hs.focS t.x).slc_cut (n:=k) (by omega)
    rw [z87] at hs
    have e2:(if (k:Int)<((t.f.kept:Nat):Int) then (k:Int) else ((t.f.kept:Nat):Int))=((min t.f.kept k:Nat):Int):=by split <;> omega
    rw [e2] at hs
    have hs:=z4l (FS:=FS') ⟨t.at_,⟨t.x.a,k,k⟩,⟨t.f.name,t.f.b.take k,min t.f.kept k⟩⟩ hs
    have hp':(((⟨t.at_,⟨t.x.a,k,k⟩,⟨t.f.name,t.f.b.take k,min t.f.kept k⟩⟩:FileM)::FS').map FileM.f).Perm (A.fs.map (z1v t.f.name λf=>{ f with b:=f.b.take k,kept:=min f.kept k })) :=
     (z6s (g:=λf=>{ f with b:=f.b.take k,kept:=min f.kept k }) h1 h2).symm
    have hok':okA { A with fs:=A.fs.map (z1v t.f.name λf=>{ f with b:=f.b.take k,kept:=min f.kept k }) }:=by
     refine ⟨hok.room,by show used (A.fs.map _)<=_;omega,by show (A.fs.map _).length<=_;rw [List.length_map];exact hok.many,hok.left,z8h (z60 λ_=>rfl) hok.sorted,λf hf=>?_,λf hf=>?_⟩
     rotate_left
     ·obtain ⟨g,hg,rfl⟩:=List.mem_map.1 hf
      rw [z60 (by intro _;rfl)];exact hok.names g hg
     obtain ⟨g,hg,rfl⟩:=List.mem_map.1 hf
     have:=hok.kept g hg
     unfold z1v
     split
     ·show min g.kept k<=(g.b.take k).length;rw [List.length_take];omega
     ·exact this
    have hs:Sat _ (z3c ekS evF m (((⟨t.at_,⟨t.x.a,k,k⟩,⟨t.f.name,t.f.b.take k,min t.f.kept k⟩⟩:FileM)::FS').map λt=>(t.f.name,t.at_))::_):=(hs.pick [2]).mapPerm (hpm.map λt=>(t.f.name,t.at_))
    rw [hg] at hs
    refine za (z7v (l':=r) hg hok' hp' hs) λ_ _ hs=>?_
    obtain ⟨rfl,hs⟩:=hs
    refine zd ?_
    (repeat (first|with_reducible (first|refine zk ?_|refine zm ?_|refine z0k ?_|refine zb hs ?_|refine zt hs ?_|refine zi ?_|refine z07 hs λ_ hs=>?_|refine zy hs λ_ _ hs=>?_|refine z00 hs λ_ _ hs=>?_|refine z0f hs λ_ hs=>?_|refine z03 hs λ_ hs=>?_)|(apply wp_must;(focus first|trivial|omega|assumption))|refine z19 ?_|refine wp_lt ?_))
    exact ⟨rfl,rfl,hs⟩
  ·refine wp_lt ?_
   refine z17 ?_ (by rfl)
   rw [if_pos (z5v.2 (z7k hp hb))]
   exact ⟨rfl,rfl,z1z m hp hok hs⟩
end
section
variable {w:World} {l r:List HP} {d:Nat} {A:DiskA}
theorem zzf {FS:List FileM} (hp:(FS.map FileM.f).Perm A.fs) (hok:okA A) {t:FileM} (ht:t ∈ FS):A.fs.find? (λf=>decide (f.name=t.f.name))=some t.f :=
 z88 (z1j hok.sorted) (hp.mem_iff.1 (List.mem_map.2 ⟨t,ht,rfl⟩)) rfl
theorem zb5 {s:ByteArray} (h:z2t s=true):s.size<=24:=by
 simp only [z2t,Bool.and_eq_true,decide_eq_true_eq] at h;exact h.2.2
theorem zie (n:ByteArray) (fs:List FileA):(z14 n fs).length<=fs.length:=List.length_filter_le _ _
theorem zmv {A:DiskA} (hok:okA A) {f:FileA} (hf:f ∈ A.fs) (b:ByteArray) (hne:f.name≠b) (hb24:b.size<=24):okA { A with fs:=z2v { f with name:=b } (z14 b (z14 f.name A.fs)) }:=by
 have h1:=zb9 hok f.name
 have h2:=zb9 h1 b
 have hp:=z37 { f with name:=b } (z14 b (z14 f.name A.fs))
 obtain ⟨s,u,hsu⟩:=List.append_of_mem hf
 have hpm:A.fs.Perm (f::(s++u)):=by rw [hsu];exact List.perm_middle
 have hnd:=(hpm.map (·.name)).nodup_iff.1 (z1j hok.sorted)
 rw [List.map_cons,List.nodup_cons] at hnd
 have hd:=z8g hpm λg hg e=>hnd.1 (List.mem_map.2 ⟨g,hg,e⟩)
 have hu:used A.fs=f.b.length+used (z14 f.name A.fs):=by rw [z1o hpm,z0w,z1o hd]
 have hl:A.fs.length=(z14 f.name A.fs).length+1:=by rw [hpm.length_eq,List.length_cons,hd.length_eq]
 have hu2:used (z14 b (z14 f.name A.fs))<=used (z14 f.name A.fs):=by
  have:∀ fs:List FileA,used (z14 b fs)<=used fs:=λfs=>by
   induction fs with
   | nil=>exact Nat.le_refl _
   | cons f r ih =>
    unfold z14 at *
    rw [z0w,List.filter_cons]
    split
    ·rw [z0w];omega
    ·omega
  exact this _
 refine ⟨hok.room,?_,?_,hok.left,?_,?_,?_⟩
 ·show used (z2v _ _)<=_
  rw [z1o hp,z0w]
  have:=hok.used
  show f.b.length+_<=_
  omega
 ·show (z2v _ _).length<=_
  rw [hp.length_eq,List.length_cons]
  have:=zie b (z14 f.name A.fs)
  have:=hok.many
  omega
 ·exact za2 _ (λg hg=>(z9l.1 hg).2) h2.sorted
 ·intro g hg
  rcases z9a.1 hg with rfl|hg
  ·exact hok.kept f hf
  ·exact h2.kept g hg
 ·intro g hg
  rcases z9a.1 hg with rfl|hg
  ·exact hb24
  ·exact h2.names g hg
theorem zud (a b:ByteArray) [hf:Fo l dk d A r] (hs:Sat w l):Ret P F.a12 #[.pointer (some ⟨d,0,none⟩),.string a,.string b] w λvs w'=>vs=[.int .i64 (z32 A a b).1]/\Sat w' (dk d (z32 A a b).2::r) :=
 zr3 _ a b <| by
  unfold z005 z32
  refine zbu hs (λhg w' hs=>?_) λhg w' hs=>?_
  ·rw [if_pos hg];exact ⟨rfl,hs⟩
  rw [if_neg (by rw [hg];simp)]
  obtain ⟨m,FS,hp,hok,hs⟩:=z20 hs
  (repeat (first|with_reducible (first|refine zk ?_|refine zm ?_|refine z0k ?_|refine zb hs ?_|refine zt hs ?_|refine zi ?_|refine z07 hs λ_ hs=>?_|refine zy hs λ_ _ hs=>?_|refine z00 hs λ_ _ hs=>?_|refine z0f hs λ_ hs=>?_|refine z03 hs λ_ hs=>?_)|(apply wp_must;(focus first|trivial|omega|assumption))|refine z19 ?_|refine wp_lt ?_))
  refine z78 hs (λbl hb=>?_) λhb=>?_
  ·obtain ⟨t,ht,rfl,rfl,hA⟩:=z7z hp hb
   rw [zzf hp hok ht]
   dsimp only
   refine wp_lt ?_
   refine z0g ?_ (by simp)
   refine za (zsk b hs) λ_ _ hs=>?_
   obtain ⟨rfl,hs⟩:=hs
   refine zd ?_
   refine wp_lt ?_
   refine zg (λh=>?_) λh=>?_
   ·have h:z2t b=false:=by simpa using h
    rw [if_pos h]
    exact ⟨rfl,rfl,z1z m hp hok hs⟩
   have h:z2t b=true:=by simpa using h
   rw [if_neg (by rw [h];simp)]
   refine z3z ?_
   by_cases hab:t.f.name=b
   ·rw [if_pos hab]
    refine z0g ?_ (by simpa using hab)
    refine z3f ?_
    (repeat (first|with_reducible (first|refine zk ?_|refine zm ?_|refine z0k ?_|refine zb hs ?_|refine zt hs ?_|refine zi ?_|refine z07 hs λ_ hs=>?_|refine zy hs λ_ _ hs=>?_|refine z00 hs λ_ _ hs=>?_|refine z0f hs λ_ hs=>?_|refine z03 hs λ_ hs=>?_)|(apply wp_must;(focus first|trivial|omega|assumption))|refine z19 ?_|refine wp_lt ?_))
    rw [hg] at hs
    refine za (z7v (A:=A) (fs':=A.fs) (l':=r) hg hok hp hs) λ_ _ hs=>?_
    obtain ⟨rfl,hs⟩:=hs
    refine zd ?_
    (repeat (first|with_reducible (first|refine zk ?_|refine zm ?_|refine z0k ?_|refine zb hs ?_|refine zt hs ?_|refine zi ?_|refine z07 hs λ_ hs=>?_|refine zy hs λ_ _ hs=>?_|refine z00 hs λ_ _ hs=>?_|refine z0f hs λ_ hs=>?_|refine z03 hs λ_ hs=>?_)|(apply wp_must;(focus first|trivial|omega|assumption))|refine z19 ?_|refine wp_lt ?_))
    exact ⟨rfl,rfl,hs⟩
   ·rw [if_neg hab]
    refine z17 ?_ (by simpa using hab)
    refine za (zsl b m hp hok hs) λ_ _ hs=>?_
    obtain ⟨rfl,FS1,hp1,hin1,hin2,hs⟩:=hs
    refine zd ?_
    (repeat (first|with_reducible (first|refine zk ?_|refine zm ?_|refine z0k ?_|refine zb hs ?_|refine zt hs ?_|refine zi ?_|refine z07 hs λ_ hs=>?_|refine zy hs λ_ _ hs=>?_|refine z00 hs λ_ _ hs=>?_|refine z0f hs λ_ hs=>?_|refine z03 hs λ_ hs=>?_)|(apply wp_must;(focus first|trivial|omega|assumption))|refine z19 ?_|refine wp_lt ?_))
    have ht1:t ∈ FS1:=hin2 t ht hab
    obtain ⟨s,u,hsu⟩:=List.append_of_mem ht1
    have hpm:FS1.Perm (t::(s++u)):=by rw [hsu];exact List.perm_middle
    have hok1:=zb9 hok b
    obtain ⟨h1,h2,hA1⟩:=apart (A:={ A with fs:=z14 b A.fs }) hp1 hok1 hpm
    refine znd hs ((s++u).map λt=>(t.f.name,t.at_)) (.inl ⟨t.at_,hpm.map _⟩) λw' hs=>?_
    (repeat (first|with_reducible (first|refine zk ?_|refine zm ?_|refine z0k ?_|refine zb hs ?_|refine zt hs ?_|refine zi ?_|refine z07 hs λ_ hs=>?_|refine zy hs λ_ _ hs=>?_|refine z00 hs λ_ _ hs=>?_|refine z0f hs λ_ hs=>?_|refine z03 hs λ_ hs=>?_)|(apply wp_must;(focus first|trivial|omega|assumption))|refine z19 ?_|refine wp_lt ?_))
    have hnb:∀ v,(b,v) ∉ (s++u).map λt=>(t.f.name,t.at_):=λv hv=>by
     obtain ⟨t',ht',he⟩:=List.mem_map.1 hv
     simp only [Prod.mk.injEq] at he
     exact (hin1 t' (hpm.mem_iff.2 (List.mem_cons_of_mem _ ht'))).2 he.1
    refine zgu hs ((s++u).map λt=>(t.f.name,t.at_)) (.inr ⟨hnb,rfl⟩) t.at_ λw' hs=>?_
    refine z3f ?_
    (repeat (first|with_reducible (first|refine zk ?_|refine zm ?_|refine z0k ?_|refine zb hs ?_|refine zt hs ?_|refine zi ?_|refine z07 hs λ_ hs=>?_|refine zy hs λ_ _ hs=>?_|refine z00 hs λ_ _ hs=>?_|refine z0f hs λ_ hs=>?_|refine z03 hs λ_ hs=>?_)|(apply wp_must;(focus first|trivial|omega|assumption))|refine z19 ?_|refine wp_lt ?_))
    have hd:(z14 b (z14 t.f.name A.fs)).Perm ((s++u).map FileM.f):=by
     have e:z14 b (z14 t.f.name A.fs)=z14 t.f.name (z14 b A.fs):=by unfold z14;rw [List.filter_filter,List.filter_filter];congr 1;funext x;rw [Bool.and_comm]
     rw [e];exact z8g h1 h2
    have hp2:(((⟨t.at_,t.x,{ t.f with name:=b }⟩:FileM)::(s++u)).map FileM.f).Perm (z2v { t.f with name:=b } (z14 b (z14 t.f.name A.fs))):=by
     rw [List.map_cons]
     exact (List.Perm.cons _ hd.symm).trans (z37 _ _).symm
    have hok2:=zmv hok hA b hab (zb5 h)
    obtain ⟨FS2,hpm2,hs⟩:=z63 hs ht1
    have hpm3:FS2.Perm (s++u):=List.Perm.cons_inv (hpm2.symm.trans hpm)
    have hs:=z4l (FS:=FS2) ⟨t.at_,t.x,{ t.f with name:=b }⟩ hs
    have hs:=hs.all_perm ((List.Perm.cons (⟨t.at_,t.x,{ t.f with name:=b }⟩:FileM) hpm3).map z3j)
    have hs:Sat _ (z3c ekS evF m (((⟨t.at_,t.x,{ t.f with name:=b }⟩:FileM)::(s++u)).map λt=>(t.f.name,t.at_))::_):=hs.pick [1]
    have hu:used (z14 b A.fs)=used (z2v { t.f with name:=b } (z14 b (z14 t.f.name A.fs))):=by
     rw [z1o h1,z0w,z1o (z37 _ _),z0w,z1o hd]
    rw [hg] at hs
    refine za (z7v (l':=r) hg hok2 hp2 hs (by rw [hu])) λ_ _ hs=>?_
    obtain ⟨rfl,hs⟩:=hs
    refine zd ?_
    (repeat (first|with_reducible (first|refine zk ?_|refine zm ?_|refine z0k ?_|refine zb hs ?_|refine zt hs ?_|refine zi ?_|refine z07 hs λ_ hs=>?_|refine zy hs λ_ _ hs=>?_|refine z00 hs λ_ _ hs=>?_|refine z0f hs λ_ hs=>?_|refine z03 hs λ_ hs=>?_)|(apply wp_must;(focus first|trivial|omega|assumption))|refine z19 ?_|refine wp_lt ?_))
    exact ⟨rfl,rfl,hs⟩
  ·rw [ztk (z7k hp hb)]
   refine wp_lt ?_
   refine z17 ?_ (by rfl)
   exact ⟨rfl,rfl,z1z m hp hok hs⟩
end
def z5i (n:Nat):UInt8:=if n<10 then UInt8.ofNat (48+n) else UInt8.ofNat (87+n)
def z64 (c:UInt8):Option Nat:=if 48<=c.toNat/\c.toNat<=57 then some (c.toNat-48) else if 97<=c.toNat/\c.toNat<=102 then some (c.toNat-87) else none
theorem zzw {n:Nat} (h:n<16):z64 (z5i n)=some n:=by
 unfold z5i z64
 split
 ·rw [UInt8.toNat_ofNat',if_pos (by omega)]
  congr 1;omega
 ·rw [UInt8.toNat_ofNat',if_neg (by omega),if_pos (by omega)]
  congr 1;omega
theorem z00m {c:UInt8} {n:Nat} (h:z64 c=some n):z5i n=c/\n<16:=by
 unfold z64 at h
 unfold z5i
 split at h
 ·simp only [Option.some.injEq] at h
  subst h
  rw [if_pos (by omega)]
  exact ⟨UInt8.toNat_inj.1 (by rw [UInt8.toNat_ofNat'];omega),by omega⟩
 ·split at h
  ·simp only [Option.some.injEq] at h
   subst h
   rw [if_neg (by omega)]
   exact ⟨UInt8.toNat_inj.1 (by rw [UInt8.toNat_ofNat'];omega),by omega⟩
  ·cases h
def z2z:Nat->Nat->List UInt8
 | 0,_=>[]
 | k+1,n=>z2z k (n / 16)++[z5i (n % 16)]
def z3s (x:Nat):List UInt8->Option Nat
 | []=>some x
 | c::r=>match z64 c with
  | none=>none
  | some d=>z3s (16*x+d) r
theorem z52:∀ (k n:Nat),(z2z k n).length=k
 | 0,_=>rfl
 | k+1,n=>by unfold z2z;rw [List.length_append,z52 k];rfl
theorem ze9 (x:Nat) (a b:List UInt8):z3s x (a++b)=(z3s x a).bind λy=>z3s y b:=by
 induction a generalizing x with
 | nil=>rfl
 | cons c r ih =>
  rw [List.cons_append]
  cases hd:z64 c with
  | none=>simp only [z3s,hd];rfl
  | some d=>simp only [z3s,hd];exact ih _
theorem zah:∀ (k n x:Nat),z3s x (z2z k n)=some (x*16 ^ k+n % 16 ^ k)
 | 0,n,x=>by simp [z2z,z3s,Nat.mod_one]
 | k+1,n,x=>by
  unfold z2z
  rw [ze9,zah k]
  show z3s _ [z5i (n % 16)]=_
  unfold z3s
  rw [zzw (Nat.mod_lt _ (by omega))]
  show some _=some _
  congr 1
  have h1:n % 16 ^ (k+1)=16*(n / 16 % 16 ^ k)+n % 16:=by
   rw [Nat.pow_succ,Nat.mul_comm (16 ^ k) 16,Nat.mod_mul];omega
  have h2:x*16 ^ (k+1)=16*(x*16 ^ k):=by rw [Nat.pow_succ];ac_rfl
  omega
theorem zvk {α:Type} {p:List α->Prop} (h0:p []) (h1:∀ l x,p l->p (l++[x])) (l:List α):p l:=by
 have:∀ (n:Nat) (l:List α),l.length=n->p l:=by
  intro n
  induction n with
  | zero=>intro l h;rw [List.length_eq_zero_iff.1 h];exact h0
  | succ n ih =>
   intro l h
   have hne:l≠[]:=by rintro rfl;cases h
   rw [<- List.dropLast_concat_getLast hne]
   exact h1 _ _ (ih _ (by rw [List.length_dropLast,h];rfl))
 exact this _ l rfl
def zo:List UInt8:=[46,108,111,103]
def z0a:List UInt8:=[46,110,101,119]
def ze (pre:ByteArray) (base:Int) (x:List UInt8):ByteArray:=⟨(bl pre++(45::(z2z 11 base.toNat++x))).toArray⟩
def z1d (pre n:ByteArray) (x:List UInt8):Option Nat :=
 if (bl n).length=(bl pre).length+1+11+x.length/\(bl n).drop ((bl pre).length+1+11)=x then z3s 0 (((bl n).drop ((bl pre).length+1)).take 11) else none
def z13 (pre:ByteArray):ByteArray:=⟨(bl pre++[45]).toArray⟩
def zk2 (pre n:ByteArray) (x:List UInt8):Option Nat:=if (bl (z13 pre)).isPrefixOf (bl n) then z1d pre n x else none
theorem z50 (pre:ByteArray) (base:Int) (x:List UInt8):bl (ze pre base x)=bl pre++(45::(z2z 11 base.toNat++x)):=zg1 _
theorem zh5 (pre:ByteArray):bl (z13 pre)=bl pre++[45]:=zg1 _
theorem z1u (pre:ByteArray) (base:Int) (x:List UInt8):(bl (z13 pre)).isPrefixOf (bl (ze pre base x))=true:=by
 rw [z50,zh5,List.isPrefixOf_iff_prefix]
 exact ⟨z2z 11 base.toNat++x,by simp⟩
theorem z5n (pre:ByteArray) {base:Int} (h:0<=base/\base<17592186044416) (x:List UInt8):z1d pre (ze pre base x) x=some base.toNat:=by
 have hl:=z52 11 base.toNat
 have e1:(bl (ze pre base x)).drop ((bl pre).length+1)=z2z 11 base.toNat++x:=by
  rw [z50,<- List.drop_drop,List.drop_left]
  rfl
 have e2:(bl (ze pre base x)).drop ((bl pre).length+1+11)=x:=by
  rw [<- List.drop_drop,e1]
  exact List.drop_left' hl
 unfold z1d
 rw [e1,e2,if_pos ⟨by rw [z50];simp [hl];omega,rfl⟩,List.take_left' hl,zah,Nat.zero_mul,Nat.zero_add,Nat.mod_eq_of_lt (by omega)]
theorem z9s {pre n:ByteArray} {x y:List UInt8} {v:Nat} (h:z1d pre n x=some v) (hxy:x≠y):z1d pre n y=none:=by
 unfold z1d at h ⊢
 split at h
 ·rename_i h1
  rw [if_neg]
  rintro ⟨h2,h3⟩
  exact hxy (h1.2.symm.trans h3)
 ·cases h
theorem zb0 (pre:ByteArray) {base:Int} (h:0<=base/\base<17592186044416) (x:List UInt8):zk2 pre (ze pre base x) x=some base.toNat:=by
 unfold zk2
 rw [if_pos (z1u _ _ _),z5n pre h]
theorem zvh {pre n:ByteArray} {x y:List UInt8} {v:Nat} (h:zk2 pre n x=some v) (hxy:x≠y):zk2 pre n y=none:=by
 unfold zk2 at h ⊢
 split at h
 ·rename_i hp;rw [if_pos hp];exact z9s h hxy
 ·cases h
theorem zhn {pre:ByteArray} {a b:Int} {x y:List UInt8} (ha:0<=a/\a<17592186044416) (hb:0<=b/\b<17592186044416) (h:ze pre a x=ze pre b y):a=b/\x=y:=by
 have h1:=zb0 pre ha x
 rw [h] at h1
 by_cases hxy:x=y
 ·subst hxy
  rw [zb0 pre hb] at h1
  simp only [Option.some.injEq] at h1
  exact ⟨by omega,rfl⟩
 ·rw [zvh (zb0 pre hb y) (λe=>hxy e.symm)] at h1
  cases h1
def z42 (pre:ByteArray):Bool:=decide (1<=pre.size/\pre.size<=8) && (bl pre).all λc=>(97<=c.toNat && c.toNat<=122) || (48<=c.toNat && c.toNat<=57)
theorem zyx {n:Nat} (h:n<16):okC (z5i n)=true:=by
 unfold z5i okC
 split <;> rw [UInt8.toNat_ofNat'] <;> simp <;> omega
theorem zn4:∀ (k n:Nat),(z2z k n).all okC=true
 | 0,_=>rfl
 | k+1,n=>by
  unfold z2z
  rw [List.all_append,zn4 k]
  simp [zyx (Nat.mod_lt n (by omega:(16:Nat)>0))]
theorem zde {pre:ByteArray} (h:z42 pre=true) (base:Int) {x:List UInt8} (hx:x.length=4) (hxo:x.all okC=true):z2t (ze pre base x)=true:=by
 unfold z42 at h
 rw [Bool.and_eq_true,decide_eq_true_eq] at h
 have hall:(bl pre).all okC=true:=by
  rw [List.all_eq_true] at h ⊢
  intro c hc
  have:=h.2 c hc
  unfold okC
  rw [this]
  rfl
 have hsz:(ze pre base x).size=pre.size+16:=by
  rw [<- z0z,z50,<- z0z]
  simp [z52,hx]
 unfold z2t
 rw [hsz,show (ze pre base x).data.toList=_ from z50 pre base x]
 simp [List.all_append,hall,zn4,hxo]
 exact ⟨by decide,by omega⟩
theorem zv9 {p q n:ByteArray} (hp:z42 p=true) (hq:z42 q=true) (h1:(bl (z13 p)).isPrefixOf (bl n)=true) (h2:(bl (z13 q)).isPrefixOf (bl n)=true):p=q:=by
 have key:∀ (a b:List UInt8),(∀ c ∈ a,c≠45)->(∀ c ∈ b,c≠45)->∀ s t:List UInt8,a++45::s=b++45::t->a=b:=by
  intro a
  induction a with
  | nil =>
   intro b _ hb s t h
   cases b with
   | nil=>rfl
   | cons c cs=>simp at h;exact absurd h.1.symm (hb c (List.mem_cons_self ..))
  | cons c cs ih =>
   intro b ha hb s t h
   cases b with
   | nil=>simp at h;exact absurd h.1 (ha c (List.mem_cons_self ..))
   | cons d ds =>
    simp at h
    rw [h.1,ih ds (λx hx=>ha x (List.mem_cons_of_mem _ hx)) (λx hx=>hb x (List.mem_cons_of_mem _ hx)) s t h.2]
 have no:∀ {p:ByteArray},z42 p=true->∀ c ∈ bl p,c≠45:=λ{p} hp c hc e=>by
  unfold z42 at hp
  rw [Bool.and_eq_true,List.all_eq_true] at hp
  have:=hp.2 c hc
  subst e
  revert this
  decide
 rw [List.isPrefixOf_iff_prefix,zh5] at h1 h2
 obtain ⟨s,hs⟩:=h1
 obtain ⟨t,ht⟩:=h2
 refine zck (key _ _ (no hp) (no hq) s t ?_)
 rw [<- ht] at hs
 simpa using hs
theorem z97:∀ (a x y:List UInt8),Op.bytesLess (a++x) (a++y)=Op.bytesLess x y
 | [],x,y=>rfl
 | c::a,x,y=>by
  rw [List.cons_append,List.cons_append,Op.bytesLess,z97 a]
  simp
theorem z9v:∀ (a b x y:List UInt8),a.length=b.length->(Op.bytesLess (a++x) (b++y)=true↔Op.bytesLess a b=true\/(a=b/\Op.bytesLess x y=true))
 | [],[],x,y,_=>by simp [Op.bytesLess]
 | c::a,d::b,x,y,h=>by
  rw [List.cons_append,List.cons_append,Op.bytesLess,Op.bytesLess]
  have ih:=z9v a b x y (by simpa using h)
  simp only [Bool.or_eq_true,decide_eq_true_eq,Bool.and_eq_true,beq_iff_eq,List.cons.injEq]
  rw [ih]
  constructor
  ·rintro (h|⟨h,h2|⟨h2,h3⟩⟩)
   ·exact .inl (.inl h)
   ·exact .inl (.inr ⟨h,h2⟩)
   ·exact .inr ⟨⟨h,h2⟩,h3⟩
  ·rintro ((h|⟨h,h2⟩)|⟨⟨h,h2⟩,h3⟩)
   ·exact .inl h
   ·exact .inr ⟨h,.inl h2⟩
   ·exact .inr ⟨h,.inr ⟨h2,h3⟩⟩
theorem zxx {a b:Nat} (ha:a<16) (hb:b<16):(z5i a<z5i b)↔a<b:=by
 rw [UInt8.lt_iff_toNat_lt]
 unfold z5i
 split <;> split <;> rw [UInt8.toNat_ofNat',UInt8.toNat_ofNat'] <;> omega
theorem zbr:∀ (k a b:Nat),a<16 ^ k->b<16 ^ k->(Op.bytesLess (z2z k a) (z2z k b)=true↔a<b)
 | 0,a,b,ha,hb=>by simp at ha hb;subst ha hb;simp [z2z,Op.bytesLess]
 | k+1,a,b,ha,hb=>by
  have h1:a / 16<16 ^ k:=by rw [Nat.pow_succ] at ha;omega
  have h2:b / 16<16 ^ k:=by rw [Nat.pow_succ] at hb;omega
  unfold z2z
  rw [z9v _ _ _ _ (by rw [z52,z52]),zbr k _ _ h1 h2]
  have h3:Op.bytesLess [z5i (a % 16)] [z5i (b % 16)]=true↔a % 16<b % 16:=by
   simp only [Op.bytesLess,Bool.or_eq_true,decide_eq_true_eq,Bool.and_eq_true,Bool.false_eq_true,and_false,or_false]
   exact zxx (Nat.mod_lt _ (by omega)) (Nat.mod_lt _ (by omega))
  rw [h3]
  have h4:z2z k (a / 16)=z2z k (b / 16)->a / 16=b / 16:=λh=>by
   have e1:=zah k (a / 16) 0
   rw [h,zah] at e1
   simp only [Option.some.injEq] at e1
   rw [Nat.mod_eq_of_lt h1,Nat.mod_eq_of_lt h2] at e1
   omega
  constructor
  ·rintro (h|⟨h,h5⟩)
   ·omega
   ·have:=h4 h;omega
  ·intro h
   by_cases h5:a / 16=b / 16
   ·right;exact ⟨by rw [h5],by omega⟩
   ·left;omega
theorem zsf (pre:ByteArray) {a b:Int} (ha:0<=a/\a<17592186044416) (hb:0<=b/\b<17592186044416) (x:List UInt8):ltS (ze pre a x) (ze pre b x)=true↔a<b:=by
 have e:∀ s:ByteArray,ByteArray.toList s=bl s:=λs=>by rw [ByteArray.toList_eq]
 unfold ltS
 rw [e,e,z50,z50,z97]
 have e2:∀ y z:List UInt8,Op.bytesLess (45::y) (45::z)=Op.bytesLess y z:=z97 [45]
 rw [e2,z9v _ _ _ _ (by rw [z52,z52]),zbr 11 _ _ (by omega) (by omega),z9y]
 constructor
 ·rintro (h|⟨-,h⟩)
  ·omega
  ·cases h
 ·intro h;left;omega
end Go.Dec
namespace Go.Proofs.YtfnldnodhfkojaaGreat
open Go.RowKit Go.Maps Go.Sort Go.Proofs
set_option maxRecDepth 100000 in
set_option maxHeartbeats 1000000 in
theorem zui {H:Type} (F:Fence) (n:Nat) (h10:F.fn 143) (hro:F.round=none) (hn:1<=n) (l Bm b nn:Nat) (D0:DataW H) {R:Value->Option (DataW H × List MemPlace)} (J Jx:List (List UInt8)->World->Prop)
  (hY:∀ pre x W,J pre W->pre.length<Maps.size D0->YieldAt F (n-1) Tryz.prog l #[encStr x] W λe W'=>(e=.returned (.bool true)/\J (pre++[x]) W'/\KeepsWalks W W')\/(e=.returned (.bool false)/\Jx (pre++[x]) W'))
  (W:World) (hJ:AbidesFrom W.heap.size J) (hm:W.cell? ⟨Bm,0,none⟩=some (.map (some b))) (hown:W.ownsMap Tryz.prog 9 R b nn D0) (h0:J [] W) :
  CallsIn F n Tryz.prog 143 #[.func (.yield l) #[] #[],.pointer (some ⟨Bm,0,none⟩)] W λe W'=>(∃ v,e=.returned v)/\((∃ ss:List (List UInt8),ss.Perm (strKeys D0)/\J ss W')\/(∃ pre,True/\Jx pre W')):=by
 refine callsIn_of_wp Tryz.func143 rfl h10 ?_ hro
 simp only [Tryz.ntmps143,List.size_toArray,List.length_cons,List.length_nil,Nat.reduceAdd,Nat.reduceSub,Array.replicate_succ,Array.replicate_zero,List.push_toArray,List.append_toArray,List.nil_append,List.cons_append]
 gi_wp2_with (first
  | (gi_at_range;refine wpListIn_range_own _ rfl _ 110 rfl 9 157 (string_keyed Tryz.underlying9) Tryz.underlying110 _ b nn _ rfl hown ?_;intro w0 hrg0 hg0 hs0)
  | gi_in)
 go_frame
 gi_loopw [3] (λ_ wr=>∃ (left:Lit->Bool) (cnt:Nat) (ss:List (List UInt8)),wr.ranges Tryz.prog 9 R b W.heap.size nn D0 left cnt/\ss.length+cnt<=Maps.size D0/\Collected D0 left ss/\J ss wr)
  (λ_ wr=>wr.rangeLeft b W.heap.size)
 case atStart =>
  exact ⟨_,_,[],hrg0,by simp,Collected.start D0,hJ [] W w0 none h0 hg0 (λr e=>by cases e)⟩
 case round =>
  obtain ⟨left,cnt,ss,hrg,hcs,hC,hJs⟩:=hrel
  gi_wp2_with (first
   | (gi_at_next;refine wpListIn_next_ranges _ rfl _ rfl 9 (string_keyed Tryz.underlying9) R encStr id (λkey kl hk=>by obtain ⟨x,hx,_⟩:=Maps.keyOf_str Tryz.underlying9 hk;exact ⟨x,hx⟩) (λv _ _=>⟨v,rfl⟩) b W.heap.size nn _ _ _ rfl hrg ?_ ?_)
   | gi_in)
  ·intro hc0 hl0
   gi_wp2
   go_end0
   exact ⟨⟨_,rfl⟩,.inl ⟨ss,hC.perm hown (string_keyed Tryz.underlying9) Tryz.underlying9 hl0,hJs⟩⟩
  ·intro x c kl yd yp w2 cnt2 hkey hlk hv hat hrg2 hlt hg2 hs2 hen
   obtain ⟨x',ex,rfl,_⟩:=Maps.keyOf_str Tryz.underlying9 hkey
   obtain rfl:x=x':=encStr_inj ex
   have hJ2:J ss w2:=hJ ss wr w2 (some W.heap.size) hJs hg2 (λr e=>by cases e;exact ⟨Nat.le_refl _,hrg.iter_walk⟩)
   obtain ⟨fn,tmps,assign,body,hy,hR⟩:=hY ss x w2 hJ2 (by omega)
   clear hs2
   gi_wp2
   refine hR.mono ?_
   rintro e W3 (⟨rfl,hJ3,hk3⟩|⟨rfl,hJx3⟩)
   ·gi_wp2
    have hrg3:=hrg2.of_walks hk3
    go_roundw
    case rel=>exact ⟨_,cnt2,ss++[x],hrg3,by simp;omega,hC.step hlk hat,hJ3⟩
    case measure=>rw [hrg3.left_eq,hrg.left_eq];exact hlt
   ·gi_wp2
    refine bodyPost_ret (results_none rfl _ _ _) rfl ?_
    exact ⟨⟨_,rfl⟩,.inr ⟨ss++[x],trivial,hJx3⟩⟩
theorem zy0 (mb:Option Nat) (w:World) :
  Calls Tryz.prog 97 #[.map mb] w λe w'=>e=.returned (.func (.func 143) #[] #[.pointer (some ⟨w.heap.size,0,none⟩)])/\w'=w.alloc (.cells #[.map mb] 110):=by
 refine Calls.mono (Dec.zf38_calls mb (w:=w) (R:=λvs w'=>vs=[.func (.func 143) #[] #[.pointer (some ⟨w.heap.size,0,none⟩)]]/\w'=w.alloc (.cells #[.map mb] 110)) ?_) λe w' ⟨vs,he,hv,hw⟩=>⟨by rw [he,hv];rfl,hw⟩
 unfold Dec.zf38
 refine ⟨(⟨w.heap.size,0,none⟩,()),w.alloc (.cells #[.map mb] 110),?_,trivial,?_⟩
 ·simp only [Instr.box,Sem.run_bind,Dec.run_newVar,Result.andThen_ok,Sem.run_pure];rfl
 ·exact ⟨rfl,rfl,rfl⟩
def preF (p s:ByteArray):Bool:=p.toList.isPrefixOf s.toList
theorem z01j (s p:ByteArray):(decide (((ByteArray.size s:Nat):Int)>=((ByteArray.size p:Nat):Int)) && ByteArray.toList (ByteArray.extract s 0 (Int.toNat (((ByteArray.size p:Nat):Int)))) == ByteArray.toList p)=preF p s:=by
 unfold preF
 rw [Int.toNat_natCast,ByteArray.toList_eq,ByteArray.toList_eq,ByteArray.toList_eq]
 have e1:(ByteArray.extract s 0 p.size).data.toList=s.data.toList.take p.size:=by simp [ByteArray.data_extract]
 have e2:p.size=p.data.toList.length:=by simp
 rw [e1,Bool.eq_iff_iff,Bool.and_eq_true,decide_eq_true_eq,beq_iff_eq,List.isPrefixOf_iff_prefix]
 constructor
 ·rintro ⟨-,h⟩
  rw [<- h];exact List.take_prefix _ _
 ·intro h
  have hl:=h.length_le
  refine ⟨?_,?_⟩
  ·have:s.size=s.data.toList.length:=by simp
   omega
  ·rw [e2];exact (List.prefix_iff_eq_take.1 h).symm
theorem zv3 (s p:ByteArray) (w:World):Calls Tryz.prog 98 #[.string s,.string p] w λe w'=>e=.returned (.bool (preF p s))/\w'=w:=by
 refine Calls.mono (Dec.zf110_calls s p (w:=w) (R:=λvs w'=>vs=[.bool (preF p s)]/\w'=w) ?_) λe w' ⟨vs,he,hv,hw⟩=>⟨by rw [he,hv];rfl,hw⟩
 unfold Dec.zf110
 refine Dec.wp_callS (preF p s,()) (Dec.zf34_calls s p (R:=λvs w'=>vs=[.bool (preF p s)]/\w'=w) ?_) rfl λw' hw=>⟨trivial,?_⟩
 ·unfold Dec.zf34
  refine Dec.wp_must (λh=>?_) (Dec.wp_lt ⟨rfl,by rw [z01j],rfl⟩)
  have h:=of_decide_eq_true h
  omega
 ·exact Dec.wp_lt ⟨rfl,rfl,hw⟩
end Go.Proofs.YtfnldnodhfkojaaGreat
namespace Go.Proofs.YtfnldnodhfkojaaGreat
open Go.RowKit Go.Maps Go.Sort Go.Proofs Go.Shelf
attribute [local go_sem] Oper.semAt_some
def z56 (p:ByteArray) (ss:List (List UInt8)):List (List UInt8):=ss.filter λx=>preF p ⟨x.toArray⟩
theorem zzd (p:ByteArray) (pre:List (List UInt8)) {x:List UInt8} (h:preF p ⟨x.toArray⟩=true):z56 p (pre++[x])=z56 p pre++[x]:=by simp [z56,h]
theorem zut (p:ByteArray) (pre:List (List UInt8)) {x:List UInt8} (h:¬ preF p ⟨x.toArray⟩=true):z56 p (pre++[x])=z56 p pre:=by simp [z56,h]
theorem z03a:(Tryz.prog.info? 9).map (λi=>(i.zero,i.size,i.bytes))=some (some (.string ByteArray.empty),1,16):=by kernel_rfl
set_option maxRecDepth 100000 in
set_option maxHeartbeats 2000000 in
theorem zuu      {H : Type} (n : Nat) (hn : 3 ≤ n) (d b nn : Nat) (p : ByteArray) (w : World) (D0 : DataW H) {R : Value → Option (DataW H × List MemPlace)} (hown : w.ownsMap Tryz.prog 9 R b nn D0) (hd : d < w.heap.size)
    (hc : w.cell? ⟨d, 4, none⟩ = some (.map (some b))) (hmax : Maps.size D0 ≤ 1000) (fin : Value → World → Prop)
    (hsort : ∀ (D : Nat) (ss : List (List UInt8)) (v : Value) (W : World), w.heap.size + 2 ≤ D → ss.Perm (strKeys D0) → Boxed W (w.heap.size + 1) 68 v → W.ownsRow (w.heap.size + 1) 9 1 v (z56  p ss).length ((z56  p ss).map encStr) → Below w.heap.size w W →
      W.heap[D]? = some (.deferred (some [])) → CallsIn Fence.wide (n - 1) Tryz.prog 99 #[v] W fun e W' => e = .returned (.tuple #[]) ∧ W'.cell? ⟨w.heap.size + 1, 0, none⟩ = some v ∧ W'.heap[D]? = some (.deferred (some [])) ∧ fin v (W'.putObj D (.deferred none))) :
    CallsIn Fence.wide n Tryz.prog 33 #[.pointer (some ⟨d, 0, none⟩), .string p] w fun e W' => ∃ v, e = .returned v ∧ fin v W' := by
  have h1 : 1 ≤ n := by omega
  obtain ⟨i0, hi, hz0, hz1, hz2⟩ := info_parts z03a 
  have hbl := hown.lt
  have hc2 : ((w.alloc (.cells #[.string p] 9)).alloc (.cells #[.slice none 0 0] 68)).cell? ⟨d, 4, none⟩ = some (.map (some b)) := by
    rw [World.cell?_alloc_past _ _ _ (by simp; omega), World.cell?_alloc_past _ _ _ hd]; exact hc
  refine callsIn_of_wp_marks Tryz.func33 rfl trivial ?_ rfl
  simp only [Tryz.ntmps33, List.size_toArray, List.length_cons, List.length_nil, Nat.reduceAdd, Nat.reduceSub, Array.replicate_succ, Array.replicate_zero, List.push_toArray, List.append_toArray, List.nil_append, List.cons_append]
  gi_wp2_with (refine ⟨trivial, ?_⟩; gi_at_call 97; refine (callsIn_wide.2 (zy0     _ _)).mono ?_; rintro e w' ⟨rfl, rfl⟩)
  have bP := Boxed.new w 9 (.string p)
  have bO := Boxed.new (w.alloc (.cells #[.string p] 9)) 68 (.slice none 0 0)
  have bM := Boxed.new ((w.alloc (.cells #[.string p] 9)).alloc (.cells #[.slice none 0 0] 68)) 110 (.map (some b))
  rw [World.size_alloc] at bO bM
  rw [World.size_alloc] at bM
  have hB0 : Below w.heap.size w (((w.alloc (.cells #[.string p] 9)).alloc (.cells #[.slice none 0 0] 68)).alloc (.cells #[.map (some b)] 110)) := (((Below.refl _ w).alloc (Nat.le_refl _) _).alloc (by simp) _).alloc (by simp; omega) _
  have hown0 : (((w.alloc (.cells #[.string p] 9)).alloc (.cells #[.slice none 0 0] 68)).alloc (.cells #[.map (some b)] 110)).ownsMap Tryz.prog 9 R b nn D0 := by
    obtain ⟨es, clock, hb, Ft, hs, hD⟩ := hown
    exact ⟨es, clock, (hB0.block b hbl).trans hb, Ft, hs, hD⟩
  have hseq : SeqStops Fence.wide (n - 1) Tryz.prog 143 #[.pointer (some ⟨w.heap.size + 1 + 1, 0, none⟩)] encStr (fun ss => ss.Perm (strKeys D0)) (fun _ => True) (Maps.size D0) (((w.alloc (.cells #[.string p] 9)).alloc (.cells #[.slice none 0 0] 68)).alloc (.cells #[.map (some b)] 110)) := fun l J Jx W hW hJ hJx hY h0 => by
    have hown' : W.ownsMap Tryz.prog 9 R b nn D0 := by
      obtain ⟨es, clock, hb, Ft, hs, hD⟩ := hown0
      exact ⟨es, clock, (hW.block b (by simp; omega)).trans hb, Ft, hs, hD⟩
    exact zui      Fence.wide (n - 1) trivial rfl (by omega) l (w.heap.size + 1 + 1) b nn D0 J Jx hY W hJ ((hW.cell (p := ⟨w.heap.size + 1 + 1, 0, none⟩) (by simp)).trans bM.cell) hown' h0
  refine wpIn_rangeFunc_ownG rfl h1 (gf := 143) (lb := #[.pointer (some ⟨w.heap.size + 1 + 1, 0, none⟩)]) rfl trivial (enters_of Tryz.func143 (by kernel_rfl) rfl)
    (encs := fun x => #[encStr x]) (Kp := KeepsWalks) (S := fun ss => ss.Perm (strKeys D0)) (Sp := fun _ => True) (N := Maps.size D0) hseq walksK_t (fun W l o o' _ h _ hw => KeepsWalks.putObj _ h hw) (Below.refl _ _) (fun _ => rfl)
    (fun pre W => ((∃ v, Boxed W (w.heap.size + 1) 68 v ∧ W.ownsRow (w.heap.size + 1) 9 1 v (z56  p pre).length ((z56  p pre).map encStr) ∧ True) ∧ Boxed W w.heap.size 9 (.string p)) ∧ Below w.heap.size w W)
    (fun _ _ _ => False)
    (OwnFrom.and (OwnFrom.and (Own.from (holdsRow_own (w.heap.size + 1) (w.heap.size + 1) 68 9 1 (fun pre => (z56  p pre).length) (fun pre => (z56  p pre).map encStr) (fun _ _ => True)) _) (Own.from (boxed_own w.heap.size 9 (fun _ => .string p)) _)) (ownFrom_below (Nat.le_refl _) (by simp; omega)))
    (fun _ _ _ _ _ hs _ _ => hs)
    ⟨⟨⟨_, bO.alloc _, World.ownsRow_nil _ _ _ _, trivial⟩, (bP.alloc _).alloc _⟩, hB0⟩
    (fun x => { tmps := #[Value.pointer (some { block := d, off := 0 }), Value.string p, undef,
                Value.pointer (some { block := w.heap.size, off := 0 }), Value.slice none 0 0,
                Value.pointer (some { block := w.heap.size + 1, off := 0 }), encStr x,
                Value.pointer (some { block := d, off := 0 }), Value.bool false,
                Value.pointer (some { block := d, off := 0 }), Value.pointer (some { block := d, off := 0 }),
                Value.pointer (some { block := d, off := 4 }), Value.map (some b), .func (.func 143) #[] #[.pointer (some ⟨w.heap.size + 1 + 1, 0, none⟩)], encStr x, undef, undef, undef, undef, undef,
                undef, undef, undef, undef, undef], defers := [] }) ?assign ?body ?done ?stop
  case assign =>
    intro l x W K hK
    gi_wp2
    exact hK
  case body =>
    rintro l pre x W ⟨⟨⟨v, hv, hrow, -⟩, hbp⟩, hB⟩ hlt
    have hcv := hv.cell
    have hcp := hbp.cell
    have hpl : (z56  p pre).length ≤ pre.length := List.length_filter_le _ _
    have hml : 1000 ≤ maxLen := by decide
    have hvl := hv.lt
    gi_wp2_with (first
      | (refine ⟨trivial, fun _ => by omega, ?_⟩; gi_at_call 98; refine (CallsIn.inRound l (callsIn_wide.2 (zv3      ⟨x.toArray⟩ p W))).mono ?_; rintro e w' ⟨rfl, he⟩; have he := he.symm; subst he)
      | (gi_at_builtin; refine wpListIn_append_own _ rfl _ _ 68 rfl (w.heap.size + 1) 9 i0 (.string ByteArray.empty) 1 16 Tryz.underlying68 hi hz0 hz1 hz2 rfl (by decide) _ _ _ rfl (hrow.alloc _) ⟨W.heap.size, 0, none⟩ 1 1 [encStr x] rfl rfl (cell_one_new _ _ _) (by simp [Value.oneCell', encStr]) (by omega) (by omega) (by simp; omega) ?_; intro v' w1 hown' hgrow _; obtain ⟨g', cap', rfl⟩ := ownsRow_succ hown'; obtain ⟨hv1, hv2, hr2, hk2, hb2⟩ := hv.appended (by decide) hrow (by omega) (by omega) hown' hgrow; have hc1 := hv1.cell; have hf1 := hv1.frozen))
    · have hx : preF p ⟨x.toArray⟩ = true := by assumption
      exact ⟨hk2.from _, hk2.walks, ⟨⟨⟨_, hv2, by rw [zzd     p pre hx]; simpa using hr2, trivial⟩, (hb2.block w.heap.size (by omega)).trans hbp⟩, hB.trans (hb2.mono (by omega))⟩⟩
    · have hx : ¬ preF p ⟨x.toArray⟩ = true := by rename_i hx; rw [hx]; simp
      exact ⟨KeepsFrom.refl _ _, (KeepsOthers.refl _).walks, ⟨⟨⟨v, hv, by rw [zut      p pre hx]; exact hrow, trivial⟩, hbp⟩, hB⟩⟩
  case done =>
    rintro D ys W hD hS ⟨⟨⟨v, hv, hrow, -⟩, hbp⟩, hB⟩ hK
    have hcv := hv.cell
    have hvl := hv.lt
    have hD2 : w.heap.size + 2 ≤ D := by simp at hD; omega
    gi_wp2_with (refine ⟨trivial, ?_⟩; gi_at_call 99; refine (hsort D ys v W hD2 hS hv hrow hB hK).mono ?_; rintro e w' ⟨rfl, hc1, hK1, hfin⟩)
    refine ⟨by simp, .inl ⟨_, _, rfl, run_takeDeferred hK1, ?_⟩⟩
    exact ⟨_, results_tmp rfl _ _ _, v, rfl, hfin⟩
  case stop =>
    rintro D c pre W _ _ h _
    exact h.elim
end Go.Proofs.YtfnldnodhfkojaaGreat
namespace Go.Dec
open Go.Shelf Go.Proofs
def z03k:Ren:=⟨fun|190=>99|125=>146|258=>145|128=>186|129=>187|302=>177|303=>178|304=>179|305=>180|306=>181|307=>182|308=>183|309=>184|310=>185|333=>198|329=>199|330=>200|334=>201|335=>202|336=>203|344=>205|n=>n,fun|31=>68|9=>9|3=>3|46=>187|0=>0|51=>201|53=>173|4=>4|183=>234|182=>233|131=>238|5=>5|218=>251|222=>254|228=>257|229=>258|n=>n,λn=>n⟩
theorem zwk:Lays.n190 P z03k where
 mixed:=by kernel_rfl
 f125:=Tryz.func146.trans (congrArg some (by kernel_rfl))
 f128:=Tryz.func186.trans (congrArg some (by kernel_rfl))
 f129:=Tryz.func187.trans (congrArg some (by kernel_rfl))
 f190:=Tryz.func99.trans (congrArg some (by kernel_rfl))
 f258:=Tryz.func145.trans (congrArg some (by kernel_rfl))
 f302:=Tryz.func177.trans (congrArg some (by kernel_rfl))
 f303:=Tryz.func178.trans (congrArg some (by kernel_rfl))
 f304:=Tryz.func179.trans (congrArg some (by kernel_rfl))
 f305:=Tryz.func180.trans (congrArg some (by kernel_rfl))
 f306:=Tryz.func181.trans (congrArg some (by kernel_rfl))
 f307:=Tryz.func182.trans (congrArg some (by kernel_rfl))
 f308:=Tryz.func183.trans (congrArg some (by kernel_rfl))
 f309:=Tryz.func184.trans (congrArg some (by kernel_rfl))
 f310:=Tryz.func185.trans (congrArg some (by kernel_rfl))
 f329:=Tryz.func199.trans (congrArg some (by kernel_rfl))
 f330:=Tryz.func200.trans (congrArg some (by kernel_rfl))
 f333:=Tryz.func198.trans (congrArg some (by kernel_rfl))
 f334:=Tryz.func201.trans (congrArg some (by kernel_rfl))
 f335:=Tryz.func202.trans (congrArg some (by kernel_rfl))
 f336:=Tryz.func203.trans (congrArg some (by kernel_rfl))
 f344:=Tryz.func205.trans (congrArg some (by kernel_rfl))
 t0:=Tryz.underlying0
 a0:=Tryz.isAgg0
 z0:=Tryz.sizeOf0
 v0:=Tryz.zeroValue0
 t3:=Tryz.underlying3
 a3:=Tryz.isAgg3
 z3:=Tryz.sizeOf3
 v3:=Tryz.zeroValue3
 t4:=Tryz.underlying4
 a4:=Tryz.isAgg4
 z4:=Tryz.sizeOf4
 v4:=Tryz.zeroValue4
 t5:=Tryz.underlying5
 a5:=Tryz.isAgg5
 z5:=Tryz.sizeOf5
 v5:=Tryz.zeroValue5
 t9:=Tryz.underlying9
 a9:=Tryz.isAgg9
 z9:=Tryz.sizeOf9
 v9:=Tryz.zeroValue9
 t31:=Tryz.underlying68
 a31:=Tryz.isAgg68
 z31:=Tryz.sizeOf68
 v31:=Tryz.zeroValue68
 t46:=Tryz.underlying187
 a46:=Tryz.isAgg187
 z46:=Tryz.sizeOf187
 v46:=Tryz.zeroValue187
 t51:=Tryz.underlying201
 a51:=Tryz.isAgg201
 z51:=Tryz.sizeOf201
 v51:=Tryz.zeroValue201
 t53:=Tryz.underlying173
 a53:=Tryz.isAgg173
 z53:=Tryz.sizeOf173
 v53:=Tryz.zeroValue173
 t131:=Tryz.underlying238
 a131:=Tryz.isAgg238
 z131:=Tryz.sizeOf238
 v131:=Tryz.zeroValue238
 t182:=Tryz.underlying233
 a182:=Tryz.isAgg233
 z182:=Tryz.sizeOf233
 v182:=Tryz.zeroValue233
 t183:=Tryz.underlying234
 a183:=Tryz.isAgg234
 z183:=Tryz.sizeOf234
 v183:=Tryz.zeroValue234
 t218:=Tryz.underlying251
 a218:=Tryz.isAgg251
 z218:=Tryz.sizeOf251
 v218:=Tryz.zeroValue251
 t222:=Tryz.underlying254
 a222:=Tryz.isAgg254
 z222:=Tryz.sizeOf254
 v222:=Tryz.zeroValue254
 t228:=Tryz.underlying257
 a228:=Tryz.isAgg257
 z228:=Tryz.sizeOf257
 v228:=Tryz.zeroValue257
 t229:=Tryz.underlying258
 a229:=Tryz.isAgg258
 z229:=Tryz.sizeOf258
 v229:=Tryz.zeroValue258
theorem zmp:∀ x y:List UInt8,Op.bytesLess x y=true↔x<y
 | [],[]=>by simp [Op.bytesLess]
 | [],y::ys=>by simp [Op.bytesLess]
 | x::xs,[]=>by simp [Op.bytesLess]
 | x::xs,y::ys=>by
  rw [Op.bytesLess,List.cons_lt_cons_iff,<- zmp xs ys]
  simp
def toK (s:ByteArray):List UInt8:=s.data.toList
def ofK (x:List UInt8):ByteArray:=⟨x.toArray⟩
theorem z01n (s:ByteArray):ofK (toK s)=s:=by unfold ofK toK;simp
theorem zjd (s:ByteArray):ByteArray.toList s=toK s:=ByteArray.toList_eq s
theorem zz1 (s:ByteArray):encStr (toK s)=.string s:=by unfold encStr toK;simp
section
variable {w:World} {l:List HP}
theorem zvl {w':World} {os:Array Obj} (h:Sat w l) (he:w'.heap=w.heap++os) (h2:w'.os=w.os) (h3:w'.output=w.output):Sat w' l:=by
 refine z9b ⟨λb o hb=>?_,?_⟩ h
 ·have hb:w.heap[b]? = some o:=hb
  show w'.heap[b]? = some o
  rw [he,Array.getElem?_append_left (Array.getElem?_eq_some_iff.1 hb).1]
  exact hb
 ·show World.env' w=World.env' w'
  unfold World.env';rw [h2,h3]
theorem zil (x:Sl) (xs:List ByteArray) (h63:xs.length<4611686018427387904) (hs:Sat w (slc T.a31 1 x (xs.flatMap z22)::l)) :
  Ret P F.a83 #[x.v] w λvs w'=>vs=[]/\∃ ys:List ByteArray,ys.Perm xs/\ys.Pairwise (λa b=>Op.bytesLess (ByteArray.toList b) (ByteArray.toList a)=false)/\Sat w' (slc T.a31 1 x (ys.flatMap z22)::l):=by
 have hl:x.len=xs.length:=hs.rd.len (enc:=z22) (λ_=>rfl) (by decide)
 obtain ⟨xa,xl,xc⟩:=x
 simp only at hl
 subst hl
 by_cases h0:xs.length=0
 ·have e:xs=[]:=List.length_eq_zero_iff.1 h0
  subst e
  refine Calls.mono (Any.slices_Sort_string_none zwk xa xc w) λe w' h=>?_
  obtain ⟨he,hw⟩:=h
  subst hw
  exact ⟨[],he,rfl,[],.refl _,.nil,hs⟩
 have hnd:=hs
 obtain ⟨p1,p2,h1,h2,hd,hA,hl⟩:=hnd
 rcases hA with ⟨ha,hl0,hc0,-⟩|⟨b,off,arr,fr,ha,hb,hlen,hle,hsz,hcs,hf⟩
 ·exact absurd hl0 h0
 have ha:xa=some ⟨b,off,none⟩:=ha
 subst ha
 have hle:xs.length<=xc:=hle
 have hsz:off+xc*1<=arr.size:=hsz
 have hP:Sat w (pt b (.cells arr T.a31 fr)::l):=⟨p1,p2,h1,h2,hd,hb,hl⟩
 have z4y:=hP.get
 have hblt:b<w.heap.size:=(Array.getElem?_eq_some_iff.1 z4y).1
 have henc:∀ (zs:List ByteArray) (i:Nat),(zs.flatMap z22)[i]? = (zs[i]?).map λs=>.string s:=λzs i=>by
  have:zs.flatMap z22=zs.map λs=>Value.string s:=by
   induction zs with
   | nil=>rfl
   | cons z zs ih=>rw [List.flatMap_cons,List.map_cons,ih];rfl
  rw [this,List.getElem?_map]
 have hH:Go.Sort.Holds encStr w b off (xs.map toK).toArray:=λj hj=>by
  have hj:j<xs.length:=by simpa using hj
  have h3:=hcs j (by rw [hlen];show j<xs.length*1;omega)
  rw [henc,List.getElem?_eq_getElem hj] at h3
  have h4:((xs.map toK).toArray)[j]! = toK xs[j]:=by
   rw [getElem!_pos _ j (by simpa using hj)];simp
  refine ⟨?_,?_⟩
  ·rw [h4,zz1]
   unfold World.cell?
   rw [z4y]
   exact h3
  ·rw [zcr,z4y]
   have:=hf (off+j) (by omega) (by show off+j<off+xc*1;omega)
   simp only [zo6]
   rw [Bool.and_eq_false_iff]
   by_cases hq:fr.1<=off+j
   ·right;exact decide_eq_false λh=>this ⟨hq,h⟩
   ·left;exact decide_eq_false hq
 have hll:(xs.map toK).length=xs.length:=List.length_map ..
 have hc:=Any.slices_Sort_string zwk b off xc (xs.map toK) w hH hblt (by rw [hll];exact h63)
 rw [hll] at hc
 refine Calls.mono hc λe w' h=>?_
 obtain ⟨he,n,os,hw⟩:=h
 generalize hmq:(xs.map toK).mergeSort (λx y=>decide (x<=y))=ms at hw
 have hperm:ms.Perm (xs.map toK):=by rw [<- hmq];exact List.mergeSort_perm _ _
 have hpw:ms.Pairwise λx y=>decide (x<=y)=true:=by
  rw [<- hmq]
  refine List.pairwise_mergeSort (λa b c h1 h2=>?_) (λa b=>?_) _
  ·simp only [decide_eq_true_eq] at *;exact List.le_trans h1 h2
  ·simp only [Bool.or_eq_true,decide_eq_true_eq];exact List.le_total a b
 have hml:ms.length=xs.length:=by rw [hperm.length_eq,hll]
 have hofK:(xs.map toK).map ofK=xs:=by
  rw [List.map_map]
  conv=>rhs;rw [<- List.map_id xs]
  exact List.map_congr_left λs _=>z01n s
 refine ⟨[],he,rfl,ms.map ofK,?_,?_,?_⟩
 ·have:=hperm.map ofK
  rwa [hofK] at this
 ·rw [List.pairwise_map]
  refine hpw.imp λ{a c} h=>?_
  have h:a<=c:=of_decide_eq_true h
  rw [zjd,zjd]
  have e:∀ z,toK (ofK z)=z:=λz=>by unfold toK ofK;simp
  rw [e,e]
  cases hq:Op.bytesLess c a with
  | false=>rfl
  | true=>exact absurd h (List.not_le.2 ((zmp c a).1 hq))
 ·have hset:=hP.set (o':=.cells (Go.Sort.putCells encStr off ms.toArray arr) T.a31 fr)
  have hheap:w'.heap=(z3b w b (.cells (Go.Sort.putCells encStr off ms.toArray arr) T.a31 fr)).heap++os:=by
   rw [hw]
   show (w.heap.modify b (Go.Sort.onCells _))++os=w.heap.setIfInBounds b _++os
   congr 1
   apply Array.ext_getElem?
   intro i
   rw [Array.getElem?_modify,Array.getElem?_setIfInBounds]
   by_cases hib:b=i
   ·subst hib
    rw [if_pos rfl,if_pos rfl,z4y,if_pos hblt]
    rfl
   ·rw [if_neg hib,if_neg hib]
  have hs2:=zvl hset hheap (by rw [hw];rfl) (by rw [hw];rfl)
  refine hs2.imp λq hq=>.inr ⟨b,off,_,fr,rfl,hq,?_,hle,?_,λi hi=>?_,hf⟩
  ·show ((ms.map ofK).flatMap z22).length=xs.length*1
   have:∀ zs:List ByteArray,(zs.flatMap z22).length=zs.length:=λzs=>by
    induction zs with
    | nil=>rfl
    | cons z zs ih=>rw [List.flatMap_cons,List.length_append,ih];simp [z22];omega
   rw [this,List.length_map,hml];omega
  ·show off+xc*1<=(Go.Sort.putCells encStr off ms.toArray arr).size
   unfold Go.Sort.putCells
   rw [Array.size_mapIdx];exact hsz
  ·have him:i<ms.length:=by
    have:∀ zs:List ByteArray,(zs.flatMap z22).length=zs.length:=λzs=>by
     induction zs with
     | nil=>rfl
     | cons z zs ih=>rw [List.flatMap_cons,List.length_append,ih];simp [z22];omega
    rw [this,List.length_map] at hi;exact hi
   rw [henc,List.getElem?_map,List.getElem?_eq_getElem him]
   unfold Go.Sort.putCells
   rw [Array.getElem?_mapIdx]
   have ha2:off+i<arr.size:=by omega
   rw [Array.getElem?_eq_getElem ha2]
   simp only [Option.map_some]
   rw [if_pos ⟨by omega,by rw [List.size_toArray];omega⟩]
   congr 1
   rw [Nat.add_sub_cancel_left,getElem!_pos _ i (by simpa using him)]
   simp [encStr,ofK]
end
end Go.Dec
