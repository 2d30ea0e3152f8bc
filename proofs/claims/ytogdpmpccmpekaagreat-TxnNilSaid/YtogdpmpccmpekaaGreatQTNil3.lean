/- What the claim of this folder leans on: our own texts, joined, without what it does not use. -/
import Derived.Test.YtogdpmpccmpekaaGreatQTNil2
set_option linter.unusedVariables false
set_option linter.unusedSimpArgs false
namespace Go.Dec
instance:One P T.a14:=⟨by kernel_rfl,by kernel_rfl⟩
instance:One P T.a13:=⟨by kernel_rfl,by kernel_rfl⟩
instance:One P T.a3:=⟨by kernel_rfl,by kernel_rfl⟩
instance:One P T.a63:=⟨by kernel_rfl,by kernel_rfl⟩
instance:One P T.a57:=⟨by kernel_rfl,by kernel_rfl⟩
instance:Agg P T.a54 2:=⟨by kernel_rfl,by kernel_rfl⟩
instance:Agg P T.a38 3:=⟨by kernel_rfl,by kernel_rfl⟩
instance:One P T.a29:=⟨by kernel_rfl,by kernel_rfl⟩
instance:One P T.a1:=⟨by kernel_rfl,by kernel_rfl⟩
instance:One P T.a41:=⟨by kernel_rfl,by kernel_rfl⟩
instance:One P T.a42:=⟨by kernel_rfl,by kernel_rfl⟩
instance:Agg P T.a0 7:=⟨by kernel_rfl,by kernel_rfl⟩
instance:Agg P T.a2 4:=⟨by kernel_rfl,by kernel_rfl⟩
instance:One P T.a33:=⟨by kernel_rfl,by kernel_rfl⟩
instance:Agg P T.a58 3:=⟨by kernel_rfl,by kernel_rfl⟩
instance:One P T.a44:=⟨by kernel_rfl,by kernel_rfl⟩
instance:One P T.a53:=⟨by kernel_rfl,by kernel_rfl⟩
instance:One P T.a48:=⟨by kernel_rfl,by kernel_rfl⟩
instance:Agg P T.a40 5:=⟨by kernel_rfl,by kernel_rfl⟩
instance:Agg P T.a60 4:=⟨by kernel_rfl,by kernel_rfl⟩
instance:Agg P T.a61 9:=⟨by kernel_rfl,by kernel_rfl⟩
instance:One P T.a25:=⟨by kernel_rfl,by kernel_rfl⟩
instance:One P T.a34:=⟨by kernel_rfl,by kernel_rfl⟩
instance:One P T.a27:=⟨by kernel_rfl,by kernel_rfl⟩
instance:One P T.a26:=⟨by kernel_rfl,by kernel_rfl⟩
instance:One P T.a22:=⟨by kernel_rfl,by kernel_rfl⟩
instance:One P T.a23:=⟨by kernel_rfl,by kernel_rfl⟩
instance:Agg P T.a62 11:=⟨by kernel_rfl,by kernel_rfl⟩
instance:Agg P T.a9 2:=⟨by kernel_rfl,by kernel_rfl⟩
instance:One P T.a35:=⟨by kernel_rfl,by kernel_rfl⟩
instance:One P T.a28:=⟨by kernel_rfl,by kernel_rfl⟩
instance:One P T.a32:=⟨by kernel_rfl,by kernel_rfl⟩
instance:One P T.a47:=⟨by kernel_rfl,by kernel_rfl⟩
instance:One P T.a31:=⟨by kernel_rfl,by kernel_rfl⟩
instance:One P T.a36:=⟨by kernel_rfl,by kernel_rfl⟩
instance:Agg P T.a7 2:=⟨by kernel_rfl,by kernel_rfl⟩
instance:Agg P T.a17 2:=⟨by kernel_rfl,by kernel_rfl⟩
instance:Agg P T.a18 4:=⟨by kernel_rfl,by kernel_rfl⟩
instance:One P T.a21:=⟨by kernel_rfl,by kernel_rfl⟩
instance:One P T.a24:=⟨by kernel_rfl,by kernel_rfl⟩
instance:One P T.a20:=⟨by kernel_rfl,by kernel_rfl⟩
instance:Agg P T.a5 7:=⟨by kernel_rfl,by kernel_rfl⟩
instance:Agg P T.a10 3:=⟨by kernel_rfl,by kernel_rfl⟩
instance:Agg P T.a15 4:=⟨by kernel_rfl,by kernel_rfl⟩
instance:Agg P T.a12 3:=⟨by kernel_rfl,by kernel_rfl⟩
instance:One P T.a43:=⟨by kernel_rfl,by kernel_rfl⟩
instance:Zer P T.a63 (.int .u8 0):=⟨by kernel_rfl⟩
instance:Zer P T.a38 (.agg #[.int .i64 0,.int .i64 0,.int .i64 0]):=⟨by kernel_rfl⟩
instance:Zer P T.a41 (.slice none 0 0):=⟨by kernel_rfl⟩
instance:Zer P T.a0 (.agg #[.int .i64 0,.int .i64 0,.int .i64 0,.int .i64 0,.int .i64 0,.int .i64 0,.slice none 0 0]):=⟨by kernel_rfl⟩
instance:Zer P T.a2 (.agg #[.string ⟨#[]⟩,.string ⟨#[]⟩,.bool false,.int .i64 0]):=⟨by kernel_rfl⟩
instance:Zer P T.a40 (.agg #[.int .i64 0,.string ⟨#[]⟩,.string ⟨#[]⟩,.bool false,.int .i64 0]):=⟨by kernel_rfl⟩
instance:Zer P T.a61 (.agg #[.string ⟨#[]⟩,.int .i64 0,.int .i64 0,.int .i64 0,.int .i64 0,.slice none 0 0,.int .i64 0,.int .i64 0,.int .i64 0]):=⟨by kernel_rfl⟩
instance:Zer P T.a62 (.agg #[.string ⟨#[]⟩,.int .i64 0,.int .i64 0,.int .i64 0,.int .i64 0,.slice none 0 0,.int .i64 0,.int .i64 0,.int .i64 0,.bool false,.bool false]):=⟨by kernel_rfl⟩
instance:Zer P T.a9 (.agg #[.slice none 0 0,.int .i64 0]):=⟨by kernel_rfl⟩
instance:Zer P T.a7 (.agg #[.bool false,.int .i64 0]):=⟨by kernel_rfl⟩
instance:Zer P T.a17 (.agg #[.int .i64 0,.int .i64 0]):=⟨by kernel_rfl⟩
instance:Zer P T.a18 (.agg #[.int .i64 0,.int .i64 0,.int .i64 0,.int .i64 0]):=⟨by kernel_rfl⟩
instance:Zer P T.a5 (.agg #[.int .i64 0,.int .i64 0,.int .i64 0,.int .i64 0,.int .i64 0,.int .i64 0,.int .i64 0]):=⟨by kernel_rfl⟩
instance:Zer P T.a10 (.agg #[.int .i64 0,.int .i64 0,.int .i64 0]):=⟨by kernel_rfl⟩
instance:Zer P T.a15 (.agg #[.int .i64 0,.int .i64 0,.int .i64 0,.int .i64 0]):=⟨by kernel_rfl⟩
instance:SlT P T.a41 T.a0 7 72:=⟨by kernel_rfl,by kernel_rfl⟩
instance:SlT P T.a42 T.a2 4 48:=⟨by kernel_rfl,by kernel_rfl⟩
instance:SlT P T.a50 T.a57 1 16:=⟨by kernel_rfl,by kernel_rfl⟩
instance:SlT P T.a44 T.a13 1 8:=⟨by kernel_rfl,by kernel_rfl⟩
instance:SlT P T.a53 T.a63 1 1:=⟨by kernel_rfl,by kernel_rfl⟩
instance:SlT P T.a48 T.a40 5 56:=⟨by kernel_rfl,by kernel_rfl⟩
instance:SlT P T.a51 T.a60 4 32:=⟨by kernel_rfl,by kernel_rfl⟩
instance:SlT P T.a45 T.a14 1 8:=⟨by kernel_rfl,by kernel_rfl⟩
instance:SlT P T.a47 T.a36 1 8:=⟨by kernel_rfl,by kernel_rfl⟩
instance:SlT P T.a49 T.a53 1 24:=⟨by kernel_rfl,by kernel_rfl⟩
instance:SlT P T.a46 T.a15 4 32:=⟨by kernel_rfl,by kernel_rfl⟩
instance:SlT P T.a43 T.a10 3 24:=⟨by kernel_rfl,by kernel_rfl⟩
structure RecM where
 key:ByteArray
 value:ByteArray
 gone:Bool
 time:Int
def z0f (r:RecM):List Value:=[.string r.key,.string r.value,.bool r.gone,.int .i64 r.time]
instance:EncA z0f [.str,.str,.bool,.int .i64] (λr=>(r.key,r.value,r.gone,r.time,())):=⟨λ_=>rfl⟩
instance:EncN z0f 4:=⟨λ_=>rfl,by decide,by simp [z0f,Value.oneCell']⟩
structure BatM where
 base:Int
 pid:Int
 epoch:Int
 seq:Int
 kind:Int
 time:Int
 x:Sl
 rs:List RecM
def z01 (b:BatM):List Value:=[.int .i64 b.base,.int .i64 b.pid,.int .i64 b.epoch,.int .i64 b.seq,.int .i64 b.kind,.int .i64 b.time,.slice b.x.a b.x.len b.x.cap]
instance:EncA z01 [.int .i64,.int .i64,.int .i64,.int .i64,.int .i64,.int .i64,.slc] (λb=>(b.base,b.pid,b.epoch,b.seq,b.kind,b.time,b.x,())):=⟨λ_=>rfl⟩
instance:EncN z01 7:=⟨λ_=>rfl,by decide,by simp [z01,Value.oneCell']⟩
def z0i (b:BatM):Bool:=decide (b.kind=2) || decide (b.kind=3)
def z4a (b:BatM):Prop:=(0<=b.kind/\b.kind<=3)/\(0<=b.base/\b.base<=1099511627776)/\(0<=b.pid/\b.pid<=1048576)/\(0<=b.epoch/\b.epoch<=32767)/\(0<=b.seq/\b.seq<=2147483647)/\(0<=b.time/\b.time<=1099511627776)
instance (b:BatM):Decidable (z4a b):=by unfold z4a;infer_instance
def z3r (b:BatM):Prop:=¬ (b.pid=0/\(b.kind≠0\/b.epoch≠0\/b.seq≠0))/\if z0i b then b.seq=0/\b.rs.length=0 else 0<b.rs.length
instance (b:BatM):Decidable (z3r b):=by unfold z3r;infer_instance
def z20 (r:RecM):Int:=if r.key.size>1024\/r.value.size>1024 then 7 else if ¬ (0<=r.time/\r.time<=1099511627776)\/(r.gone=true/\r.value.size>0) then 2 else 0
def z5d:List RecM->Int
 | []=>0
 | r::rs=>if z20 r≠0 then z20 r else z5d rs
def zo (b:BatM):Int:=if z0i b then 1 else (b.rs.length:Nat)
def z02 (b:BatM):Int:=if ¬ z4a b\/¬ z3r b then 2 else if b.rs.length>64 then 7 else if z5d b.rs≠0 then z5d b.rs else
 if b.base>1099511627776-(zo b-1)\/(b.pid>0/\z0i b=false/\b.seq>2147483647-(zo b-1)) then 24 else 0
def z1u (b:BatM):Int:=if z02 b≠0 then 0 else b.base+zo b
theorem zl6:∀ (rs:List RecM) (i:Nat) (hi:i<rs.length),z5d (rs.take i)=0->z20 rs[i]≠0->z5d rs=z20 rs[i]
 | r::rs,0,_,_,h=>by
  have h:z20 r≠0:=h;show (if z20 r≠0 then z20 r else z5d rs)=z20 r;rw [if_pos h]
 | r::rs,i+1,hi,h1,h2=>by
  have h1:(if z20 r≠0 then z20 r else z5d (rs.take i))=0:=h1
  by_cases h:z20 r≠0
  ·rw [if_pos h] at h1;exact absurd h1 h
  ·rw [if_neg h] at h1;show (if z20 r≠0 then z20 r else z5d rs)=_;rw [if_neg h];exact zl6 rs i (by simpa using hi) h1 h2
theorem zl5:∀ (rs:List RecM) (i:Nat) (hi:i<rs.length),z5d (rs.take i)=0->z20 rs[i]=0->z5d (rs.take (i+1))=0
 | r::rs,0,_,_,h=>by
  have h:z20 r=0:=h;show (if z20 r≠0 then z20 r else z5d (rs.take 0))=0;rw [if_neg (by rw [h];simp)];rfl
 | r::rs,i+1,hi,h1,h2=>by
  have h1:(if z20 r≠0 then z20 r else z5d (rs.take i))=0:=h1
  by_cases h:z20 r≠0
  ·rw [if_pos h] at h1;exact absurd h1 h
  ·rw [if_neg h] at h1;show (if z20 r≠0 then z20 r else z5d (rs.take (i+1)))=0;rw [if_neg h];exact zl5 rs i (by simpa using hi) h1 h2
theorem zpp {s:ByteArray}:s.size>0↔s≠ByteArray.mk #[]:=by
 constructor
 ·rintro h rfl;exact absurd h (Nat.lt_irrefl 0)
 ·intro h
  rcases Nat.eq_zero_or_pos s.size with h0|h0
  ·exfalso;apply h;obtain ⟨⟨l⟩⟩:=s;have h0:l.length=0:=h0;rw [List.length_eq_zero_iff.1 h0]
  ·exact h0
section
variable {w:World} {l r:List HP} {b:BatM}
theorem z7k (b:BatM) (hs:Sat w l):Ret P F.a99 #[.agg (z01 b).toArray] w λvs w'=>vs=[.bool (z0i b)]/\Sat w' l :=
 zzy b.base b.pid b.epoch b.seq b.kind b.time b.x <| by
  delta z0g3 AD AR Ab Af Aj Bw;refine zr hs λa0 w' hs=>z8 hs (z8 hs ?_);exact wp_lt ⟨rfl,rfl,hs.tail⟩
theorem ze6 (n lo hi:Int) (hs:Sat w l):Ret P F.a105 #[.int .i64 n,.int .i64 lo,.int .i64 hi] w λvs w'=>vs=[.bool (decide (lo<=n/\n<=hi))]/\Sat w' l :=
 zqv n lo hi <| by
  delta z06u Ab Aj;exact wp_lt ⟨rfl,by rw [Bool.decide_and],hs⟩
theorem z020 (b:BatM) [hb:FocR l b.x 4 (b.rs.flatMap z0f)] (hs:Sat w l):Ret P F.a95 #[.agg (z01 b).toArray] w λvs w'=>vs=[.int .i64 (zo b)]/\Sat w' l :=
 zzu b.base b.pid b.epoch b.seq b.kind b.time b.x <| by
  delta z0fz AA AN Aa Ab Ac Af Ak Al Bw Bx;unfold zo;have hl:=hs.slen b.x (xs:=b.rs) (enc:=z0f);refine zr hs λa0 w' hs=>zl hs (zb (z7k b hs) λ_ _ hs=>?_);obtain ⟨rfl,hs⟩:=hs;refine zd (zi (λh=>?_) λh=>?_)
  ·rw [if_pos h];exact ⟨rfl,rfl,hs.tail⟩
  ·rw [if_neg h];refine z8 hs (wp_lt ?_);rw [hl];exact ⟨rfl,rfl,hs.tail⟩
theorem z058 (r:RecM) (hs:Sat w l):Ret P F.a103 #[.agg (z0f r).toArray] w λvs w'=>vs=[.int .i64 (z20 r)]/\Sat w' l :=
 zqt r.key r.value r.gone r.time <| by
  delta z06s AA AP AR Ab Ac Af Ai BF Bd Bz;unfold z20;refine zr hs λa0 w' hs=>z8 hs (z8 hs ?_);refine wp_lt (zi (λh=>?_) λh=>?_)
  ·rw [if_pos (by omega)];exact ⟨rfl,rfl,hs.tail⟩
  rw [if_neg (by omega)];refine z8 hs (zb (ze6 r.time 0 1099511627776 hs) λ_ _ hs=>?_);obtain ⟨rfl,hs⟩:=hs;refine zd (z8 hs ?_);refine z8 hs (wp_lt ?_)
  have e:(¬ (0<=r.time/\r.time<=1099511627776)\/(r.gone=true/\r.value.size>0))↔(¬ (0<=r.time/\r.time<=1099511627776)\/(r.gone=true/\¬ r.value=ByteArray.mk #[])):=by rw [zpp]
  refine zi (λh=>?_) λh=>?_
  ·rw [if_pos (e.2 h)];exact ⟨rfl,rfl,hs.tail⟩
  ·rw [if_neg (λh2=>h (e.1 h2))];exact ⟨rfl,rfl,hs.tail⟩
theorem z01e (b:BatM) (hs:Sat w l):Ret P F.a100 #[.agg (z01 b).toArray] w λvs w'=>vs=[.bool (decide (z4a b))]/\Sat w' l :=
 zqq b.base b.pid b.epoch b.seq b.kind b.time b.x <| by
  delta z06p AA AB AD AR Aa Ab Ac Af Aj Bw;refine zr hs λa0 w' hs=>zj (λv w'=>v=(decide (z4a b),())/\Sat w' l) ?_ (by rintro _ w' ⟨rfl,hs⟩;refine zh ?_;exact ⟨rfl,rfl,hs⟩)
  have hno:∀ {w'},¬ z4a b->Sat w' (pt a0 (.cells #[.int .i64 b.base,.int .i64 b.pid,.int .i64 b.epoch,.int .i64 b.seq,.int .i64 b.kind,.int .i64 b.time,.slice b.x.a b.x.len b.x.cap] T.a0)::l)->((false,()):Bool × Unit)=(decide (z4a b),())/\Sat w' l:=λh hs=>⟨by rw [decide_eq_false h],hs.tail⟩
  refine z8 hs (z8 hs ?_);refine z8 hs (zi (λh1=>?_) λh1=>?_);rotate_left
  ·exact zg (hno (λh=>h1 h.1) hs)
  refine zb (ze6 b.base 0 1099511627776 hs) λ_ _ hs=>?_;obtain ⟨rfl,hs⟩:=hs;refine zd (z8 hs ?_);refine zi (λh2=>?_) λh2=>?_;rotate_left
  ·exact zg (hno (λh=>h2 h.2.1) hs)
  refine zb (ze6 b.pid 0 1048576 hs) λ_ _ hs=>?_;obtain ⟨rfl,hs⟩:=hs;refine zd (z8 hs ?_);refine z8 hs (z8 hs ?_);refine z8 hs (z8 hs ?_);refine zi (λh3=>?_) λh3=>?_;rotate_left
  ·exact zg (hno (λh=>h3 ⟨⟨⟨⟨h.2.2.1,h.2.2.2.1.1⟩,h.2.2.2.1.2⟩,h.2.2.2.2.1.1⟩,h.2.2.2.2.1.2⟩) hs)
  refine zb (ze6 b.time 0 1099511627776 hs) λ_ _ hs=>?_;obtain ⟨rfl,hs⟩:=hs;refine zd (wp_lt ?_);refine zg ⟨?_,hs.tail⟩
  have:(z4a b)↔(0<=b.time/\b.time<=1099511627776):=⟨λh=>h.2.2.2.2.2,λh=>⟨h1,h2,h3.1.1.1.1,⟨h3.1.1.1.2,h3.1.1.2⟩,⟨h3.1.2,h3.2⟩,h⟩⟩
  rw [decide_eq_decide.2 this]
theorem z0cb (b:BatM) [hb:FocR l b.x 4 (b.rs.flatMap z0f)] (hs:Sat w l):Ret P F.a98 #[.agg (z01 b).toArray] w λvs w'=>vs=[.bool (decide (z3r b))]/\Sat w' l :=
 zzx b.base b.pid b.epoch b.seq b.kind b.time b.x <| by
  delta z0g2 AA AD AN AR AZ Aa Ab Af Aj Ak Bw Bx;have hl:=hs.slen b.x (xs:=b.rs) (enc:=z0f);refine zr hs λa0 w' hs=>z8 hs (z8 hs ?_);refine z8 hs (z8 hs ?_);refine zi (λh1=>?_) λh1=>?_
  ·have:¬ z3r b:=λh=>h.1 ⟨h1.1,or_assoc.1 h1.2⟩;exact ⟨rfl,by rw [decide_eq_false this],hs.tail⟩
  have h1:¬ (b.pid=0/\(b.kind≠0\/b.epoch≠0\/b.seq≠0)):=λh=>h1 ⟨h.1,or_assoc.2 h.2⟩;refine zl hs (zb (z7k b hs) λ_ _ hs=>?_);obtain ⟨rfl,hs⟩:=hs;refine zd (zi (λh2=>?_) λh2=>?_)
  ·refine z8 hs (z8 hs ?_);refine wp_lt ⟨rfl,?_,hs.tail⟩
   have:z3r b↔(b.seq=0/\b.rs.length=0):=by
    unfold z3r;rw [if_pos h2];exact ⟨λh=>h.2,λh=>⟨h1,h⟩⟩
   congr 2
   rw [Bool.eq_iff_iff,decide_eq_true_iff,this,Bool.and_eq_true,beq_iff_eq,beq_iff_eq,hl];omega
  ·refine z8 hs (wp_lt ?_);refine ⟨rfl,?_,hs.tail⟩
   have:z3r b↔0<b.rs.length:=by
    unfold z3r;rw [if_neg h2];exact ⟨λh=>h.2,λh=>⟨h1,h⟩⟩
   congr 2
   rw [Bool.eq_iff_iff,decide_eq_true_iff,decide_eq_true_iff,this,hl];omega
theorem zar (b:BatM) [hb:FocR l b.x 4 (b.rs.flatMap z0f)] (hs:Sat w l):Ret P F.a96 #[.agg (z01 b).toArray] w λvs w'=>vs=[.int .i64 (z02 b)]/\Sat w' l :=
 zzv b.base b.pid b.epoch b.seq b.kind b.time b.x <| by
  delta z0g0 AA AB AD AH AK AN AP AR AW Aa Ab Ac Af Aj Ak Al Am Av Az B0 B8 Bw Bx By Bz;unfold z02;have hl:=hs.slen b.x (xs:=b.rs) (enc:=z0f);refine zr hs λa0 w' hs=>zj (λv w'=>v=(decide (¬ z4a b\/¬ z3r b),())/\Sat w' (pt a0 (.cells #[.int .i64 b.base,.int .i64 b.pid,.int .i64 b.epoch,.int .i64 b.seq,.int .i64 b.kind,.int .i64 b.time,.slice b.x.a b.x.len b.x.cap] T.a0)::l)) ?_ ?_
  ·refine zl hs (zb (z01e b hs) λ_ _ hs=>?_);obtain ⟨rfl,hs⟩:=hs;refine zd (zl hs ?_);refine zi (λh1=>?_) λh1=>?_
   ·exact zg ⟨by rw [decide_eq_true (.inl h1)],hs⟩
   refine zb (z0cb b hs) λ_ _ hs=>?_;obtain ⟨rfl,hs⟩:=hs;refine zd (wp_lt ?_);refine zg ⟨?_,hs⟩
   have:(¬ z4a b\/¬ z3r b)↔¬ z3r b:=⟨λh=>h.resolve_left h1,.inr⟩
   rw [decide_eq_decide.2 this,decide_not]
  clear hs;rintro _ w ⟨rfl,hs⟩;refine zh (zi (λh1=>?_) λh1=>?_)
  ·rw [if_pos h1];exact ⟨rfl,rfl,hs.tail⟩
  rw [if_neg h1];have hnum:z4a b:=Decidable.not_not.1 λh=>h1 (.inl h);have hfit:z3r b:=Decidable.not_not.1 λh=>h1 (.inr h);refine z8 hs (wp_lt ?_);refine zi (λh2=>?_) λh2=>?_
  ·rw [if_pos (by omega)];exact ⟨rfl,rfl,hs.tail⟩
  rw [if_neg (by omega)];refine z8 hs (zj (λv w'=>z5d b.rs=0/\Sat w' (pt a0 (.cells #[.int .i64 b.base,.int .i64 b.pid,.int .i64 b.epoch,.int .i64 b.seq,.int .i64 b.kind,.int .i64 b.time,.slice b.x.a b.x.len b.x.cap] T.a0)::l)) ?_ ?_)
  ·refine z0a (λk v w=>∃ i:Nat,v=((i:Int),())/\i<=b.rs.length/\b.rs.length-i=k/\z5d (b.rs.take i)=0/\Sat w (pt a0 (.cells #[.int .i64 b.base,.int .i64 b.pid,.int .i64 b.epoch,.int .i64 b.seq,.int .i64 b.kind,.int .i64 b.time,.slice b.x.a b.x.len b.x.cap] T.a0)::l)) b.rs.length ⟨0,rfl,by omega,rfl,rfl,hs⟩ ?_;clear hs;rintro k _ w ⟨i,rfl,hi,hk,hbad,hs⟩;refine zh (zi (λhc=>?_) λhc=>?_);rotate_left
   ·refine zm (zg ⟨?_,hs⟩)
    rwa [List.take_of_length_le (by omega)] at hbad
   have hil:i<b.rs.length:=by omega
   refine z5b hs i hil (zu hs λc w' hs=>?_);refine zv hs λw' hs=>zl hs (zb (z058 b.rs[i] hs) λ_ _ hs=>?_);obtain ⟨rfl,hs⟩:=hs;refine zd (wp_lt ?_);refine zi (λh3=>?_) λh3=>?_
   ·refine wp_lt (zm (zm ?_));have:=zl6 b.rs i hil hbad h3;rw [if_pos (by rw [this];exact h3),this];exact ⟨rfl,rfl,hs.tail.tail⟩
   ·refine z22 (us':=[.int .i64 ((i+1:Nat):Int)]) (by (try simp (disch:=omega) only [w64]);first|rfl|(congr;omega)) (z0x (b.rs.length-(i+1)) ?_);exact ⟨i+1,rfl,by omega,rfl,zl5 b.rs i hil hbad (Decidable.not_not.1 h3),hs.sub⟩
  clear hs;rintro _ w ⟨hbad,hs⟩;refine zh ?_;rw [if_neg (by rw [hbad];simp)];refine zl hs (zb (z020 b hs) λ_ _ hs=>?_);obtain ⟨rfl,hs⟩:=hs;refine zd ?_
  have hsp:1<=zo b/\zo b<=64:=by
   unfold zo;have h3:=hfit.2;split
   ·omega
   ·rename_i hm
    rw [if_neg hm] at h3;omega
  obtain ⟨-,hba,-,-,hse,-⟩:=hnum;refine z27 (y:=zo b-1) ?_ (by rw [w64 (by omega) (by omega)]);refine zj (λv w'=>v=(decide (b.base>1099511627776-(zo b-1)\/(b.pid>0/\z0i b=false/\b.seq>2147483647-(zo b-1))),())/\Sat w' l) ?_ ?_
  ·rw [w64 (x:=1099511627776-(zo b-1)) (by omega) (by omega)];refine z8 hs (z8 hs ?_);refine zl hs (zi (λh3=>?_) λh3=>?_)
   ·exact zg ⟨by rw [decide_eq_true (.inl h3)],hs.tail⟩
   refine zi (λh4=>?_) λh4=>?_;rotate_left
   ·exact zg ⟨by rw [decide_eq_false (λh=>h.elim h3 λh=>h4 h.1)],hs.tail⟩
   refine zb (z7k b hs) λ_ _ hs=>?_;obtain ⟨rfl,hs⟩:=hs;refine zd (z8 hs ?_);rw [w64 (x:=2147483647-(zo b-1)) (by omega) (by omega)];refine zg ⟨?_,hs.tail⟩
   have:(b.base>1099511627776-(zo b-1)\/(b.pid>0/\z0i b=false/\b.seq>2147483647-(zo b-1)))↔(z0i b=false/\b.seq>2147483647-(zo b-1)):=⟨λh=>(h.resolve_left h3).2,λh=>.inr ⟨h4,h⟩⟩
   rw [decide_eq_decide.2 this,Bool.decide_and];cases z0i b <;> rfl
  clear hs;rintro _ w ⟨rfl,hs⟩;refine zh (zi (λh3=>?_) λh3=>?_)
  ·rw [if_pos h3];exact ⟨rfl,rfl,hs⟩
  ·rw [if_neg h3];exact ⟨rfl,rfl,hs⟩
theorem z1d (b:BatM) (hv:z02 b=0):1<=zo b/\zo b<=64/\z4a b/\z3r b/\b.base+zo b<=1099511627777:=by
 unfold z02 at hv;split at hv
 ·cases hv
 rename_i h1
 have hnum:z4a b:=Decidable.not_not.1 λh=>h1 (.inl h);have hfit:z3r b:=Decidable.not_not.1 λh=>h1 (.inr h);split at hv
 ·cases hv
 rename_i h2
 split at hv
 ·rename_i h3;exact absurd hv h3
 split at hv
 ·cases hv
 rename_i h4
 have hsp:1<=zo b/\zo b<=64:=by
  unfold zo;have h3:=hfit.2;split
  ·omega
  ·rename_i hm
   rw [if_neg hm] at h3;omega
 refine ⟨hsp.1,hsp.2,hnum,hfit,?_⟩;apply Decidable.byContradiction;intro h5;exact h4 (.inl (by omega))
theorem zan (b:BatM) [hb:FocR l b.x 4 (b.rs.flatMap z0f)] (hs:Sat w l):Ret P F.a94 #[.agg (z01 b).toArray] w λvs w'=>vs=[.int .i64 (z1u b)]/\Sat w' l :=
 zzt b.base b.pid b.epoch b.seq b.kind b.time b.x <| by
  delta z0fy AC AE Aa Ab Ac Af Al Am Av B1 Bw Bx;unfold z1u;refine zr hs λa0 w' hs=>zl hs (zb (zar b hs) λ_ _ hs=>?_);obtain ⟨rfl,hs⟩:=hs;refine zd (zi (λh=>?_) λh=>?_)
  ·rw [if_pos h];exact ⟨rfl,rfl,hs.tail⟩
  rw [if_neg h];obtain ⟨h1,h2,h3,-⟩:=z1d b (Decidable.not_not.1 h);have h3:=h3.2.1;refine zt hs λw' hs=>z0y hs (zl hs ?_);refine zb (z020 b hs) λ_ w' hs=>?_;obtain ⟨rfl,hs⟩:=hs;refine zd ?_ ⟨trivial,λ_=>z09 hs⟩;refine z27 (y:=b.base+zo b) ?_ (by rw [w64 (by omega) (by omega)]);exact ze ⟨rfl,rfl,hs.tail⟩
end
def z4o:Nat->Nat->List UInt8
 | 0,_=>[]
 | k+1,n=>if n<128 then [UInt8.ofNat n] else UInt8.ofNat (n % 128+128)::z4o k (n / 128)
def z3y (n:Nat):List UInt8:=z4o 10 n
def z49 (i:Nat):List UInt8->Option (Nat × Nat)
 | []=>none
 | c::r=>if i>=10\/(i=9/\1<c.toNat) then none else if 128<=c.toNat then (z49 (i+1) r).map λp=>(c.toNat % 128+128*p.1,p.2+1) else if c.toNat=0/\0<i then none else some (c.toNat,1)
theorem z9x (i:Nat) (c:UInt8) (r:List UInt8):z49 i (c::r)=if i>=10\/(i=9/\1<c.toNat) then none else if 128<=c.toNat then (z49 (i+1) r).map λp=>(c.toNat % 128+128*p.1,p.2+1) else if c.toNat=0/\0<i then none else some (c.toNat,1):=rfl
theorem zjm:∀ (k n:Nat),0<k->n<128 ^ k->z4o (k+1) n=z4o k n
 | k+1,n,_,h=>by
  show (if n<128 then _ else _::z4o (k+1) (n / 128))=if n<128 then _ else _::z4o k (n / 128)
  by_cases h1:n<128
  ·rw [if_pos h1,if_pos h1]
  ·rw [if_neg h1,if_neg h1]
   have hk:0<k:=by
    apply Nat.pos_of_ne_zero;rintro rfl;simp at h;omega
   rw [zjm k (n / 128) hk];rw [Nat.pow_succ] at h;omega
theorem zpz {n:Nat} (h:n<18446744073709551616):z3y n=if n<128 then [UInt8.ofNat n] else UInt8.ofNat (n % 128+128)::z3y (n / 128):=by
 unfold z3y;rw [zjm 9 (n / 128) (by decide) (by omega)];rfl
theorem zmu:∀ (k n:Nat),(z4o k n).length<=k
 | 0,_=>Nat.le_refl _
 | k+1,n=>by
  have:=zmu k (n / 128);unfold z4o;split <;> simp <;> omega
theorem z02f (k n:Nat):0<(z4o (k+1) n).length:=by
 unfold z4o;split <;> simp
theorem za2 (n:Nat):0<(z3y n).length/\(z3y n).length<=10:=⟨z02f 9 n,zmu 10 n⟩
theorem zow:∀ (bs:List UInt8) (i v k:Nat),z49 i bs=some (v,k)->0<k/\k<=bs.length/\i+k<=10
 | [],i,v,k,h=>by cases h
 | c::r,i,v,k,h=>by
  unfold z49 at h;split at h
  ·cases h
  rename_i h1
  split at h
  ·rename_i h2
   cases hr:z49 (i+1) r with
   | none=>rw [hr] at h;cases h
   | some p =>
    rw [hr] at h;simp only [Option.map_some,Option.some.injEq,Prod.mk.injEq] at h;have:=zow r (i+1) p.1 p.2 hr;simp;omega
  ·split at h
   ·cases h
   ·simp only [Option.some.injEq,Prod.mk.injEq] at h;simp;omega
theorem zoz:∀ (k i n:Nat) (rest:List UInt8),n<128 ^ k->0<k->n*128 ^ i<18446744073709551616->(0<i->0<n)->i<10->z49 i (z4o k n++rest)=some (n,(z4o k n).length)
 | k+1,i,n,rest,hn,_,h64,hi,hi10=>by
  have hcase:i=0\/i=1\/i=2\/i=3\/i=4\/i=5\/i=6\/i=7\/i=8\/i=9:=by omega
  have h9:i=9->n<2:=λe=>by subst e;simp at h64;omega
  unfold z4o
  by_cases h:n<128
  ·rw [if_pos h];show (if _ then _ else if _ then _ else if _ then _ else _)=_
   have e:(UInt8.ofNat n).toNat=n:=by simp;omega
   rw [e,if_neg (by omega),if_neg (by omega),if_neg (by omega)];rfl
  ·rw [if_neg h]
   have e:(UInt8.ofNat (n % 128+128)).toNat=n % 128+128:=by simp;omega
   have h64':n / 128*128 ^ (i+1)<18446744073709551616:=by
    rw [Nat.pow_succ,Nat.mul_comm (128 ^ i),<- Nat.mul_assoc];exact Nat.lt_of_le_of_lt (Nat.mul_le_mul_right _ (Nat.div_mul_le_self n 128)) h64
   have hk:0<k:=by
    apply Nat.pos_of_ne_zero;rintro rfl;simp at hn;omega
   have ih:=zoz k (i+1) (n / 128) rest (by rw [Nat.pow_succ] at hn;omega) hk h64' (λ_=>by omega) (by omega);rw [List.cons_append];show (if _ then _ else if _ then _ else _)=_
   have e3:(n % 128+128) % 128+128*(n / 128)=n:=by omega
   rw [e,if_neg (by omega),if_pos (by omega),ih,Option.map_some,e3,List.length_cons]
theorem zm5 {n:Nat} (h:n<18446744073709551616) (rest:List UInt8):z49 0 (z3y n++rest)=some (n,(z3y n).length) :=
 zoz 10 0 n rest (by omega) (by decide) (by omega) (λh=>absurd h (by decide)) (by decide)
theorem zuj:∀ (bs:List UInt8) (i v k:Nat),i<10->z49 i bs=some (v,k)->bs.take k=z4o (10-i) v/\v*128 ^ i<18446744073709551616/\(0<i->0<v)
 | [],i,v,k,_,h=>by cases h
 | c::r,i,v,k,hi10,h=>by
  have hcase:i=0\/i=1\/i=2\/i=3\/i=4\/i=5\/i=6\/i=7\/i=8\/i=9:=by omega
  have hc:=c.toNat_lt;unfold z49 at h;split at h
  ·cases h
  rename_i h1
  split at h
  ·rename_i h2
   cases hr:z49 (i+1) r with
   | none=>rw [hr] at h;cases h
   | some p =>
    rw [hr] at h;simp only [Option.map_some,Option.some.injEq,Prod.mk.injEq] at h;obtain ⟨rfl,rfl⟩:=h;obtain ⟨g1,g2,g3⟩:=zuj r (i+1) p.1 p.2 (by omega) hr;have hp:=g3 (by omega)
    obtain ⟨m,hm⟩:∃ m,10-i=m+1:=⟨9-i,by omega⟩
    have hm':10-(i+1)=m:=by omega
    rw [hm'] at g1;refine ⟨?_,?_,λ_=>by omega⟩
    ·rw [hm];unfold z4o;rw [if_neg (by omega),List.take_succ_cons,g1]
     have e1:(c.toNat % 128+128*p.1) % 128+128=c.toNat:=by omega
     have e2:(c.toNat % 128+128*p.1) / 128=p.1:=by omega
     rw [e1,e2];simp
    ·obtain ⟨m,hm⟩:∃ m,18446744073709551616=m*128 ^ (i+1):=by
      rcases hcase with rfl|rfl|rfl|rfl|rfl|rfl|rfl|rfl|rfl|rfl
      ·exact ⟨2 ^ 57,rfl⟩
      ·exact ⟨2 ^ 50,rfl⟩
      ·exact ⟨2 ^ 43,rfl⟩
      ·exact ⟨2 ^ 36,rfl⟩
      ·exact ⟨2 ^ 29,rfl⟩
      ·exact ⟨2 ^ 22,rfl⟩
      ·exact ⟨2 ^ 15,rfl⟩
      ·exact ⟨2 ^ 8,rfl⟩
      ·exact ⟨2 ^ 1,rfl⟩
      ·omega
     rw [hm] at g2 ⊢;have hlt:=Nat.lt_of_mul_lt_mul_right g2;have h5:(p.1+1)*128 ^ (i+1)<=m*128 ^ (i+1):=Nat.mul_le_mul_right _ hlt;refine Nat.lt_of_lt_of_le ?_ h5;rw [Nat.pow_succ,Nat.mul_comm (128 ^ i),<- Nat.mul_assoc];exact Nat.mul_lt_mul_of_pos_right (by omega) (Nat.pow_pos (by decide))
  ·split at h
   ·cases h
   ·simp only [Option.some.injEq,Prod.mk.injEq] at h;obtain ⟨rfl,rfl⟩:=h
    obtain ⟨m,hm⟩:∃ m,10-i=m+1:=⟨9-i,by omega⟩
    refine ⟨?_,?_,λ_=>by omega⟩
    ·rw [hm];unfold z4o;rw [if_pos (by omega)];simp
    ·rcases hcase with rfl|rfl|rfl|rfl|rfl|rfl|rfl|rfl|rfl|rfl <;> simp <;> omega
theorem zoy {bs:List UInt8} {v k:Nat} (h:z49 0 bs=some (v,k)):bs.take k=z3y v/\v<18446744073709551616:=by
 obtain ⟨h1,h2,-⟩:=zuj bs 0 v k (by decide) h;exact ⟨h1,by simpa using h2⟩
def z0h (x:Sl):List Value:=[.slice x.a x.len x.cap]
instance:Enc1 z0h .slc (λx=>x):=⟨λ_=>rfl⟩
instance:EncN z0h 1:=⟨λ_=>rfl,by decide,by simp [z0h,Value.oneCell']⟩
section
variable {w:World} {l r:List HP} {sz:Nat} {x:Sl}
theorem zbu {α:Type} {enc:α->List Value} [hE:EncN enc sz]:∀ (xs:List α) (n:Nat),(xs.flatMap enc).drop (n*sz)=(xs.drop n).flatMap enc
 | [],n=>by simp
 | x::xs,0=>by simp
 | x::xs,n+1=>by
  rw [List.flatMap_cons,Nat.succ_mul,Nat.add_comm,<- List.drop_drop,List.drop_left' (hE.len x),zbu xs n,List.drop_succ_cons]
theorem FocR.post {α:Type} {enc:α->List Value} [hE:EncN enc sz] {xs:List α} [hf:FocR l x sz (xs.flatMap enc)] {n m c:Nat} (hm:x.len<=m):FocR l ⟨z0k x.a sz n m,x.len-n,c⟩ sz ((xs.drop n).flatMap enc):=⟨λw hs=>by
 obtain ⟨hlen,h0⟩:=hf.rd w hs;have hl:x.len=xs.length:=(hf.rd w hs).len hE.len hE.pos;refine ⟨by rw [z3z,List.length_drop,hl],?_⟩
 by_cases hn:x.len-n=0
 ·exact .inl hn
 ·right
  rcases h0 with h0|⟨b,off,arr,T,fr,ha,hb,hc⟩
  ·omega
  ·refine ⟨b,off+n*sz,arr,T,fr,?_,hb,λi hi=>?_⟩
   ·show z0k x.a sz n m=_;unfold z0k;rw [if_neg (by omega),ha,Option.map_some,z2d]
   ·rw [<- zbu,List.length_drop] at hi
    rw [Nat.add_assoc,hc (n*sz+i) (by omega),<- zbu,List.getElem?_drop]⟩
end
section
variable {w:World} {l r:List HP} {Q:Post} {S:World->Prop}
theorem zvf {P:Program} {t el:TypeId} {sz bytes:Nat} {c:Int} {k:Sl->Prog} [ht:SlT P t el sz bytes] (n:Nat) (hs:Sat w l) (h:∀ x w',Sat w' (slc el sz x []::l)->(k x).wp P S w' Q) (hc:c=n:=by first|rfl|omega) (hb:n*bytes<=281474976710656/\n<=9223372036854775807:=by omega) (hS:∀ w',S w':=by exact λ_=>trivial) :
  (Prog.act (Instr.makeSlice t (.int .i64 0) (.int .i64 c)) sL (u1 k)).wp P S w Q:=by
 subst hc;obtain ⟨i,z,hi,h2,h3,h4,h5⟩:=ht.parts;have hrun:=run_make (P:=P) w t el i z ht.ok.1 hi h4 .i64 .i64 0 n (Int.le_refl _) (by omega) (by rw [h3,<- Int.natCast_mul,Nat.mul_comm];omega) (by omega);simp only [Int.toNat_zero,Int.toNat_natCast] at hrun;have hp:=hs.push (o:=.cells (madeCells z.cells (n*i.size)) el) (w':=w.alloc (.cells (madeCells z.cells (n*i.size)) el)) rfl;refine ⟨(⟨some ⟨w.heap.size,0,none⟩,0,n⟩,()),_,hrun,hS _,h ⟨some ⟨w.heap.size,0,none⟩,0,n⟩ _ ?_⟩;refine hp.imp λp hp=>.inr ⟨w.heap.size,0,_,_,rfl,hp,by simp,Nat.zero_le _,?_,λi hi=>by simp at hi,z2g _ _⟩;rw [size_madeCells,h2];simp
theorem zkx {P:Program} {T:TypeId} {sz:Nat} {α:Type} {enc:α->List Value} {xs:List α} {i i':Int} {x:Sl} {g g':Prop} {p:Pr} {f:p.D->Prog} (hs:Sat w l) [hf:FocR l x sz (xs.flatMap enc)] [hE:EncN enc sz] [hT:One P T]
  (y:p.D) (hg:g->∃ n,∃ hn:n<xs.length,i=(n:Int)/\enc xs[n]=[p.mk y]) (h:(f y).wp P S w Q) (hgg:g'->g:=by exact id) (hi':i'=i:=by rfl) :
  (Prog.ex [.adr] (c1 λa=>g->0<=i/\i<((x.len:Nat):Int)/\x.a=some a) (u1 λa=>.read g' (ld T (Addr.add a (Int.toNat i'*sz))) (.one (.one p)) (u1 f))).wp P S w Q:=by
 subst hi';have hr:=hf.rd w hs;have hl:x.len=xs.length:=hr.len hE.len hE.pos
 by_cases hgc:g
 ·obtain ⟨n,hn,hin,hen⟩:=hg hgc;subst hin;obtain ⟨a,ha,he⟩:=hr.el hE.len (by omega);refine ⟨(a,()),λ_=>⟨by omega,by omega,ha⟩,(y,()),λ_=>?_,h⟩;have:=he n hn;rw [hen] at this;have h2:=At.ld1 (P:=P) (T:=T) this rfl;cases p <;> exact h2
 ·exact ⟨(⟨0,0,none⟩,()),λh=>absurd h hgc,(y,()),λh=>absurd (hgg h) hgc,h⟩
theorem ze7 {P:Program} {T:TypeId} {sz:Nat} {α:Type} {enc:α->List Value} {xs:List α} {i i':Int} {j:Nat} {x:Sl} {g g':Prop} {p:Pr} {dec:α->p.D} {f:p.D->Prog} (hs:Sat w l) [hf:FocR l x sz (xs.flatMap enc)] [hE:EncN enc sz] [hD:EncF enc j p dec] [hT:One P T]
  (y:p.D) (hg:g->∃ n,∃ hn:n<xs.length,i=(n:Int)/\dec xs[n]=y) (h:(f y).wp P S w Q) (hgg:g'->g:=by exact id) (hi':i'=i:=by rfl) :
  (Prog.ex [.adr] (c1 λa=>g->0<=i/\i<((x.len:Nat):Int)/\x.a=some a) (u1 λa=>.read g' (ld T (Addr.add (Addr.add a (Int.toNat i'*sz)) j)) (.one (.one p)) (u1 f))).wp P S w Q:=by
 subst hi'
 by_cases hgc:g
 ·obtain ⟨n,hn,hin,hen⟩:=hg hgc;subst hin hen;obtain ⟨a,ha,hl,hr⟩:=zkn (P:=P) (T:=T) (j:=j) (enc:=enc) (p:=p) (dec:=dec) (x:=x) hs hn;exact ⟨(a,()),λ_=>⟨by omega,by omega,ha⟩,(dec xs[n],()),λ_=>by rw [Int.toNat_natCast];exact hr,h⟩
 ·exact ⟨(⟨0,0,none⟩,()),λh=>absurd h hgc,(y,()),λh=>absurd (hgg h) hgc,h⟩
theorem z0bl {P:Program} {T:TypeId} {sz:Nat} {α:Type} {enc:α->List Value} {xs:List α} {ii:Int} {m j:Nat} {x:Sl} {g':Prop} {p:Pr} {dec:α->p.D} {f:p.D->Prog} (hs:Sat w l) [hf:FocR l x sz (xs.flatMap enc)] [hE:EncN enc sz] [hD:EncF enc j p dec] [hT:One P T]
  (n:Nat) (hn:n<xs.length) (h:(f (dec xs[n])).wp P S w Q) (hm:m=n*sz:=by rfl) (hi:ii=n:=by rfl) :
  (Prog.ex [.adr] (c1 λa=>(0:Int)<=ii/\ii<((x.len:Nat):Int)/\x.a=some a) (u1 λa=>.read g' (ld T (Addr.add (Addr.add a m) j)) (.one (.one p)) (u1 f))).wp P S w Q:=by
 subst hm hi;obtain ⟨a,ha,hl,hr⟩:=zkn (P:=P) (T:=T) (j:=j) (enc:=enc) (p:=p) (dec:=dec) (x:=x) hs hn;exact ⟨(a,()),⟨by omega,by omega,ha⟩,(dec xs[n],()),λ_=>hr,h⟩
end
instance:ByE P T.a53 T.a63:=⟨by kernel_rfl,by kernel_rfl,by kernel_rfl⟩
instance:StT P T.a57:=⟨by kernel_rfl⟩
theorem z94 (m:Nat) {k:Int} (hk:0<=k):Int.fdiv (m:Int) k=((m / k.toNat:Nat):Int):=by
 obtain ⟨k,rfl⟩:=Int.eq_ofNat_of_zero_le hk;rw [Int.fdiv_eq_ediv_of_nonneg _ hk];rfl
theorem zfu (m:Nat):IntKind.wrap .u8 (m:Int)=((m % 256:Nat):Int):=by simp [IntKind.wrap,IntKind.bits,IntKind.signed]
theorem znf (m:Nat):IntKind.wrap .u32 (m:Int)=((m % 4294967296:Nat):Int):=by simp [IntKind.wrap,IntKind.bits,IntKind.signed]
theorem zjt (m:Nat):IntKind.wrap .u64 (m:Int)=((m % 18446744073709551616:Nat):Int):=by simp [IntKind.wrap,IntKind.bits,IntKind.signed]
theorem z0gi (m:Nat):(BitVec.toNat (BitVec.ofInt 8 (IntKind.wrap .u8 (m:Int)) ||| BitVec.ofInt 8 128))=m % 128+128:=by
 rw [zfu,BitVec.ofInt_natCast]
 have h:∀ k:Fin 256,(BitVec.ofNat 8 k.val ||| BitVec.ofInt 8 128).toNat=k.val % 128+128:=by decide +kernel
 have:=h ⟨m % 256,by omega⟩;rw [this];show m % 256 % 128+128=_;omega
theorem z0bt (m:Nat) (hm:m<256):(BitVec.toNat (BitVec.ofInt 8 (m:Int) &&& BitVec.ofInt 8 127))=m % 128:=by
 rw [BitVec.ofInt_natCast]
 have h:∀ k:Fin 256,(BitVec.ofNat 8 k.val &&& BitVec.ofInt 8 127).toNat=k.val % 128:=by decide +kernel
 exact h ⟨m,hm⟩
theorem z0gw {n c i:Nat} (hn:n<128 ^ i) (hi:i<=9) (hc:c<256) (h9:i=9->c<=1) :
  IntKind.wrap .u64 (((BitVec.toNat (BitVec.ofInt 64 (n:Int) ||| BitVec.ofInt 64 (IntKind.wrap .u64 (IntKind.wrap .u64 (IntKind.wrap .u8 (((BitVec.toNat (BitVec.ofInt 8 (c:Int) &&& BitVec.ofInt 8 127):Nat):Int)))*2 ^ min (Int.toNat (IntKind.wrap .i64 (7*(i:Int)))) 64))):Nat):Int))=((n+128 ^ i*(c % 128):Nat):Int):=by
 have e1:min (Int.toNat (IntKind.wrap .i64 (7*(i:Int)))) 64=7*i:=by rw [w64 (by omega) (by omega)];omega
 have e2:(2:Nat) ^ (7*i)=128 ^ i:=by rw [Nat.pow_mul]
 have hle:128 ^ i*(c % 128)+128 ^ i<=18446744073709551616:=by
  have hcase:i=0\/i=1\/i=2\/i=3\/i=4\/i=5\/i=6\/i=7\/i=8\/i=9:=by omega
  rcases hcase with rfl|rfl|rfl|rfl|rfl|rfl|rfl|rfl|rfl|rfl <;> simp <;> omega
 rw [z0bt c hc,e1,zfu,zjt (c % 128 % 256),show c % 128 % 256 % 18446744073709551616=c % 128 by omega]
 have e3:((c % 128:Nat):Int)*2 ^ (7*i)=((128 ^ i*(c % 128):Nat):Int):=by
  rw [<- e2,Nat.mul_comm (2 ^ (7*i)),Int.natCast_mul];simp
 rw [e3,zjt (128 ^ i*(c % 128)),BitVec.ofInt_natCast,BitVec.ofInt_natCast,BitVec.toNat_or,BitVec.toNat_ofNat,BitVec.toNat_ofNat,Nat.mod_eq_of_lt (show n<2 ^ 64 by omega),Nat.mod_mod,Nat.mod_eq_of_lt (show 128 ^ i*(c % 128)<2 ^ 64 by omega)];have h5:=Nat.two_pow_add_eq_or_of_lt (i:=7*i) (b:=n) (by rw [e2];exact hn) (c % 128);rw [e2] at h5;rw [Nat.or_comm,<- h5,zjt,Nat.mod_eq_of_lt (by omega),Nat.add_comm]
section
variable {w:World} {l r:List HP} {Q:Post} {S:World->Prop}
theorem zl1 (n:Nat) (hn:n<18446744073709551616) (hs:Sat w l):Ret P F.a226 #[.int .u64 (n:Int)] w λvs w'=>∃ z:Sl,vs=[z.v]/\Sat w' (slc T.a63 1 z ((z3y n).flatMap zk)::l) :=
 ztc n <| by
  delta z098 AY Aa Ab Bc;refine zj (λu w'=>∃ (m:Nat) (z:Sl) (acc:List UInt8),u=((m:Int),z,())/\m<128/\acc.length<=9/\z3y n=acc++[UInt8.ofNat m]/\Sat w' (slc T.a63 1 z (acc.flatMap zk)::l)) ?_ ?_
  ·refine z0a (λk u w=>∃ (z:Sl) (acc:List UInt8),u=((k:Int),z,())/\k<18446744073709551616/\z3y n=acc++z3y k/\Sat w (slc T.a63 1 z (acc.flatMap zk)::l)) n ⟨⟨none,0,0⟩,[],rfl,hn,rfl,hs.slc_nil⟩ ?_;clear hs;rintro k _ w ⟨z,acc,rfl,hk,he,hs⟩;refine zh ?_
   have hal:acc.length<=9:=by
    have h1:=congrArg List.length he;rw [List.length_append] at h1;have h2:=za2 n;have h3:=za2 k;omega
   refine zi (λh=>?_) λh=>?_
   ·rw [zpz hk,if_neg (by omega)] at he;refine z66 hs (xs:=acc) (enc:=zk) (UInt8.ofNat (k % 128+128)) (λz w' hs=>?_) ?_
    ·refine z27 (y:=((k / 128:Nat):Int)) ?_ (z94 k (by decide));exact z0x (k / 128) ⟨z,acc++[UInt8.ofNat (k % 128+128)],rfl,by omega,by rw [he];simp,hs⟩
    ·unfold zk;rw [z0gi,zfu];simp
   ·rw [zpz hk,if_pos (by omega)] at he;exact zm (zg ⟨k,z,acc,rfl,by omega,hal,he,hs⟩)
  clear hs;rintro _ w ⟨m,z,acc,rfl,hm,hal,he,hs⟩;refine zh (z66 hs (xs:=acc) (enc:=zk) (UInt8.ofNat m) (λz w' hs=>?_) ?_)
  ·refine ⟨rfl,z,rfl,?_⟩;rw [he];exact hs
  ·unfold zk;rw [zfu];simp
theorem zku (x:Sl) (ps:List (Sl × List UInt8)) [hx:FocR l x 1 ((ps.map Prod.fst).flatMap z0h)] (hps:∀ p ∈ ps,FocR l p.1 1 (p.2.flatMap zk)) (hpl:ps.length<=1000000) (hn:(ps.flatMap Prod.snd).length<=1000000000) (hs:Sat w l) :
  Ret P F.a214 #[x.v] w λvs w'=>∃ z:Sl,vs=[z.v]/\Sat w' (slc T.a63 1 z ((ps.flatMap Prod.snd).flatMap zk)::l) :=
 zt0 x <| by
  delta z08w AN AU Aa Ab Ac Ak Al Av Aw Bc Bf Br;have hl:=hs.slen x (xs:=ps.map Prod.fst) (enc:=z0h);rw [List.length_map] at hl
  have hstep:∀ i (hi:i<ps.length),(ps.take (i+1)).flatMap Prod.snd=(ps.take i).flatMap Prod.snd++ps[i].2:=λi hi=>by
   rw [List.take_add_one,List.getElem?_eq_getElem hi,Option.toList_some,List.flatMap_append,List.flatMap_singleton]
  have hmany:∀ i,((ps.take i).flatMap Prod.snd).length<=1000000000:=λi=>by
   have:ps.flatMap Prod.snd=(ps.take i).flatMap Prod.snd++(ps.drop i).flatMap Prod.snd:=by rw [<- List.flatMap_append,List.take_append_drop]
   rw [this,List.length_append] at hn;omega
  refine zj (λu w'=>u=((((ps.flatMap Prod.snd).length:Nat):Int),())/\Sat w' l) ?_ ?_
  ·refine z0a (λk u w=>∃ i:Nat,u=(((((ps.take i).flatMap Prod.snd).length:Nat):Int),(i:Int),())/\i<=ps.length/\ps.length-i=k/\Sat w l) ps.length ⟨0,rfl,by omega,rfl,hs⟩ ?_;clear hs;rintro k _ w ⟨i,rfl,hi,hk,hs⟩;refine zh (zi (λhc=>?_) λhc=>?_);rotate_left
   ·refine zm (zg ⟨?_,hs⟩);rw [List.take_of_length_le (by omega)]
   have hil:i<ps.length:=by omega
   refine z1g hs (xs:=ps.map Prod.fst) (enc:=z0h) i (by rw [List.length_map];exact hil) ?_;rw [List.getElem_map];have hF:=hps _ (List.getElem_mem hil);have hpi:=hs.slen ps[i].1 (xs:=ps[i].2) (enc:=zk);have h1:=hmany (i+1);have h2:=congrArg List.length (hstep i hil);rw [List.length_append] at h2
   have e:IntKind.wrap .i64 (((((ps.take i).flatMap Prod.snd).length:Nat):Int)+((ps[i].1.len:Nat):Int))=((((ps.take (i+1)).flatMap Prod.snd).length:Nat):Int):=by rw [w64 (by omega) (by omega)];omega
   refine z7p e (z22 (us':=[.int .i64 ((((ps.take (i+1)).flatMap Prod.snd).length:Nat):Int),.int .i64 ((i+1:Nat):Int)]) (by (try simp (disch:=omega) only [w64]);first|rfl|(congr;omega)) ?_);exact z0x (ps.length-(i+1)) ⟨i+1,rfl,by omega,rfl,hs⟩
  clear hs;rintro _ w ⟨rfl,hs⟩;refine zh (zvf (ps.flatMap Prod.snd).length hs λz w' hs=>?_);refine zj (λu w'=>∃ z:Sl,u=(z,())/\Sat w' (slc T.a63 1 z ((ps.flatMap Prod.snd).flatMap zk)::l)) ?_ (by rintro _ w' ⟨z,rfl,hs⟩;refine zh ?_;exact ⟨rfl,z,rfl,hs⟩);refine z0a (λk u w=>∃ (i:Nat) (z:Sl),u=(z,(i:Int),())/\i<=ps.length/\ps.length-i=k/\Sat w (slc T.a63 1 z (((ps.take i).flatMap Prod.snd).flatMap zk)::l)) ps.length ⟨0,z,rfl,by omega,rfl,hs⟩ ?_;clear hs;rintro k _ w ⟨i,z,rfl,hi,hk,hs⟩;refine zh (zi (λhc=>?_) λhc=>?_);rotate_left
  ·refine zm (zg ⟨z,rfl,?_⟩);rw [List.take_of_length_le (by omega)] at hs;exact hs
  have hil:i<ps.length:=by omega
  refine z1g hs (xs:=ps.map Prod.fst) (enc:=z0h) i (by rw [List.length_map];exact hil) ?_;rw [List.getElem_map];have hF:=hps _ (List.getElem_mem hil);have h1:=hmany (i+1);rw [hstep i hil,List.length_append] at h1;refine wp_app' (xs:=(ps.take i).flatMap Prod.snd) (ys:=ps[i].2) (enc:=zk) hs (λz w' hs=>?_);rw [<- hstep i hil] at hs;refine z22 (us':=[z.v,.int .i64 ((i+1:Nat):Int)]) (by (try simp (disch:=omega) only [w64]);first|rfl|(congr;omega)) (z0x (ps.length-(i+1)) ?_);exact ⟨i+1,z,rfl,by omega,rfl,hs⟩
theorem zns (x:Sl) (bs:List UInt8) [hx:FocR l x 1 (bs.flatMap zk)] (hn:bs.length<=1000000000) (hs:Sat w l) :
  Ret P F.a0 #[x.v] w λvs w'=>∃ z:Sl,vs=[z.v]/\Sat w' (slc T.a63 1 z (bs.flatMap zk)::l) :=
 zmw x <| by
  delta zf0 Aa Ab Bc;have hl:=hs.slen x (xs:=bs) (enc:=zk);refine zi (λh=>?_) λh=>?_
  ·have h:x.a=none:=by simpa using h
   have:bs=[]:=by
    obtain ⟨h1,h2|⟨b,off,arr,T',fr,ha,-⟩⟩:=hx.rd w hs
    ·exact List.length_eq_zero_iff.1 (by omega)
    ·rw [h] at ha;cases ha
   subst this;exact ⟨rfl,⟨none,0,0⟩,rfl,hs.slc_nil⟩
  ·refine zav hs (enc:=zk) [] bs0 (λb w' hs=>?_);refine wp_app' (xs:=[]) (ys:=bs) (enc:=zk) hs (λz w' hs=>?_) (by simp;omega);exact ⟨rfl,z,rfl,hs⟩
structure RdM where
 bs:List UInt8
 at_:Nat
 e:Int
def RdM.fail (R:RdM) (e:Int):RdM:=⟨R.bs,R.at_,if R.e=0 then e else R.e⟩
def RdM.uint (R:RdM):Nat × RdM:=if R.e≠0 then (0,R) else match z49 0 (R.bs.drop R.at_) with
 | some p=>(p.1,⟨R.bs,R.at_+p.2,R.e⟩)
 | none=>(0,⟨R.bs,R.at_,6⟩)
def RdM.done (R:RdM):RdM:=if R.at_<R.bs.length then R.fail 6 else R
def rdP (T':TypeId) (p:Nat) (R:RdM):HP:=HP.ex λx:Sl=>HP.and (R.at_<=R.bs.length/\R.bs.length<=1000000000) (HP.star (pt p (.cells #[.slice x.a x.len x.cap,.int .i64 R.at_,.int .i64 R.e] T')) (slc T.a63 1 x (R.bs.flatMap zk)))
theorem z2i {T':TypeId} {p:Nat} {R:RdM} (hs:Sat w (rdP T' p R::l)):∃ x:Sl,(R.at_<=R.bs.length/\R.bs.length<=1000000000)/\Sat w (pt p (.cells #[.slice x.a x.len x.cap,.int .i64 R.at_,.int .i64 R.e] T')::slc T.a63 1 x (R.bs.flatMap zk)::l):=by
 obtain ⟨x,hs⟩:=hs.ex;obtain ⟨h,hs⟩:=hs.and;exact ⟨x,h,hs.star⟩
theorem z1f {T':TypeId} {p:Nat} (R:RdM) {x:Sl} (h:R.at_<=R.bs.length/\R.bs.length<=1000000000) (hs:Sat w (pt p (.cells #[.slice x.a x.len x.cap,.int .i64 R.at_,.int .i64 R.e] T')::slc T.a63 1 x (R.bs.flatMap zk)::l)):Sat w (rdP T' p R::l) :=
 .ex_mk x (.and_mk h (.star_mk hs))
theorem zva (R:RdM):(R.uint.2).bs=R.bs:=by
 unfold RdM.uint;split
 ·rfl
 ·split <;> rfl
variable {p:Nat} {R:RdM}
theorem zqg (x:Sl) (bs:List UInt8) [hx:FocR l x 1 (bs.flatMap zk)] (hn:bs.length<=1000000000) (hs:Sat w l) :
  Ret P F.a215 #[x.v] w λvs w'=>∃ p:Nat,vs=[.pointer (some ⟨p,0,none⟩)]/\Sat w' (rdP T.a65 p ⟨bs,0,0⟩::l) :=
 zt1 x <| by
  delta z08x AO Ab Ac Af Ag;refine zb (zns x bs hn hs) λ_ _ hs=>?_;obtain ⟨z,rfl,hs⟩:=hs;refine zd (zr hs λp w' hs=>?_);exact ⟨rfl,p,rfl,z1f ⟨bs,0,0⟩ ⟨Nat.zero_le _,hn⟩ hs⟩
theorem zfa [hf:Fo l (rdP T.a65) p R r] (hs:Sat w l):Ret P F.a228 #[.pointer (some ⟨p,0,none⟩)] w λvs w'=>vs=[.int .i64 ((R.bs.length-R.at_:Nat):Int)]/\Sat w' (rdP T.a65 p R::r) :=
 zte _ <| by
  delta z09a AC AE AN AR Ab Ac Ak Al Ao Av;obtain ⟨x,hb,hs⟩:=z2i (hs.perm hf.perm);have hl:=hs.slen x (xs:=R.bs) (enc:=zk);refine zt hs λw' hs=>zf (z8 hs ?_);refine zf (z8 hs ?_);refine z27 (y:=((R.bs.length-R.at_:Nat):Int)) ?_ (by rw [w64 (by omega) (by omega)];omega);exact ze ⟨rfl,rfl,z1f R hb hs⟩
theorem z8i (e:Int) [hf:Fo l (rdP T.a65) p R r] (hs:Sat w l):Ret P F.a227 #[.pointer (some ⟨p,0,none⟩),.int .i64 e] w λvs w'=>vs=[]/\Sat w' (rdP T.a65 p (R.fail e)::r) :=
 ztd _ e <| by
  delta z099 AR AS Aa Ab Ac Ao Az;obtain ⟨x,hb,hs⟩:=z2i (hs.perm hf.perm);refine zf (z8 hs ?_);refine zj (λ_ w'=>Sat w' (rdP T.a65 p (R.fail e)::r)) ?_ (by rintro _ w' hs;refine zh ?_;exact ⟨rfl,rfl,hs⟩);refine zi (λh=>?_) λh=>?_
  ·refine zf (zy hs λw' hs=>?_);refine zg ?_
   have e1:R.fail e=⟨R.bs,R.at_,e⟩:=by unfold RdM.fail;rw [if_pos h]
   rw [e1];exact z1f ⟨R.bs,R.at_,e⟩ hb hs
  ·have e1:R.fail e=R:=by unfold RdM.fail;rw [if_neg h]
   rw [e1];exact zg (z1f R hb hs)
theorem zut [hf:Fo l (rdP T.a65) p R r] (he:R.e=0) (hs:Sat w l):Ret P F.a230 #[.pointer (some ⟨p,0,none⟩)] w λvs w'=>vs=[.int .u64 ((R.uint.1:Nat):Int)]/\Sat w' (rdP T.a65 p R.uint.2::r) :=
 ztg _ <| by
  delta z09c AC AE AN AR AS AY Aa Ab Ac Ad Ak Al Am An Ao Av Az Bg Bh;have hs:=hs.perm hf.perm;refine zj (λ_ w'=>z49 0 (R.bs.drop R.at_)=none/\Sat w' (rdP T.a65 p R::r)) ?_ ?_;rotate_left
  ·rintro _ w' ⟨hno,hs⟩;refine zh (zb (z8i (p:=p) 6 hs) λ_ _ hs=>?_);obtain ⟨rfl,hs⟩:=hs;refine zd ?_
   have e1:R.uint=(0,R.fail 6):=by unfold RdM.uint RdM.fail;rw [if_neg (by rw [he];simp),hno,if_pos he]
   rw [e1];exact ⟨rfl,rfl,hs⟩
  refine z0a (λk u w=>∃ i n:Nat,u=((n:Int),(i:Int),())/\i<=10/\10-i=k/\n<128 ^ i/\z49 0 (R.bs.drop R.at_)=(z49 i ((R.bs.drop R.at_).drop i)).map (λq=>(n+128 ^ i*q.1,i+q.2))/\Sat w (rdP T.a65 p R::r)) 10
   ⟨0,0,rfl,by omega,rfl,by simp,by simp,hs⟩ ?_
  clear hs;rintro k _ w ⟨i,n,rfl,hi,hk,hn,hnum,hs⟩;refine zh (zi (λhc=>?_) λhc=>?_);rotate_left
  ·refine zm (zg ⟨?_,hs⟩);rw [hnum]
   have:z49 i ((R.bs.drop R.at_).drop i)=none:=by
    cases (R.bs.drop R.at_).drop i with
    | nil=>rfl
    | cons c q=>rw [z9x,if_pos (by omega)]
   rw [this];rfl
  refine zb (zfa (p:=p) hs) λ_ _ hs=>?_;obtain ⟨rfl,hs⟩:=hs;refine zd (zi (λhc2=>?_) λhc2=>?_)
  ·refine zm (zg ⟨?_,hs⟩);rw [hnum,List.drop_drop,List.drop_eq_nil_of_le (by omega)];rfl
  obtain ⟨x,hb,hs⟩:=z2i hs;have hl:=hs.slen x (xs:=R.bs) (enc:=zk)
  have hlt:R.at_+i<R.bs.length:=by omega
  refine zt hs λw' hs=>zf (z8 hs ?_);refine zf (z8 hs ?_);refine z1g hs (xs:=R.bs) (enc:=zk) (R.at_+i) hlt ?_ (by rw [w64 (by omega) (by omega)];omega);rw [List.drop_drop,List.drop_eq_getElem_cons hlt] at hnum;generalize R.bs[R.at_+i]=c at hnum;have hc256:=c.toNat_lt;refine wp_lt (ze ?_)
  have hz:∀ {X:Option (Nat × Nat)},z49 i (c::R.bs.drop (R.at_+i+1))=X->z49 0 (R.bs.drop R.at_)=X.map (λq=>(n+128 ^ i*q.1,i+q.2)):=λ{X} h=>by rw [hnum,h]
  refine zi (λh9=>?_) λh9=>?_
  ·refine zm (zg ⟨?_,z1f R hb hs⟩);refine hz (X:=none) ?_;rw [z9x];rw [if_pos (by right;omega)]
  refine wp_must (by rw [w64 (by omega) (by omega)];omega) ?_
  have h91:i=9->c.toNat<=1:=λe=>by
   apply Nat.le_of_not_lt;intro h;exact h9 ⟨by omega,by omega⟩
  rw [z0gw hn (by omega) (by omega) h91];refine wp_lt (zi (λh128=>?_) λh128=>?_)
  ·refine z27 (y:=((i+1:Nat):Int)) ?_ (by rw [w64 (by omega) (by omega)];omega);refine z0x (10-(i+1)) ?_;have hpos:0<128 ^ i:=Nat.pow_pos (by decide);have hmul:128 ^ i*(c.toNat % 128)<=128 ^ i*127:=Nat.mul_le_mul_left _ (by omega);refine ⟨i+1,_,rfl,by omega,rfl,by rw [Nat.pow_succ];omega,?_,z1f R hb hs⟩;rw [hnum];rw [z9x];rw [if_neg (by omega),if_pos (by omega),List.drop_drop,<- Nat.add_assoc]
   cases z49 (i+1) (R.bs.drop (R.at_+i+1)) with
   | none=>rfl
   | some q =>
    simp only [Option.map_some,Option.some.injEq,Prod.mk.injEq];refine ⟨?_,by omega⟩;rw [Nat.pow_succ,Nat.mul_add,Nat.mul_assoc,Nat.add_assoc]
  refine zi (λh0=>?_) λh0=>?_
  ·refine zm (zg ⟨?_,z1f R hb hs⟩);refine hz (X:=none) ?_;rw [z9x];rw [if_neg (by omega),if_neg (by omega),if_pos (by omega)]
  have hsome:=hz (X:=some (c.toNat,1)) (by rw [z9x,if_neg (by omega),if_neg (by omega),if_neg (by omega)])
  have e1:R.uint=(n+128 ^ i*c.toNat,⟨R.bs,R.at_+(i+1),R.e⟩):=by
   unfold RdM.uint;rw [if_neg (by rw [he];simp),hsome];rfl
  rw [e1];refine zf (z8 hs ?_);refine zf ?_
  have e2:IntKind.wrap .i64 ((R.at_:Int)+IntKind.wrap .i64 ((i:Int)+1))=((R.at_+(i+1):Nat):Int):=by rw [w64 (x:=(i:Int)+1) (by omega) (by omega),w64 (by omega) (by omega)];omega
  rw [e2];refine zy hs λw' hs=>wp_lt (zm (zm ⟨rfl,?_,z1f ⟨R.bs,R.at_+(i+1),R.e⟩ ⟨by show R.at_+(i+1)<=R.bs.length;omega,hb.2⟩ hs⟩));rw [show c.toNat % 128=c.toNat by omega]
theorem zeu [hf:Fo l (rdP T.a65) p R r] (hs:Sat w l):Ret P F.a224 #[.pointer (some ⟨p,0,none⟩)] w λvs w'=>vs=[.bool (decide (R.e=0))]/\Sat w' (rdP T.a65 p R::r) :=
 zta _ <| by
  delta z096 AD Ab Ah Aj;obtain ⟨x,hb,hs⟩:=z2i (hs.perm hf.perm);refine z04 (z8 hs ?_);refine wp_lt ⟨rfl,?_,z1f R hb hs⟩
  by_cases h:R.e=0 <;> simp [h]
theorem zuz [hf:Fo l (rdP T.a65) p R r] (hs:Sat w l):Ret P F.a222 #[.pointer (some ⟨p,0,none⟩)] w λvs w'=>vs=[.int .u64 ((R.uint.1:Nat):Int)]/\Sat w' (rdP T.a65 p R.uint.2::r) :=
 zt8 _ <| by
  delta z094 AA AY Aa Ab Ad Ao Ar Bs;refine zb (zeu (p:=p) hs) λ_ _ hs=>?_;obtain ⟨rfl,hs⟩:=hs;refine zd (zi (λh=>?_) λh=>?_)
  ·have h:R.e≠0:=by simpa using h
   have e1:R.uint=(0,R):=by unfold RdM.uint;rw [if_pos h]
   rw [e1];exact ⟨rfl,rfl,hs⟩
  ·have h:R.e=0:=by simpa using h
   refine zf (zb (zut (p:=p) h hs) λ_ _ hs=>?_);obtain ⟨rfl,hs⟩:=hs;refine zd (wp_lt ?_);exact ⟨rfl,rfl,hs⟩
theorem z0d8 [hf:Fo l (rdP T.a65) p R r] (hs:Sat w l):Ret P F.a218 #[.pointer (some ⟨p,0,none⟩)] w λvs w'=>vs=[.int .i64 R.e]/\Sat w' (rdP T.a65 p R::r) :=
 zt4 _ <| by
  delta z090 AR Aa Ab Ac Al Ao;obtain ⟨x,hb,hs⟩:=z2i (hs.perm hf.perm);refine z06 ?_ (by simp);refine zf (z8 hs ?_);exact wp_lt ⟨rfl,rfl,z1f R hb hs⟩
theorem z0d7 [hf:Fo l (rdP T.a65) p R r] (hs:Sat w l):Ret P F.a217 #[.pointer (some ⟨p,0,none⟩)] w λvs w'=>vs=[.int .i64 R.done.e]/\Sat w' (rdP T.a65 p R.done::r) :=
 zt3 _ <| by
  delta z08z AR Aa Ab Ac Al Am An Ao Ar Az;refine z06 ?_ (by simp);refine zf (zb (zfa (p:=p) hs) λ_ _ hs=>?_);obtain ⟨rfl,hs⟩:=hs;refine zd (zj (λ_ w'=>Sat w' (rdP T.a65 p R.done::r)) ?_ ?_)
  ·unfold RdM.done;refine zi (λh=>?_) λh=>?_
   ·rw [if_pos (by omega)];refine zf (zb (z8i (p:=p) 6 hs) λ_ _ hs=>?_);obtain ⟨rfl,hs⟩:=hs;exact zd (zg hs)
   ·rw [if_neg (by omega)];exact zg hs
  clear hs;rintro _ w hs;refine zh ?_;obtain ⟨x,hb,hs⟩:=z2i hs;refine zf (z8 hs ?_);exact wp_lt ⟨rfl,rfl,z1f R.done hb hs⟩
end
theorem z0gm {n:Int} (h:0<=n/\n<9223372036854775808):IntKind.wrap .u64 n=((n.toNat:Nat):Int):=by
 obtain ⟨m,rfl⟩:=Int.eq_ofNat_of_zero_le h.1;show IntKind.wrap .u64 ((m:Nat):Int)=_;rw [zjt];omega
def uI (n:Int):List UInt8:=z3y n.toNat
theorem z1y (n:Int):0<(uI n).length/\(uI n).length<=10:=za2 _
section
variable {w:World} {l r:List HP} {Q:Post} {S:World->Prop}
theorem z5o (n:Int) (hn:0<=n/\n<9223372036854775808) (hs:Sat w l):Ret P F.a226 #[.int .u64 (IntKind.wrap .u64 n)] w λvs w'=>∃ z:Sl,vs=[z.v]/\Sat w' (slc T.a63 1 z ((uI n).flatMap zk)::l):=by
 rw [z0gm hn];exact zl1 n.toNat (by omega) hs
theorem z061 (x a b c:Sl) (aa bs cs:List UInt8) [hx:FocR l x 1 ([a,b,c].flatMap z0h)] [ha:FocR l a 1 (aa.flatMap zk)] [hb:FocR l b 1 (bs.flatMap zk)] [hc:FocR l c 1 (cs.flatMap zk)] (hn:aa.length+bs.length+cs.length<=1000000000) (hs:Sat w l) :
  Ret P F.a214 #[x.v] w λvs w'=>∃ z:Sl,vs=[z.v]/\Sat w' (slc T.a63 1 z ((aa++(bs++cs)).flatMap zk)::l):=by
 have:=@zku w l x [(a,aa),(b,bs),(c,cs)] hx (by
  intro p hp
  rcases List.mem_cons.1 hp with rfl|hp
  ·exact ha
  rcases List.mem_cons.1 hp with rfl|hp
  ·exact hb
  ·rw [List.mem_singleton.1 hp];exact hc) (by simp) (by simp;omega) hs
 simpa using this
theorem z062 (x a b c d:Sl) (aa bs cs ds:List UInt8) [hx:FocR l x 1 ([a,b,c,d].flatMap z0h)] [ha:FocR l a 1 (aa.flatMap zk)] [hb:FocR l b 1 (bs.flatMap zk)] [hc:FocR l c 1 (cs.flatMap zk)] [hd:FocR l d 1 (ds.flatMap zk)]
  (hn:aa.length+bs.length+cs.length+ds.length<=1000000000) (hs:Sat w l) :
  Ret P F.a214 #[x.v] w λvs w'=>∃ z:Sl,vs=[z.v]/\Sat w' (slc T.a63 1 z ((aa++(bs++(cs++ds))).flatMap zk)::l):=by
 have:=@zku w l x [(a,aa),(b,bs),(c,cs),(d,ds)] hx (by
  intro p hp
  rcases List.mem_cons.1 hp with rfl|hp
  ·exact ha
  rcases List.mem_cons.1 hp with rfl|hp
  ·exact hb
  rcases List.mem_cons.1 hp with rfl|hp
  ·exact hc
  ·rw [List.mem_singleton.1 hp];exact hd) (by simp) (by simp;omega) hs
 simpa using this
theorem zat {P:Program} {t:TypeId} {sz:Nat} {α:Type} {enc:α->List Value} {n:Nat} {ps:Array (Nat × Value)} {el:TypeId} {bytes:Nat} {k:Sl->Prog} (hs:Sat w l) [ht:SlT P t el sz bytes] [hE:EncN enc sz] (xs:List α)
  (h:∀ x w',Sat w' (slc el sz x (xs.flatMap enc)::l)->(k x).wp P S w' Q) (hc:z4e P t n ps=some (el,(xs.flatMap enc).toArray):=by kernel_rfl) (hn:xs.length=n:=by rfl) (hS:∀ w',S w':=by exact λ_=>trivial) :
  (Prog.act (Instr.buildSlice t n ps) sL (u1 k)).wp P S w Q:=zav hs xs hc (λb w' hs=>h _ w' hs) (by simp) hn hS
end
def z5c (R:RdM):List UInt8:=R.bs.drop R.at_
theorem zxa {R:RdM} (hb:R.at_<=R.bs.length) :
  (R.e=0/\R.uint.1<18446744073709551616/\R.uint.2.e=0/\R.uint.2.at_<=R.uint.2.bs.length/\R.uint.2.bs=R.bs/\z5c R=z3y R.uint.1++z5c R.uint.2) \/
  (R.uint.1=0/\R.uint.2.e≠0/\R.uint.2.at_<=R.uint.2.bs.length/\(R.e=0->∀ m z,m<18446744073709551616->z5c R≠z3y m++z)):=by
 unfold RdM.uint z5c
 by_cases h0:R.e=0
 ·rw [if_neg (by rw [h0];simp)]
  cases hn:z49 0 (R.bs.drop R.at_) with
  | none =>
   refine .inr ⟨rfl,(show (6:Int)≠0 by decide),hb,λ_ m z hm he=>?_⟩;rw [he,zm5 hm] at hn;cases hn
  | some p =>
   obtain ⟨v,k⟩:=p;obtain ⟨h1,h2⟩:=zoy hn;have h3:=zow _ _ _ _ hn;rw [List.length_drop] at h3;refine .inl ⟨h0,h2,h0,by show R.at_+k<=R.bs.length;omega,rfl,?_⟩;show R.bs.drop R.at_=z3y v++R.bs.drop (R.at_+k);rw [<- h1,<- List.drop_drop,List.take_append_drop]
 ·rw [if_pos h0];exact .inr ⟨rfl,h0,hb,λh=>absurd h h0⟩
theorem zpe {R:RdM}:(z5c R).length=R.bs.length-R.at_:=by unfold z5c;rw [List.length_drop]
theorem z73 {w:World} {l:List HP} {T':TypeId} {p:Nat} {R:RdM} (hs:Sat w (rdP T' p R::l)):R.at_<=R.bs.length/\R.bs.length<=1000000000:=by
 obtain ⟨x,h,-⟩:=z2i hs;exact h
theorem zvt {R:RdM} (hb:R.at_<=R.bs.length):R.done.e=0↔R.e=0/\z5c R=[]:=by
 have hl:=zpe (R:=R);unfold RdM.done RdM.fail
 by_cases h:R.at_<R.bs.length
 ·rw [if_pos h];constructor
  ·intro h2
   by_cases h3:R.e=0
   ·simp [h3] at h2
   ·simp [h3] at h2
  ·rintro ⟨-,h2⟩;rw [h2] at hl;simp at hl;omega
 ·rw [if_neg h];exact ⟨λh2=>⟨h2,List.length_eq_zero_iff.1 (by omega)⟩,λh2=>h2.1⟩
def zig (n:Int):Nat:=if 0<=n then (2*n).toNat else (-2*n-1).toNat
def zag (m:Nat):Int:=if m % 2=1 then -((m / 2:Nat):Int)-1 else ((m / 2:Nat):Int)
def z64 (n:Int):List UInt8:=z3y (zig n)
theorem z0bq (n:Int):zag (zig n)=n:=by
 unfold zag zig;split <;> split <;> omega
theorem z0br (m:Nat):zig (zag m)=m:=by
 unfold zag zig;split <;> split <;> omega
theorem z02v {n:Int} (h : -9223372036854775808<=n/\n<9223372036854775808):zig n<18446744073709551616:=by
 unfold zig;split <;> omega
theorem zmj (n:Int):0<(z64 n).length/\(z64 n).length<=10:=za2 _
theorem xor_zero (x:BitVec 64):x ^^^ BitVec.ofInt 64 0=x:=by
 have:BitVec.ofInt 64 0=0#64:=by decide
 rw [this,BitVec.xor_zero]
theorem zq7 (x:BitVec 64) {n:Int} (hn:BitVec.ofInt 64 n=BitVec.allOnes 64):(x ^^^ BitVec.ofInt 64 n).toNat=18446744073709551615-x.toNat:=by
 rw [hn,BitVec.xor_allOnes,BitVec.toNat_not]
theorem toNat_ofInt (n:Int):(BitVec.ofInt 64 n).toNat=(n % 18446744073709551616).toNat:=by rw [BitVec.toNat_ofInt];rfl
theorem z9l (n:Int):IntKind.wrap .u64 n=n % 18446744073709551616:=by simp [IntKind.wrap,IntKind.bits,IntKind.signed]
theorem z0c7 {n:Int} (h : -9223372036854775808<=n/\n<9223372036854775808):Int.fdiv n 9223372036854775808=if 0<=n then 0 else -1:=by
 rw [Int.fdiv_eq_ediv_of_nonneg _ (by omega)];split <;> omega
theorem z06c {n:Int} (h : -9223372036854775808<=n/\n<9223372036854775808) :
  (BitVec.toNat (BitVec.ofInt 64 (IntKind.wrap .u64 (IntKind.wrap .u64 n*2)) ^^^ BitVec.ofInt 64 (IntKind.wrap .u64 (Int.fdiv n 9223372036854775808))))=zig n:=by
 rw [z0c7 h,z9l,z9l];unfold zig
 by_cases h0:0<=n
 ·rw [if_pos h0,if_pos h0,z9l,Int.zero_emod,xor_zero,toNat_ofInt];omega
 ·rw [if_neg h0,if_neg h0,zq7 _ (by rw [z9l];decide),toNat_ofInt];omega
theorem z066 {m:Nat} (h:m<18446744073709551616) :
  IntKind.wrap .i64 (((BitVec.toNat (BitVec.ofInt 64 (IntKind.wrap .i64 (Int.fdiv (m:Int) 2)) ^^^ BitVec.ofInt 64 (IntKind.wrap .i64 (0-IntKind.wrap .i64 (IntKind.wrap .u64 (((BitVec.toNat (BitVec.ofInt 64 (m:Int) &&& BitVec.ofInt 64 1):Nat):Int)))))):Nat):Int))=zag m:=by
 have e1:(BitVec.toNat (BitVec.ofInt 64 (m:Int) &&& BitVec.ofInt 64 1))=m % 2:=by
  rw [BitVec.toNat_and,toNat_ofInt,toNat_ofInt]
  have h1:((m:Int) % 18446744073709551616).toNat=m:=by omega
  have h2:((1:Int) % 18446744073709551616).toNat=1:=by decide
  rw [h1,h2,Nat.and_one_is_mod]
 have e2:Int.fdiv (m:Int) 2=((m / 2:Nat):Int):=by rw [Int.fdiv_eq_ediv_of_nonneg _ (by omega)];omega
 rw [e1,e2,z9l,w64 (x:=((m / 2:Nat):Int)) (by omega) (by omega)];unfold zag
 by_cases h0:m % 2=1
 ·rw [if_pos h0,h0]
  have e3:IntKind.wrap .i64 (0-IntKind.wrap .i64 ((((1:Nat):Int)) % 18446744073709551616)) = -1:=by decide
  rw [e3,zq7 _ (by decide),toNat_ofInt]
  have e4:((((m / 2:Nat):Int)) % 18446744073709551616).toNat=m / 2:=by omega
  rw [e4]
  have e5:IntKind.wrap .i64 ((18446744073709551615-m / 2:Nat):Int) = -((m / 2:Nat):Int)-1:=by
   rw [zkz];split <;> omega
  exact e5
 ·rw [if_neg h0]
  have h2:m % 2=0:=by omega
  rw [h2]
  have e3:IntKind.wrap .i64 (0-IntKind.wrap .i64 ((((0:Nat):Int)) % 18446744073709551616))=0:=by decide
  rw [e3,xor_zero,toNat_ofInt]
  have e4:((((m / 2:Nat):Int)) % 18446744073709551616).toNat=m / 2:=by omega
  rw [e4,w64 (by omega) (by omega)]
def RdM.within (R:RdM) (lo hi:Int):Int × RdM :=
 if R.uint.2.e≠0 then (0,R.uint.2) else if zag R.uint.1<lo\/zag R.uint.1>hi then (0,⟨R.bs,R.at_,8⟩) else (zag R.uint.1,R.uint.2)
theorem zq0 {R:RdM} (h:R.e≠0):R.uint=(0,R):=by unfold RdM.uint;rw [if_pos h]
section
variable {w:World} {l r:List HP} {p:Nat} {R:RdM}
theorem z0bp (n:Int) (hn : -9223372036854775808<=n/\n<9223372036854775808) (hs:Sat w l):Ret P F.a213 #[.int .i64 n] w λvs w'=>∃ z:Sl,vs=[z.v]/\Sat w' (slc T.a63 1 z ((z64 n).flatMap zk)::l) :=
 zsz n <| by
  delta z08v AO Ab;unfold z64
  have hz:=z02v hn
  rw [z06c hn]
  generalize zig n=m at hz ⊢
  rw [zjt,Nat.mod_eq_of_lt hz]
  refine zb (zl1 m hz hs) λ_ _ hs=>?_
  obtain ⟨z,rfl,hs⟩:=hs
  refine zd ?_
  exact ⟨rfl,z,rfl,hs⟩
theorem z0d9 [hf:Fo l (rdP T.a65) p R r] (hs:Sat w l):Ret P F.a220 #[.pointer (some ⟨p,0,none⟩)] w λvs w'=>vs=[.int .i64 (zag R.uint.1)]/\Sat w' (rdP T.a65 p R.uint.2::r) :=
 zt6 _ <| by
  delta z092 AY Ab Ac Ad Al Av Bs;have hb:=(z73 (hs.perm hf.perm)).1
  have hlt:R.uint.1<18446744073709551616:=by rcases zxa hb with h|h <;> omega
  refine zb (zuz (p:=p) hs) λ_ _ hs=>?_;obtain ⟨rfl,hs⟩:=hs;refine zd (wp_lt ?_);rw [z066 hlt];exact wp_lt ⟨rfl,rfl,hs⟩
theorem z01t (lo hi:Int) [hf:Fo l (rdP T.a65) p R r] (hs:Sat w l):Ret P F.a223 #[.pointer (some ⟨p,0,none⟩),.int .i64 lo,.int .i64 hi] w λvs w'=>vs=[.int .i64 (R.within lo hi).1]/\Sat w' (rdP T.a65 p (R.within lo hi).2::r) :=
 zt9 _ lo hi <| by
  delta z095 AA AR AS Aa Ab Ac Ad Al Am An Ao Ar Az;have hb0:=z73 (hs.perm hf.perm);refine zb (zeu (p:=p) hs) λ_ _ hs=>?_;obtain ⟨rfl,hs⟩:=hs;refine zd (zi (λh=>?_) λh=>?_)
  ·have h:R.e≠0:=by simpa using h
   unfold RdM.within;rw [zq0 h,if_pos h];exact ⟨rfl,rfl,hs⟩
  have h:R.e=0:=by simpa using h
  obtain ⟨x,hb,hs⟩:=z2i hs;refine zf (z8 hs ?_);refine wp_lt ?_;have hs:Sat _ (rdP T.a65 p R::r):=z1f R hb hs;refine zb (z0d9 (p:=p) hs) λ_ _ hs=>?_;obtain ⟨rfl,hs⟩:=hs;refine zd (wp_lt ?_);have hbs:=zva R;unfold RdM.within;have hb2:=z73 hs;generalize R.uint.1=m at *;generalize R.uint.2=R1 at *;obtain ⟨x,-,hs⟩:=z2i hs;refine zf (z8 hs ?_);refine zj (λ_ w'=>Sat w' (rdP T.a65 p (if R1.e≠0 then R1 else if zag m<lo\/zag m>hi then ⟨R.bs,R.at_,8⟩ else R1)::r)) ?_ ?_
  ·refine zi (λh2=>?_) λh2=>?_
   ·obtain ⟨h3,h4⟩:=h2
    have e:(if R1.e≠0 then R1 else if zag m<lo\/zag m>hi then (⟨R.bs,R.at_,8⟩:RdM) else R1)=⟨R.bs,R.at_,8⟩:=by rw [if_neg (by rw [h3];simp),if_pos h4]
    refine zf (zy hs λw' hs=>?_);refine zf ?_;have hs:Sat w' (rdP T.a65 p ⟨R.bs,R.at_,0⟩::r):=z1f (x:=x) ⟨R.bs,R.at_,0⟩ hb0 (by rw [hbs,h3] at hs;exact hs);refine zb (z8i (p:=p) 8 hs) λ_ w' hs=>?_;obtain ⟨rfl,hs⟩:=hs;refine zd (zg ?_);rw [e];exact hs
   ·refine zg ?_
    have e:(if R1.e≠0 then R1 else if zag m<lo\/zag m>hi then (⟨R.bs,R.at_,8⟩:RdM) else R1)=R1:=by
     by_cases h3:R1.e=0
     ·rw [if_neg (by rw [h3];simp),if_neg (λh4=>h2 ⟨h3,h4⟩)]
     ·rw [if_pos h3]
    rw [e];exact z1f R1 hb2 hs
  clear hs;rintro _ w hs;refine zh ?_
  by_cases h3:R1.e=0
  ·rw [if_neg (by rw [h3];simp)] at hs ⊢
   by_cases h4:zag m<lo\/zag m>hi
   ·rw [if_pos h4] at hs ⊢;obtain ⟨x,-,hs⟩:=z2i hs;refine zf (z8 hs ?_);refine z18 ?_ (by simp);exact ⟨rfl,rfl,z1f ⟨R.bs,R.at_,8⟩ hb0 hs⟩
   ·rw [if_neg h4] at hs ⊢;obtain ⟨x,-,hs⟩:=z2i hs;refine zf (z8 hs ?_);refine z06 ?_ (by rw [h3];simp);exact wp_lt ⟨rfl,rfl,z1f R1 hb2 hs⟩
  ·rw [if_pos h3] at hs ⊢;obtain ⟨x,-,hs⟩:=z2i hs;refine zf (z8 hs ?_);refine z18 ?_ h3;exact ⟨rfl,rfl,z1f R1 hb2 hs⟩
end
abbrev Lf:=Option (List UInt8)
def z0n:Lf->Nat × Lf
 | none=>(0,none)
 | some bs=>match z49 0 bs with
  | none=>(0,none)
  | some p=>(p.1,some (bs.drop p.2))
def z1s (lo hi:Int) (s:Lf):Int × Lf:=match (z0n s).2 with
 | none=>(0,none)
 | some t=>if zag (z0n s).1<lo\/zag (z0n s).1>hi then (0,none) else (zag (z0n s).1,some t)
def z14:Lf->Nat × Lf
 | some (c::t)=>(c.toNat,some t)
 | _=>(0,none)
def z3m:Lf->Bool × Lf
 | some (c::t)=>if c.toNat<=1 then (decide (c.toNat=1),some t) else (false,none)
 | _=>(false,none)
def z1r (most:Nat) (s:Lf):ByteArray × Lf:=match (z0n s).2 with
 | none=>(⟨#[]⟩,none)
 | some t=>if (z0n s).1<=most/\(z0n s).1<=t.length then (⟨(t.take (z0n s).1).toArray⟩,some (t.drop (z0n s).1)) else (⟨#[]⟩,none)
def zq (most:Int) (s:Lf):Int × Lf:=(if ((z0n s).1:Int)>most then most+1 else (z0n s).1,(z0n s).2)
abbrev bl (s:ByteArray):List UInt8:=s.data.toList
theorem z7m {v:Nat} (h:v<18446744073709551616) (t:List UInt8):z0n (some (z3y v++t))=(v,some t):=by
 unfold z0n;simp only [zm5 h,List.drop_left]
theorem z8l {s:Lf} {t:List UInt8} (h:(z0n s).2=some t):(z0n s).1<18446744073709551616/\s=some (z3y (z0n s).1++t):=by
 cases s with
 | none=>cases h
 | some bs =>
  cases hn:z49 0 bs with
  | none =>
   have e:z0n (some bs)=(0,none):=by unfold z0n;simp only [hn]
   rw [e] at h;cases h
  | some p =>
   obtain ⟨v,k⟩:=p
   have e:z0n (some bs)=(v,some (bs.drop k)):=by unfold z0n;simp only [hn]
   rw [e] at h ⊢;obtain ⟨h1,h2⟩:=zoy hn;simp only [Option.some.injEq] at h ⊢;subst h;exact ⟨h2,by rw [<- h1,List.take_append_drop]⟩
theorem zq1 {lo hi n:Int} (h1:lo<=n) (h2:n<=hi) (hn : -9223372036854775808<=n/\n<9223372036854775808) (t:List UInt8):z1s lo hi (some (z64 n++t))=(n,some t):=by
 unfold z1s z64;simp only [z7m (z02v hn),z0bq];rw [if_neg (by omega)]
theorem zqo {lo hi:Int} {s:Lf} {t:List UInt8} (h:(z1s lo hi s).2=some t):(lo<=(z1s lo hi s).1/\(z1s lo hi s).1<=hi)/\s=some (z64 (z1s lo hi s).1++t):=by
 unfold z1s at h ⊢
 cases hu:(z0n s).2 with
 | none=>rw [hu] at h;cases h
 | some t' =>
  have h2:=z8l hu;rw [hu] at h;simp only at h ⊢;split at h
  ·cases h
  rename_i h3
  simp only [Option.some.injEq] at h;subst h;rw [if_neg h3];refine ⟨by omega,?_⟩;unfold z64;rw [z0br];exact h2.2
theorem zek {s:Lf} {t:List UInt8} (h:(z14 s).2=some t):(z14 s).1<256/\s=some (UInt8.ofNat (z14 s).1::t):=by
 match s,h with
 | some (c::r),h =>
  have h:some r=some t:=h;cases h;refine ⟨c.toNat_lt,?_⟩;show some (c::t)=some (UInt8.ofNat c.toNat::t);rw [UInt8.ofNat_toNat]
 | some [],h=>cases h
 | none,h=>cases h
def z1q (b:Bool):UInt8:=if b then 1 else 0
theorem zip (b:Bool) (t:List UInt8):z3m (some (z1q b::t))=(b,some t):=by
 cases b <;> rfl
theorem z00l {s:Lf} {t:List UInt8} (h:(z3m s).2=some t):s=some (z1q (z3m s).1::t):=by
 match s,h with
 | some (c::r),h =>
  unfold z3m at h ⊢;simp only at h ⊢;split at h
  ·rename_i h1
   simp only [Option.some.injEq] at h;subst h;rw [if_pos h1]
   congr 2
   by_cases h2:c.toNat=1
   ·rw [decide_eq_true h2];exact UInt8.toNat_inj.1 h2
   ·rw [decide_eq_false h2];exact UInt8.toNat_inj.1 (by show c.toNat=0;omega)
  ·cases h
 | some [],h=>cases h
 | none,h=>cases h
theorem z10 (s:ByteArray):(bl s).length=s.size:=rfl
theorem zbt (l:List UInt8):bl ⟨l.toArray⟩=l:=by simp [bl]
theorem zcl {a b:ByteArray} (h:bl a=bl b):a=b:=by
 cases a;cases b;exact congrArg ByteArray.mk (Array.ext' h)
theorem zjl {most:Nat} (x:ByteArray) (h:x.size<=most) (hm:most<4294967296) (t:List UInt8):z1r most (some (uI x.size++(bl x++t)))=(x,some t):=by
 unfold z1r uI
 have e:((x.size:Int)).toNat=x.size:=by omega
 rw [e];simp only [z7m (show x.size<18446744073709551616 by omega)];rw [if_pos ⟨h,by rw [List.length_append,z10];omega⟩,<- z10,List.take_left,List.drop_left]
theorem zmr {most:Nat} {s:Lf} {t:List UInt8} (h:(z1r most s).2=some t):(z1r most s).1.size<=most/\s=some (uI (z1r most s).1.size++(bl (z1r most s).1++t)):=by
 unfold z1r at h ⊢
 cases hu:(z0n s).2 with
 | none=>rw [hu] at h;cases h
 | some t' =>
  have h2:=z8l hu;rw [hu] at h;simp only at h ⊢;split at h;rotate_left
  ·cases h
  rename_i h3
  simp only [Option.some.injEq] at h;subst h;rw [if_pos h3]
  have e:(ByteArray.mk (t'.take (z0n s).1).toArray).size=(z0n s).1:=by
   show (t'.take (z0n s).1).length=_;rw [List.length_take];omega
  refine ⟨by rw [e];exact h3.1,?_⟩;rw [e,zbt,List.take_append_drop];unfold uI;exact h2.2
theorem z65 {most n:Int} (h0:0<=n) (hn:n<=most) (hm:most<9223372036854775808) (t:List UInt8):zq most (some (uI n++t))=(n,some t):=by
 unfold zq uI;rw [z7m (by omega),if_neg (by simp only;omega)]
 congr 1
 simp only;omega
theorem z78 {most:Int} (hm:0<=most) {s:Lf} {t:List UInt8} (h:(zq most s).2=some t):(0<=(zq most s).1/\(zq most s).1<=most+1)/\((zq most s).1<=most->s=some (uI (zq most s).1++t)):=by
 have h2:=z8l (show (z0n s).2=some t from h);unfold zq;simp only;split
 ·exact ⟨⟨by omega,by omega⟩,λh3=>absurd h3 (by omega)⟩
 ·refine ⟨⟨by omega,by omega⟩,λh3=>?_⟩;unfold uI;rw [Int.toNat_natCast];exact h2.2
def z0q:List UInt8->List UInt8->Nat
 | a::x,b::y=>if a=b then z0q x y+1 else 0
 | _,_=>0
theorem zbs:∀ x y:List UInt8,z0q x y<=x.length/\z0q x y<=y.length
 | [],_=>by simp [z0q]
 | _::_,[]=>by simp [z0q]
 | a::x,b::y=>by
  have:=zbs x y;unfold z0q;split <;> simp <;> omega
theorem zgg:∀ x y:List UInt8,x.take (z0q x y)=y.take (z0q x y)
 | [],_=>by simp [z0q]
 | _::_,[]=>by simp [z0q]
 | a::x,b::y=>by
  unfold z0q;split
  ·rename_i h
   rw [List.take_succ_cons,List.take_succ_cons,h,zgg x y]
  ·rfl
theorem zeh:∀ {x y:List UInt8} {i:Nat} (h1:i<=x.length) (h2:i<=y.length),x.take i=y.take i->(i=x.length\/i=y.length\/x[i]? ≠ y[i]?)->z0q x y=i
 | [],y,i,h1,h2,_,_=>by simp at h1;simp [z0q,h1]
 | _::_,[],i,h1,h2,_,_=>by simp at h2;simp [z0q,h2]
 | a::x,b::y,0,_,_,_,h=>by
  unfold z0q;rw [if_neg];rintro rfl
  rcases h with h|h|h
  ·simp at h
  ·simp at h
  ·simp at h
 | a::x,b::y,i+1,h1,h2,ht,h=>by
  rw [List.take_succ_cons,List.take_succ_cons,List.cons.injEq] at ht;unfold z0q;rw [if_pos ht.1,zeh (by simpa using h1) (by simpa using h2) ht.2]
  rcases h with h|h|h
  ·left;simpa using h
  ·right;left;simpa using h
  ·right;right;simpa using h
def z80 (ahead key:ByteArray):List UInt8:=uI (key.size-z0q (bl ahead) (bl key):Nat)++(bl key).drop (z0q (bl ahead) (bl key))
def z75 (time:Int) (ahead:ByteArray) (r:RecM):List UInt8 :=
 z64 (r.time-time)++(z1q r.gone::(uI (z0q (bl ahead) (bl r.key):Nat)++(z80 ahead r.key++if r.gone then [] else uI r.value.size++bl r.value)))
def z2w (time:Int):ByteArray->List RecM->List UInt8
 | _,[]=>[]
 | ahead,r::rs=>z75 time ahead r++z2w time r.key rs
def z2y (b:BatM):List UInt8 :=
 1::UInt8.ofNat b.kind.toNat::(uI b.base++(uI b.pid++((if b.pid>0 then uI b.epoch++(if z0i b then [] else uI b.seq) else [])++(uI b.time++if z0i b then [] else uI b.rs.length++z2w b.time ⟨#[]⟩ b.rs))))
def BatM.p (b:BatM):BatM:={ b with x:=⟨none,0,0⟩ }
def z5j (ahead:ByteArray) (n:Int) (rest:ByteArray):ByteArray:=ahead.extract 0 n.toNat++rest
def z3v (time:Int) (ahead:ByteArray) (s:Lf):Option RecM × Lf :=
 if (zq 1024 (z3m (z1s (-1099511627776) 1099511627776 s).2).2).1>ahead.size then (none,(z1r 1024 (zq 1024 (z3m (z1s (-1099511627776) 1099511627776 s).2).2).2).2) else
 let a:=z1s (-1099511627776) 1099511627776 s
 let b:=z3m a.2
 let c:=zq 1024 b.2
 let d:=z1r 1024 c.2
 let e:=if b.1 then (⟨#[]⟩,d.2) else z1r 1024 d.2
 if e.2.isSome=true/\(z0q (bl ahead) (bl (z5j ahead c.1 d.1)):Int)=c.1 then (some ⟨z5j ahead c.1 d.1,e.1,b.1,time+a.1⟩,e.2) else (none,e.2)
def z58 (time:Int):Nat->ByteArray->Lf->Option (List RecM × Lf)
 | 0,_,s=>some ([],s)
 | n+1,ahead,s=>match (z3v time ahead s).1 with
  | none=>none
  | some x=>(z58 time n x.key (z3v time ahead s).2).map λq=>(x::q.1,q.2)
theorem ztq (ahead rest:ByteArray) (n:Int):bl (z5j ahead n rest)=(bl ahead).take n.toNat++bl rest:=by
 unfold z5j bl;simp [List.extract_eq_take_drop]
theorem z00x (ahead key:ByteArray):z5j ahead (z0q (bl ahead) (bl key):Nat) ⟨((bl key).drop (z0q (bl ahead) (bl key))).toArray⟩=key:=by
 apply zcl;rw [ztq,zbt,Int.toNat_natCast,zgg,List.take_append_drop]
theorem z5t {r:RecM} (h:z20 r=0):r.key.size<=1024/\r.value.size<=1024/\(0<=r.time/\r.time<=1099511627776)/\(r.gone=true->r.value=⟨#[]⟩):=by
 unfold z20 at h;split at h
 ·cases h
 rename_i h1
 split at h
 ·cases h
 rename_i h2
 refine ⟨by omega,by omega,by omega,λhg=>?_⟩;apply Decidable.byContradiction;intro h3;exact h2 (.inr ⟨hg,zpp.2 h3⟩)
theorem zww {time:Int} (ht:0<=time/\time<=1099511627776) {r:RecM} (hr:z20 r=0) (ahead:ByteArray) (t:List UInt8):z3v time ahead (some (z75 time ahead r++t))=(some r,some t):=by
 obtain ⟨h1,h2,h3,h4⟩:=z5t hr;have hle:=zbs (bl ahead) (bl r.key);rw [z10,z10] at hle
 have hd:(ByteArray.mk ((bl r.key).drop (z0q (bl ahead) (bl r.key))).toArray).size=r.key.size-z0q (bl ahead) (bl r.key):=by
  show ((bl r.key).drop _).length=_;rw [List.length_drop,z10]
 have e0:z75 time ahead r++t=z64 (r.time-time)++(z1q r.gone::(uI (z0q (bl ahead) (bl r.key):Nat)++(uI ((ByteArray.mk ((bl r.key).drop (z0q (bl ahead) (bl r.key))).toArray).size:Nat)++(bl (ByteArray.mk ((bl r.key).drop (z0q (bl ahead) (bl r.key))).toArray)++((if r.gone then [] else uI r.value.size++bl r.value)++t))))):=by
  rw [hd,zbt];unfold z75 z80;simp only [List.append_assoc,List.cons_append]
 rw [e0];generalize hZ:(if r.gone then [] else uI r.value.size++bl r.value)++t=Z;have e1:=zq1 (lo := -1099511627776) (hi:=1099511627776) (n:=r.time-time) (by omega) (by omega) (by omega);have e3:=z65 (most:=1024) (n:=(z0q (bl ahead) (bl r.key):Nat)) (by omega) (by omega) (by omega);have e4:=zjl (most:=1024) (ByteArray.mk ((bl r.key).drop (z0q (bl ahead) (bl r.key))).toArray) (by rw [hd];omega) (by omega);unfold z3v;simp only [e1,zip,e3,e4,z00x];rw [if_neg (by omega)]
 have e5:(if r.gone=true then ((⟨#[]⟩:ByteArray),some Z) else z1r 1024 (some Z))=(r.value,some t):=by
  by_cases hg:r.gone=true
  ·rw [if_pos hg] at hZ ⊢;rw [h4 hg,<- hZ];rfl
  ·rw [if_neg hg] at hZ ⊢;rw [<- hZ,List.append_assoc];exact zjl _ h2 (by omega) t
 rw [e5];simp only [Option.isSome_some,true_and];rw [if_pos trivial,show time+(r.time-time)=r.time by omega]
theorem z01q {time:Int} {ahead:ByteArray} (hah:ahead.size<=1024) {s:Lf} {r:RecM} (h:(z3v time ahead s).1=some r):∃ t,(z3v time ahead s).2=some t/\s=some (z75 time ahead r++t):=by
 unfold z3v at h ⊢;split at h
 ·cases h
 rename_i hc
 rw [if_neg hc];simp only at h ⊢;generalize ha:z1s (-1099511627776) 1099511627776 s=a at *;generalize hb:z3m a.2=b at *;generalize hcc:zq 1024 b.2=c at *;generalize hd:z1r 1024 c.2=d at *;generalize he:(if b.1=true then ((⟨#[]⟩:ByteArray),d.2) else z1r 1024 d.2)=e at *;split at h;rotate_left
 ·cases h
 rename_i h5
 rw [if_pos h5];obtain ⟨h5,h6⟩:=h5;obtain ⟨t,ht⟩:=Option.isSome_iff_exists.1 h5;refine ⟨t,ht,?_⟩;simp only [Option.some.injEq] at h
 have hd2:d.2=some ((if b.1=true then [] else uI e.1.size++bl e.1)++t):=by
  by_cases hg:b.1=true
  ·rw [if_pos hg] at he ⊢;rw [<- he] at ht;exact ht
  ·rw [if_neg hg] at he ⊢;rw [<- he] at ht ⊢;rw [List.append_assoc];exact (zmr ht).2
 rw [<- hd] at hd2;have h7:=zmr hd2;rw [hd] at h7;have hc2:c.2=_:=h7.2;rw [<- hcc] at hc2;have h8:=z78 (by omega) hc2;rw [hcc] at h8;have hle:=zbs (bl ahead) (bl (z5j ahead c.1 d.1));have hb2:=h8.2 (by omega);rw [<- hb] at hb2;have ha2:=z00l hb2;rw [hb,<- ha] at ha2;have h9:=zqo ha2;rw [ha] at h9;rw [h9.2,<- h];unfold z75 z80;simp only
 have hn:c.1.toNat=z0q (bl ahead) (bl (z5j ahead c.1 d.1)):=by omega
 have hl1:((bl ahead).take c.1.toNat).length=c.1.toNat:=by rw [List.length_take,hn];omega
 have hdrop:(bl (z5j ahead c.1 d.1)).drop c.1.toNat=bl d.1:=by
  rw [ztq];exact List.drop_left' hl1
 have hsz:(z5j ahead c.1 d.1).size-c.1.toNat=d.1.size:=by
  rw [<- z10,<- z10,<- hdrop,List.length_drop]
 rw [<- hn,hdrop,hsz,show time+a.1-time=a.1 by omega,show ((c.1.toNat:Nat):Int)=c.1 by omega];simp only [List.append_assoc,List.cons_append]
theorem zja {time:Int} (ht:0<=time/\time<=1099511627776):∀ {rs:List RecM} (hr:∀ r ∈ rs,z20 r=0) (ahead:ByteArray) (t:List UInt8),z58 time rs.length ahead (some (z2w time ahead rs++t))=some (rs,some t)
 | [],_,_,_=>rfl
 | r::rs,hr,ahead,t=>by
  have e:=zww ht (hr r (List.mem_cons_self ..)) ahead (z2w time r.key rs++t);show z58 time (rs.length+1) ahead (some ((z75 time ahead r++z2w time r.key rs)++t))=_;rw [List.append_assoc];unfold z58;rw [e];simp only;rw [zja ht (λx hx=>hr x (List.mem_cons_of_mem _ hx)) r.key t];rfl
theorem zmd {time:Int}:∀ {n:Nat} {ahead:ByteArray} (hah:ahead.size<=1024) {s:Lf} {rs:List RecM} {t:List UInt8} (hk:∀ r ∈ rs,r.key.size<=1024) (h:z58 time n ahead s=some (rs,some t)),rs.length=n/\s=some (z2w time ahead rs++t)
 | 0,ahead,hah,s,rs,t,hk,h=>by
  simp only [z58,Option.some.injEq,Prod.mk.injEq] at h;obtain ⟨rfl,rfl⟩:=h;exact ⟨rfl,rfl⟩
 | n+1,ahead,hah,s,rs,t,hk,h=>by
  unfold z58 at h
  cases hx:(z3v time ahead s).1 with
  | none=>rw [hx] at h;cases h
  | some x =>
   rw [hx] at h;simp only [Option.map_eq_some_iff,Prod.mk.injEq] at h;obtain ⟨⟨rs',s'⟩,h1,rfl,rfl⟩:=h;obtain ⟨t1,h2,h3⟩:=z01q hah hx;rw [h2] at h1;have hk1:x.key.size<=1024:=hk x (List.mem_cons_self ..);obtain ⟨h4,h5⟩:=zmd hk1 (λr hr=>hk r (List.mem_cons_of_mem _ hr)) h1;simp only [Option.some.injEq] at h5;refine ⟨by rw [List.length_cons,h4],?_⟩;rw [h3,h5];show some (z75 time ahead x++(z2w time x.key rs'++t))=some ((z75 time ahead x++z2w time x.key rs')++t);rw [List.append_assoc]
def z9b:Sl:=⟨none,0,0⟩
structure HdS where
 k:Nat × Lf
 ba:Int × Lf
 pi:Int × Lf
 ep:Int × Lf
 sq:Int × Lf
 tm:Int × Lf
def z3p (k:Nat):Bool:=decide ((k:Int)=2) || decide ((k:Int)=3)
def hdS (s:Lf):HdS :=
 let k:=z14 s
 let ba:=zq 1099511627776 k.2
 let pi:=zq 1048576 ba.2
 let ep:=if pi.1>0 then zq 32767 pi.2 else (0,pi.2)
 let sq:=if pi.1>0/\z3p k.1=false then zq 2147483647 ep.2 else (0,ep.2)
 ⟨k,ba,pi,ep,sq,zq 1099511627776 sq.2⟩
def HdS.b (h:HdS) (rs:List RecM):BatM:=⟨h.ba.1,h.pi.1,h.ep.1,h.sq.1,h.k.1,h.tm.1,z9b,rs⟩
def znt (h:HdS):Option BatM :=
 if h.tm.2.isSome=false\/h.tm.1>1099511627776 then none else
 if z3p h.k.1=true then (if h.tm.2=some []/\z02 (h.b [])=0 then some (h.b []) else none) else
 if (zq 64 h.tm.2).1>64 then none else
 match z58 h.tm.1 (zq 64 h.tm.2).1.toNat ⟨#[]⟩ (zq 64 h.tm.2).2 with
 | none=>none
 | some q=>if q.2=some []/\z02 (h.b q.1)=0 then some (h.b q.1) else none
def z6r (raw:List UInt8):Option BatM:=if (z14 (some raw)).1≠1 then none else znt (hdS (z14 (some raw)).2)
theorem znq:∀ {rs:List RecM},z5d rs=0->∀ r ∈ rs,z20 r=0
 | [],_,r,h=>by cases h
 | x::rs,h,r,hr=>by
  have h:(if z20 x≠0 then z20 x else z5d rs)=0:=h
  by_cases hx:z20 x≠0
  ·rw [if_pos hx] at h;exact absurd h hx
  rw [if_neg hx] at h
  rcases List.mem_cons.1 hr with rfl|hr
  ·exact Decidable.not_not.1 hx
  ·exact znq h r hr
theorem z2x {b:BatM} (hv:z02 b=0):b.rs.length<=64/\∀ r ∈ b.rs,z20 r=0:=by
 unfold z02 at hv;split at hv
 ·cases hv
 split at hv
 ·cases hv
 rename_i h2
 split at hv
 ·rename_i h3;exact absurd hv h3
 rename_i h3
 exact ⟨by omega,znq (Decidable.not_not.1 h3)⟩
theorem zuf {b:BatM} (h:0<=b.kind):z3p b.kind.toNat=z0i b:=by
 unfold z3p z0i;rw [Int.toNat_of_nonneg h]
theorem z03j {b:BatM} (hv:z02 b=0):∃ s1 s2 s3 s4 s5,hdS (z14 (some (z2y b))).2=⟨(b.kind.toNat,s1),(b.base,s2),(b.pid,s3),(b.epoch,s4),(b.seq,s5),(b.time,some (if z0i b then [] else uI b.rs.length++z2w b.time ⟨#[]⟩ b.rs))⟩:=by
 obtain ⟨-,-,⟨hk,hba,hpi,hep,hsq,htm⟩,hfit,-⟩:=z1d b hv;unfold z2y;generalize hY:(if z0i b then [] else uI b.rs.length++z2w b.time ⟨#[]⟩ b.rs)=Y
 have e1:∀ t,z14 (some (UInt8.ofNat b.kind.toNat::t))=(b.kind.toNat,some t):=λt=>by
  show ((UInt8.ofNat b.kind.toNat).toNat,some t)=_;rw [UInt8.toNat_ofNat']
  congr 1
  omega
 have e2:=z65 (most:=1099511627776) (n:=b.base) hba.1 hba.2 (by omega);have e3:=z65 (most:=1048576) (n:=b.pid) hpi.1 hpi.2 (by omega);have e4:=z65 (most:=32767) (n:=b.epoch) hep.1 hep.2 (by omega);have e5:=z65 (most:=2147483647) (n:=b.seq) hsq.1 hsq.2 (by omega);have e6:=z65 (most:=1099511627776) (n:=b.time) htm.1 htm.2 (by omega);show ∃ s1 s2 s3 s4 s5,hdS (some (UInt8.ofNat b.kind.toNat::_))=_;unfold hdS;simp only [e1,e2,e3,zuf hk.1]
 by_cases hp:b.pid>0
 ·rw [if_pos hp,if_pos hp]
  by_cases hm:z0i b=true
  ·have hs0:b.seq=0:=by have:=hfit.2;rw [if_pos hm] at this;exact this.1
   simp only [hm,if_true,Bool.true_eq_false,and_false,if_false,List.append_nil,List.append_assoc,e4,e6];exact ⟨_,_,_,_,_,by rw [hs0]⟩
  ·have hm:z0i b=false:=by simpa using hm
   simp only [hm,hp,Bool.false_eq_true,and_self,if_true,if_false,List.append_assoc,e4,e5,e6];exact ⟨_,_,_,_,_,rfl⟩
 ·have h0:b.pid=0:=by omega
  have hz:b.kind=0/\b.epoch=0/\b.seq=0:=by
   have:=hfit.1;refine ⟨?_,?_,?_⟩ <;> (apply Decidable.byContradiction;intro h;apply this;simp [h0,h])
  rw [if_neg hp,if_neg hp,if_neg (λh=>hp h.1)];simp only [List.nil_append,e6];exact ⟨_,_,_,_,_,by rw [hz.2.1,hz.2.2]⟩
theorem zlb {b:BatM} (hv:z02 b=0):z6r (z2y b)=some b.p:=by
 obtain ⟨s1,s2,s3,s4,s5,h⟩:=z03j hv;obtain ⟨-,-,⟨hk,hba,hpi,hep,hsq,htm⟩,hfit,-⟩:=z1d b hv;obtain ⟨h64,hrs⟩:=z2x hv
 have hb:∀ rs,(HdS.mk (b.kind.toNat,s1) (b.base,s2) (b.pid,s3) (b.epoch,s4) (b.seq,s5) (b.time,some (if z0i b then [] else uI b.rs.length++z2w b.time ⟨#[]⟩ b.rs))).b rs={ b.p with rs:=rs }:=λrs=>by
  unfold HdS.b BatM.p;simp only [Int.toNat_of_nonneg hk.1];rfl
 unfold z6r;rw [h,if_neg (by show ¬ ((1:Nat)≠1);simp)];unfold znt;rw [if_neg (by simp only [Option.isSome_some];rintro (h|h);cases h;omega)];simp only [hb,zuf hk.1]
 by_cases hm:z0i b=true
 ·have h0:b.rs=[]:=by have:=hfit.2;rw [if_pos hm] at this;exact List.length_eq_zero_iff.1 this.2
  rw [if_pos hm,if_pos hm]
  have e:{ b.p with rs:=[] }=b.p:=by rw [<- h0];rfl
  rw [e,if_pos ⟨rfl,hv⟩]
 ·have e1:=z65 (most:=64) (n:=(b.rs.length:Int)) (by omega) (by omega) (by omega) (z2w b.time ⟨#[]⟩ b.rs);have e2:=zja htm hrs ⟨#[]⟩ [];rw [List.append_nil] at e2;rw [if_neg hm,if_neg hm];simp only [e1,Int.toNat_natCast,e2];rw [if_neg (by omega),if_pos (by first|exact ⟨rfl,hv⟩|exact ⟨trivial,hv⟩)];rfl
theorem zu1 {s:Lf} {t:List UInt8} (h:(hdS s).tm.2=some t) (htm:(hdS s).tm.1<=1099511627776) {rs:List RecM} (hv:z02 ((hdS s).b rs)=0) :
  s=some (UInt8.ofNat ((hdS s).b rs).kind.toNat::(uI ((hdS s).b rs).base++(uI ((hdS s).b rs).pid++((if ((hdS s).b rs).pid>0 then uI ((hdS s).b rs).epoch++(if z0i ((hdS s).b rs) then [] else uI ((hdS s).b rs).seq) else [])++(uI ((hdS s).b rs).time++t))))):=by
 obtain ⟨-,-,⟨hk,hba,hpi,hep,hsq,-⟩,hfit,-⟩:=z1d _ hv;unfold hdS at *;unfold HdS.b at *;simp only at *;generalize e1:z14 s=k at *;generalize e2:zq 1099511627776 k.2=ba at *;generalize e3:zq 1048576 ba.2=pi at *;generalize e4:(if pi.1>0 then zq 32767 pi.2 else (0,pi.2))=ep at *;generalize e5:(if pi.1>0/\z3p k.1=false then zq 2147483647 ep.2 else (0,ep.2))=sq at *;have hmk:z0i (⟨ba.1,pi.1,ep.1,sq.1,k.1,(zq 1099511627776 sq.2).1,z9b,rs⟩:BatM)=z3p k.1:=rfl;have h6:=(z78 (by omega) h).2 htm
 have h5:ep.2=some ((if pi.1>0/\z3p k.1=false then uI sq.1 else [])++(uI (zq 1099511627776 sq.2).1++t)):=by
  generalize (zq 1099511627776 sq.2).1=tm at *
  by_cases hc:pi.1>0/\z3p k.1=false
  ·rw [if_pos hc] at e5 ⊢;rw [<- e5] at h6 hsq ⊢;exact (z78 (by omega) h6).2 hsq.2
  ·rw [if_neg hc] at e5 ⊢;rw [<- e5] at h6;exact h6
 generalize (zq 1099511627776 sq.2).1=tm at *
 have h4:pi.2=some ((if pi.1>0 then uI ep.1 else [])++((if pi.1>0/\z3p k.1=false then uI sq.1 else [])++(uI tm++t))):=by
  by_cases hc:pi.1>0
  ·rw [if_pos hc] at e4 ⊢;rw [<- e4] at h5 hep ⊢;exact (z78 (by omega) h5).2 hep.2
  ·rw [if_neg hc] at e4 ⊢;rw [<- e4] at h5;exact h5
 rw [<- e3] at h4 hpi;have h3:=(z78 (by omega) h4).2 hpi.2;rw [e3] at h3;rw [<- e2] at h3 hba;have h2:=(z78 (by omega) h3).2 hba.2;rw [e2] at h2;rw [<- e1] at h2;have h1:=(zek h2).2;rw [e1] at h1
 have e:(if pi.1>0 then uI ep.1 else [])++((if pi.1>0/\z3p k.1=false then uI sq.1 else [])++(uI tm++t))=(if pi.1>0 then uI ep.1++(if z3p k.1 then [] else uI sq.1) else [])++(uI tm++t):=by
  by_cases hp:pi.1>0
  ·by_cases hm:z3p k.1=true
   ·simp [hp,hm]
   ·simp [hp,hm]
  ·simp [hp]
 rw [h1,hmk,Int.toNat_natCast,e]
theorem zo0 {raw:List UInt8} {b:BatM} (h:z6r raw=some b):z02 b=0/\z2y b=raw/\b.p=b:=by
 unfold z6r at h;split at h
 ·cases h
 rename_i h1
 have h1:(z14 (some raw)).1=1:=Decidable.not_not.1 h1;generalize hs:(z14 (some raw)).2=s at h
 have hraw:∀ t,s=some t->raw=1::t:=λt ht=>by
  rw [<- hs] at ht;have:=(zek ht).2;rw [h1] at this;exact Option.some.inj this
 unfold znt at h;split at h
 ·cases h
 rename_i h2
 have h3:(hdS s).tm.2.isSome=true:=by
  cases he:(hdS s).tm.2.isSome with
  | true=>rfl
  | false=>exact absurd (.inl he) h2
 have h4:(hdS s).tm.1<=1099511627776:=by omega
 obtain ⟨t,ht⟩:=Option.isSome_iff_exists.1 h3;split at h
 ·rename_i hm
  split at h;rotate_left
  ·cases h
  rename_i h5
  simp only [Option.some.injEq] at h;subst h;refine ⟨h5.2,?_,rfl⟩;have h6:=hraw _ (zu1 h5.1 h4 h5.2);rw [h6];have hm:z0i ((hdS s).b [])=true:=hm;unfold z2y;rw [hm];rfl
 ·rename_i hm
  split at h
  ·cases h
  rename_i h7
  cases hr:z58 (hdS s).tm.1 (zq 64 (hdS s).tm.2).1.toNat ⟨#[]⟩ (zq 64 (hdS s).tm.2).2 with
  | none=>rw [hr] at h;cases h
  | some q =>
   rw [hr] at h;simp only at h;split at h;rotate_left
   ·cases h
   rename_i h5
   simp only [Option.some.injEq] at h;subst h;refine ⟨h5.2,?_,rfl⟩;obtain ⟨rs,q2⟩:=q;obtain ⟨rfl,h5⟩:=h5;have hrs:=(z2x h5).2;obtain ⟨h8,h9⟩:=zmd (by decide) (λr hr=>(z5t (hrs r hr)).1) hr;have h10:=z78 (by omega) h9;have h11:=h10.2 (by omega);have h6:=hraw _ (zu1 h11 h4 h5);rw [h6];have hm:z0i ((hdS s).b rs)≠true:=hm;unfold z2y;rw [if_neg hm,if_neg hm]
   have e:((hdS s).b rs).rs.length=(zq 64 (hdS s).tm.2).1:=by
    have h12:=h10.1;have h13:rs.length=(zq 64 (hdS s).tm.2).1.toNat:=h8;show ((rs.length:Nat):Int)=_;rw [h13,Int.toNat_of_nonneg h12.1]
   rw [e,List.append_nil];rfl
def uW (n:Int):List UInt8:=z3y (n % 18446744073709551616).toNat
def z7n (r:RowT):List UInt8:=uW r.pid++(uW r.epoch++(uW r.who++(uW r.state++(uW r.since++(uW r.limit++(uW r.fate++(z1q r.own::z1q r.next::(uW (r.parts.length:Nat)++r.parts.flatMap uW))))))))
def z34 (r:RowT):ByteArray:=⟨(z7n r).toArray⟩
def tK (id:ByteArray):ByteArray:=ByteArray.mk #[116]++id
def z43 (most n:Int):Int:=if 0<=n/\n<=most then n else most+1
theorem z8z {most n:Int} (hm:0<=most/\most<9223372036854775807) (hn : -9223372036854775808<=n/\n<9223372036854775808) (t:List UInt8):zq most (some (uW n++t))=(z43 most n,some t):=by
 unfold zq uW;rw [z7m (by omega)];simp only;unfold z43
 by_cases h:0<=n/\n<=most
 ·rw [if_neg (by omega),if_pos h]
  congr 1
  omega
 ·rw [if_pos (by omega),if_neg h]
def z3a:Nat->Lf->List Int × Lf
 | 0,s=>([],s)
 | _+1,none=>([],none)
 | n+1,some b=>((zq 256 (some b)).1::(z3a n (zq 256 (some b)).2).1,(z3a n (zq 256 (some b)).2).2)
theorem zun:∀ (ps:List Int),(∀ p ∈ ps,-9223372036854775808<=p/\p<9223372036854775808)->∀ t,z3a ps.length (some (ps.flatMap uW++t))=(ps.map (z43 256),some t)
 | [],_,t=>rfl
 | p::ps,h,t=>by
  have e:(p::ps).flatMap uW++t=uW p++(ps.flatMap uW++t):=by simp
  rw [e];show ((zq 256 (some (uW p++(ps.flatMap uW++t)))).1::(z3a ps.length (zq 256 (some (uW p++(ps.flatMap uW++t)))).2).1,(z3a ps.length (zq 256 (some (uW p++(ps.flatMap uW++t)))).2).2)=_;rw [z8z (by omega) (h p (List.mem_cons_self ..)),zun ps (λq hq=>h q (List.mem_cons_of_mem _ hq)) t];rfl
structure HdT where
 pi:Int × Lf
 ep:Int × Lf
 wh:Int × Lf
 st:Int × Lf
 si:Int × Lf
 li:Int × Lf
 fa:Int × Lf
 ow:Bool × Lf
 nx:Bool × Lf
 n:Int × Lf
 ps:List Int × Lf
def hdT (epochs:Int) (s:Lf):HdT :=
 let pi:=zq 1048576 s
 let ep:=zq epochs pi.2
 let wh:=zq 1099511627776 ep.2
 let st:=zq 5 wh.2
 let si:=zq 1099511627776 st.2
 let li:=zq 1099511627776 si.2
 let fa:=zq 3 li.2
 let ow:=z3m fa.2
 let nx:=z3m ow.2
 let n:=zq 256 nx.2
 ⟨pi,ep,wh,st,si,li,fa,ow,nx,n,z3a n.1.toNat n.2⟩
def HdT.row (h:HdT) (id:ByteArray):RowT:=⟨id,h.pi.1,h.ep.1,h.wh.1,h.st.1,h.ps.1,h.si.1,h.li.1,h.fa.1,h.ow.1,h.nx.1,[]⟩
def z9q (n:Int) (ps:List Int):Bool:=ps.all (λp=>decide (p<n)) && (List.range ps.length).all λi=>decide (i=0) || decide (ps.getD (i-1) 0<ps.getD i 0)
def z6x (n:Int) (r:RowT):Bool:=z9q n r.parts && ((decide (r.state=0) || decide (r.state=5)) == decide (r.parts=[])) && (!r.own || decide (r.state=3)) && (!r.next || decide (r.state=2) || decide (r.state=3))
def zb0 (X:CoT) (r:RowT):Bool:=idT r.id && decide (1<=r.pid) && decide (r.pid<=1048576) && decide (r.epoch<=X.epochs) && decide (r.state<=5) && decide (r.fate<=3) && z1h r.who && z1h r.since && z1h r.limit
def z3g (X:CoT) (key value:ByteArray):Option RowT :=
 if (hdT X.epochs (some (bl value))).ps.2=some []/\zb0 X ((hdT X.epochs (some (bl value))).row (key.extract 1 key.size))=true/\z6x X.parts ((hdT X.epochs (some (bl value))).row (key.extract 1 key.size))=true then
  some ((hdT X.epochs (some (bl value))).row (key.extract 1 key.size)) else none
theorem zpv (id:ByteArray):(tK id).extract 1 (tK id).size=id:=by
 apply zcl
 have h1:bl (tK id)=116::bl id:=by
  show (ByteArray.mk #[116]++id).data.toList=_;simp [ByteArray.data_append]
 have h2:(tK id).size=id.size+1:=by rw [<- z10,h1,List.length_cons,z10]
 show ((tK id).extract 1 (tK id).size).data.toList=_;rw [ByteArray.data_extract,Array.toList_extract];have h3:(tK id).data.toList=116::bl id:=h1;rw [h3,h2];show (bl id).take (id.size+1-1)=bl id;exact List.take_of_length_le (by rw [z10];omega)
theorem zjg (id:ByteArray):bl (tK id)=116::bl id:=by
 show (ByteArray.mk #[116]++id).data.toList=_;simp [ByteArray.data_append]
theorem z027 {a b:ByteArray} (h:tK a=tK b):a=b:=by rw [<- zpv a,h,zpv]
abbrev fits64 (n:Int):Prop := -9223372036854775808<=n/\n<9223372036854775808
structure Nums (r:RowT):Prop where
 pid:fits64 r.pid
 epoch:fits64 r.epoch
 who:fits64 r.who
 state:fits64 r.state
 since:fits64 r.since
 limit:fits64 r.limit
 fate:fits64 r.fate
 parts:∀ p ∈ r.parts,fits64 p
 len:r.parts.length<=256
def zk0 (X:CoT) (r:RowT):RowT:=⟨r.id,z43 1048576 r.pid,z43 X.epochs r.epoch,z43 1099511627776 r.who,z43 5 r.state,r.parts.map (z43 256),z43 1099511627776 r.since,z43 1099511627776 r.limit,z43 3 r.fate,r.own,r.next,[]⟩
theorem z0gt {X:CoT} (he:0<=X.epochs/\X.epochs<=32767) {r:RowT} (h:Nums r):(hdT X.epochs (some (z7n r))).ps.2=some []/\∀ id,(hdT X.epochs (some (z7n r))).row id={ zk0 X r with id:=id }:=by
 have hn:fits64 ((r.parts.length:Nat):Int):=⟨by omega,by have:=h.len;omega⟩
 have e:hdT X.epochs (some (z7n r))=⟨(z43 1048576 r.pid,some (uW r.epoch++(uW r.who++(uW r.state++(uW r.since++(uW r.limit++(uW r.fate++(z1q r.own::z1q r.next::(uW (r.parts.length:Nat)++r.parts.flatMap uW))))))))),
   (z43 X.epochs r.epoch,some (uW r.who++(uW r.state++(uW r.since++(uW r.limit++(uW r.fate++(z1q r.own::z1q r.next::(uW (r.parts.length:Nat)++r.parts.flatMap uW)))))))),
   (z43 1099511627776 r.who,some (uW r.state++(uW r.since++(uW r.limit++(uW r.fate++(z1q r.own::z1q r.next::(uW (r.parts.length:Nat)++r.parts.flatMap uW))))))),
   (z43 5 r.state,some (uW r.since++(uW r.limit++(uW r.fate++(z1q r.own::z1q r.next::(uW (r.parts.length:Nat)++r.parts.flatMap uW)))))),
   (z43 1099511627776 r.since,some (uW r.limit++(uW r.fate++(z1q r.own::z1q r.next::(uW (r.parts.length:Nat)++r.parts.flatMap uW))))),
   (z43 1099511627776 r.limit,some (uW r.fate++(z1q r.own::z1q r.next::(uW (r.parts.length:Nat)++r.parts.flatMap uW)))),
   (z43 3 r.fate,some (z1q r.own::z1q r.next::(uW (r.parts.length:Nat)++r.parts.flatMap uW))),
   (r.own,some (z1q r.next::(uW (r.parts.length:Nat)++r.parts.flatMap uW))),
   (r.next,some (uW (r.parts.length:Nat)++r.parts.flatMap uW)),
   (z43 256 (r.parts.length:Nat),some (r.parts.flatMap uW)),z3a (z43 256 (r.parts.length:Nat)).toNat (some (r.parts.flatMap uW))⟩:=by
  unfold hdT z7n
  simp only [z8z (show (0:Int)<=1048576/\(1048576:Int)<9223372036854775807 by omega) h.pid,z8z (show 0<=X.epochs/\X.epochs<9223372036854775807 by omega) h.epoch,
   z8z (show (0:Int)<=1099511627776/\(1099511627776:Int)<9223372036854775807 by omega) h.who,z8z (show (0:Int)<=5/\(5:Int)<9223372036854775807 by omega) h.state,
   z8z (show (0:Int)<=1099511627776/\(1099511627776:Int)<9223372036854775807 by omega) h.since,z8z (show (0:Int)<=1099511627776/\(1099511627776:Int)<9223372036854775807 by omega) h.limit,
   z8z (show (0:Int)<=3/\(3:Int)<9223372036854775807 by omega) h.fate,zip,z8z (show (0:Int)<=256/\(256:Int)<9223372036854775807 by omega) hn]
 have e2:(z43 256 (r.parts.length:Nat)).toNat=r.parts.length:=by
  unfold z43;rw [if_pos ⟨by omega,by have:=h.len;omega⟩];omega
 have e3:=zun r.parts h.parts [];rw [List.append_nil] at e3;rw [e2,e3] at e;rw [e];exact ⟨rfl,λid=>rfl⟩
theorem z0d6 {X:CoT} (he:0<=X.epochs/\X.epochs<=32767) {r:RowT} (h:Nums r):z3g X (tK r.id) (z34 r)=if zb0 X (zk0 X r)=true/\z6x X.parts (zk0 X r)=true then some (zk0 X r) else none:=by
 obtain ⟨h1,h2⟩:=z0gt he h;unfold z3g z34;rw [zbt,h1,zpv,h2];simp only [true_and];rfl
theorem z0b0 {n:Int} {ps:List Int} (h1:∀ p ∈ ps,p<n) (h2:ps.Pairwise (· < ·)):z9q n ps=true:=by
 unfold z9q;rw [Bool.and_eq_true,List.all_eq_true,List.all_eq_true];refine ⟨λp hp=>by simpa using h1 p hp,λi hi=>?_⟩;rw [List.mem_range] at hi;rw [Bool.or_eq_true,decide_eq_true_eq,decide_eq_true_eq]
 by_cases h0:i=0
 ·exact .inl h0
 ·refine .inr ?_;rw [List.getD_eq_getElem?_getD,List.getD_eq_getElem?_getD,List.getElem?_eq_getElem hi,List.getElem?_eq_getElem (by omega)];exact List.pairwise_iff_getElem.1 h2 (i-1) i (by omega) hi (by omega)
theorem OkRow.nums {X:CoT} (hX:OkT X) {r:RowT} (h:OkRow X r):Nums r:=by
 have h1:=h.pid;have h2:=h.epoch;have h3:=h.who;have h4:=h.state;have h5:=h.since;have h6:=h.limit;have h7:=h.fate;have h8:=hX.epochs;have h9:=hX.parts;refine ⟨⟨by omega,by omega⟩,⟨by omega,by omega⟩,⟨by omega,by omega⟩,⟨by omega,by omega⟩,⟨by omega,by omega⟩,⟨by omega,by omega⟩,⟨by omega,by omega⟩,λp hp=>?_,?_⟩
 ·have:=h.range p hp;exact ⟨by omega,by omega⟩
 ·have hs:r.parts.Sublist (z24 X.parts):=by
   have e:r.parts=z8r X.parts r.parts []:=zaj h.parts (z8s _ _ _) λp=>by
    rw [z9w];exact ⟨λhp=>⟨h.range p hp,.inl hp⟩,λhp=>hp.2.elim (λh=>h) λhh=>by cases hh⟩
   rw [e];exact List.filter_sublist
  have:=hs.length_le;have:=zhd (n:=X.parts) (by omega);omega
theorem z8b {most n:Int} (h:0<=n/\n<=most):z43 most n=n:=if_pos h
theorem z033 {X:CoT} (hX:OkT X) {r:RowT} (h:OkRow X r):zk0 X r={ r with owed:=[] }:=by
 have hp:r.parts.map (z43 256)=r.parts:=by
  conv=>rhs;rw [<- List.map_id r.parts]
  refine List.map_congr_left λp hp=>z8b ?_;have:=h.range p hp;have:=hX.parts;omega
 unfold zk0;rw [z8b (by have:=h.pid;omega),z8b h.epoch,z8b h.who,z8b h.state,z8b h.since,z8b h.limit,z8b h.fate,hp]
theorem z0ca {X:CoT} {r:RowT} (h:OkRow X r):zb0 X r=true/\z6x X.parts r=true:=by
 have h1:=h.pid;have h2:=h.epoch;have h3:=h.who;have h4:=h.state;have h5:=h.since;have h6:=h.limit;have h7:=h.fate;constructor
 ·unfold zb0;rw [h.id,decide_eq_true h1.1,decide_eq_true h1.2,decide_eq_true h2.2,decide_eq_true h4.2,decide_eq_true h7.2,z4k.2 h3,z4k.2 h5,z4k.2 h6];rfl
 ·unfold z6x;rw [z0b0 (λp hp=>(h.range p hp).2) h.parts]
  have e1:(decide (r.state=0) || decide (r.state=5))=decide (r.parts=[]):=by
   rw [<- Bool.decide_or];exact decide_eq_decide.2 h.none
  rw [e1]
  have e2:(!r.own || decide (r.state=3))=true:=by
   cases ho:r.own
   ·rfl
   ·rw [decide_eq_true (h.own ho)];rfl
  have e3:(!r.next || decide (r.state=2) || decide (r.state=3))=true:=by
   cases ho:r.next
   ·rfl
   ·rcases h.next ho with e|e <;> rw [e] <;> rfl
  rw [e2,e3];simp
theorem z0ax {X:CoT} (hX:OkT X) {r:RowT} (h:OkRow X r):z3g X (tK r.id) (z34 r)=some { r with owed:=[] }:=by
 rw [z0d6 hX.epochs (h.nums hX),z033 hX h];have h0:=z0ca h;rw [if_pos];exact h0
def z3f (r:RowT):RowT:=if z1a r=true then { r with owed:=r.parts } else r
def zb4 (l:List RowT) (r:RowT):List RowT:=match l with
 | []=>[r]
 | y::l=>if y.pid>r.pid then r::y::l else y::zb4 l r
def z7f (l:List RowT) (r:RowT):List RowT:=if l.any (λy=>decide (y.pid=r.pid)) then l else zb4 l (z3f r)
def z1b (X:CoT) (l:List RowT) (kvs:List (ByteArray × ByteArray)):List RowT:=kvs.foldl (λl kv=>match z3g X kv.1 kv.2 with
 | some r=>z7f l r
 | none=>l) l
theorem zb5 (r:RowT):∀ l:List RowT,(zb4 l r).Perm (r::l)
 | []=>.refl _
 | y::l=>by
  show (if y.pid>r.pid then r::y::l else y::zb4 l r).Perm _;split
  ·exact .refl _
  ·exact (.trans (.cons _ (zb5 r l)) (.swap ..))
theorem zdk (r:RowT):∀ {l:List RowT},l.Pairwise (λa b=>a.pid<b.pid)->(∀ y ∈ l,y.pid≠r.pid)->(zb4 l r).Pairwise λa b=>a.pid<b.pid
 | [],_,_=>List.pairwise_singleton ..
 | y::l,h,hn=>by
  show (if y.pid>r.pid then r::y::l else y::zb4 l r).Pairwise _;rw [List.pairwise_cons] at h;split
  ·rename_i hy
   refine List.pairwise_cons.2 ⟨λa ha=>?_,List.pairwise_cons.2 h⟩
   rcases List.mem_cons.1 ha with rfl|ha
   ·exact hy
   ·have:=h.1 a ha;omega
  ·refine List.pairwise_cons.2 ⟨λa ha=>?_,zdk r h.2 λy hy=>hn y (List.mem_cons_of_mem _ hy)⟩
   rcases List.mem_cons.1 ((zb5 r l).mem_iff.1 ha) with rfl|ha
   ·have:=hn y (List.mem_cons_self ..);omega
   ·exact h.1 a ha
theorem z04q:∀ {a b:List RowT},a.Pairwise (λx y=>x.pid<y.pid)->b.Pairwise (λx y=>x.pid<y.pid)->a.Perm b->a=b
 | a,b,ha,hb,hp=>List.Perm.eq_of_pairwise (le:=λx y:RowT=>x.pid<y.pid) (λx y _ _ h1 h2=>by omega) ha hb hp
theorem zjf {X:CoT} (hX:OkT X):∀ (rs l:List RowT),(∀ r ∈ rs,OkRow X r)->((l++rs).map (·.pid)).Nodup->l.Pairwise (λa b=>a.pid<b.pid) ->
  (z1b X l (rs.map λr=>(tK r.id,z34 r))).Perm (l++rs.map λr=>z3f { r with owed:=[] })/\(z1b X l (rs.map λr=>(tK r.id,z34 r))).Pairwise λa b=>a.pid<b.pid
 | [],l,_,_,hl=>by simpa [z1b] using hl
 | r::rs,l,h,hn,hl=>by
  have hr:=h r (List.mem_cons_self ..)
  have e:z1b X l ((r::rs).map λr=>(tK r.id,z34 r))=z1b X (z7f l { r with owed:=[] }) (rs.map λr=>(tK r.id,z34 r)):=by
   unfold z1b;rw [List.map_cons,List.foldl_cons];simp only [z0ax hX hr]
  have hne:∀ y ∈ l,y.pid≠r.pid:=by
   rw [List.map_append,List.nodup_append] at hn;exact λy hy=>hn.2.2 _ (List.mem_map_of_mem hy) _ (by simp)
  have e2:z7f l { r with owed:=[] }=zb4 l (z3f { r with owed:=[] }):=by
   unfold z7f;rw [if_neg];intro hh;obtain ⟨y,hy,he⟩:=List.any_eq_true.1 hh;exact hne y hy (by simpa using he)
  have hpo:(z3f { r with owed:=[] }).pid=r.pid:=by unfold z3f;split <;> rfl
  have hp:=zb5 (z3f { r with owed:=[] }) l;have hs:=zdk (z3f { r with owed:=[] }) hl (by rw [hpo];exact hne)
  have hnd:((zb4 l (z3f { r with owed:=[] })++rs).map (·.pid)).Nodup:=by
   have p1:((zb4 l (z3f { r with owed:=[] })++rs).map (·.pid)).Perm ((l++r::rs).map (·.pid)):=by
    have p2:=(hp.append_right rs).map (·.pid);refine p2.trans ?_;rw [List.map_append,List.map_append,List.map_cons,hpo,List.map_cons];exact List.perm_middle.symm
   exact p1.symm.nodup hn
  obtain ⟨i1,i2⟩:=zjf hX rs (zb4 l (z3f { r with owed:=[] })) (λx hx=>h x (List.mem_cons_of_mem _ hx)) hnd hs;rw [e,e2];refine ⟨i1.trans ((hp.append_right _).trans ?_),i2⟩;rw [List.map_cons];exact List.perm_middle.symm
theorem zwm (r:RowT) (h:z1a r=false->r.owed=[]):z3f { r with owed:=[] }=if z1a r=true then { r with owed:=r.parts } else r:=by
 unfold z3f;show (if z1a r=true then _ else _)=_;split
 ·rfl
 ·rename_i hn
  rw [<- h (by simpa using hn)]
theorem zqm {X:CoT} (hX:OkT X) {rs:List RowT} (hp:rs.Perm X.l):z1b X [] (rs.map λr=>(tK r.id,z34 r))=znl X.l:=by
 have hpn:(X.l.map (·.pid)).Nodup:=by
  rw [List.Nodup,List.pairwise_map]
  exact hX.pids.imp λh=>by omega
 obtain ⟨h1,h2⟩:=zjf hX rs [] (λr hr=>hX.row r (hp.mem_iff.1 hr)) (by rw [List.nil_append];exact (hp.map (·.pid)).symm.nodup hpn) List.Pairwise.nil;refine z04q h2 ?_ ?_
 ·exact z04a (λr=>by split <;> rfl) hX.pids
 ·rw [List.nil_append] at h1;refine h1.trans ?_
  have e:rs.map (λr=>z3f { r with owed:=[] })=rs.map λr=>if z1a r=true then { r with owed:=r.parts } else r:=List.map_congr_left λr hr=>zwm r λho=>by
   apply Decidable.byContradiction;intro hne;have:=(hX.row r (hp.mem_iff.1 hr)).owes.1 hne;rw [ho] at this;cases this
  rw [e];exact hp.map _
def z0fc (d:Option Addr) (prefix_:ByteArray) (c_0 c_1:Int) (c_2:Int):Prog :=
Af T.a38 (B9 c_0 c_1 c_2) λa0=>
BE T.a38 a0 λn1 n2 n3=>
BD F.a75 [Ad d,.string prefix_,B9 n1 n2 n3] λp4 n5=>
Al n5 λn6=>
Aa (n6 != 0) (
Al n6 λn7=>
Ab 0 [Ad none,Ac n7])<|
B2 F.a6 [] λp8=>
Af T.a19 (.agg #[Ad p8,Ad p4]) λa9=>
Am F.a77 [Ad p4] λn10=>
.call F.a79 [Ad p4,Ac n10,Ac 1099511627776,.bool true] (.tup [.one .slc,.one (.int .i64),.one (.int .i64)]) (u3 λl11 (n12 n13:Int)=>
Al n12 λn14=>
Al n13 λn15=>
Bq T.a27 a9 0 λp16=>
Am F.a7 [Ad p16,l11.v] λn17=>
Ab 0 [Ag a9,Ac 0])
theorem zz8 (d:Option Addr) (prefix_:ByteArray) (c_0 c_1 c_2:Int):FnS (z0fc d prefix_ c_0 c_1 c_2) F.a69 #[.pointer d,.string prefix_,.agg #[.int .i64 c_0,.int .i64 c_1,.int .i64 c_2]]:=dV ⟨[],[],[],[]⟩ Go.Proofs.Tryz.func25 (by kernel_rfl)
def z0fb (l:Option Addr) (key value:ByteArray) (time:Int):Prog :=
Bc (Instr.buildSlice T.a42 1 #[(0,Bz key value false time)]) λl0=>
Am F.a66 [Ad l,Ac time,l0.v] λn1=>
Al n1 λn2=>
Ab 0 [Ac n2]
theorem zz7 (l:Option Addr) (key value:ByteArray) (time:Int):FnS (z0fb l key value time) F.a68 #[.pointer l,.string key,.string value,.int .i64 time]:=dV ⟨[],[],[],[]⟩ Go.Proofs.Tryz.func32 (by kernel_rfl)
def z0fa (l:Option Addr) (from_ to_:ByteArray) (most:Int):Prog :=
Aa (Option.isNone l) (
Ab 0 [.slice none 0 0])<|
Ao l λa1=>
Bq T.a27 a1 0 λp2=>
AO F.a8 [Ad p2,.string from_,.string to_,Ac most] λl3=>
Ab 0 [l3.v]
theorem zz6 (l:Option Addr) (from_ to_:ByteArray) (most:Int):FnS (z0fa l from_ to_ most) F.a67 #[.pointer l,.string from_,.string to_,.int .i64 most]:=dV ⟨[],[],[],[]⟩ Go.Proofs.Tryz.func33 (by kernel_rfl)
def z0fe (d:Option Addr) (prefix_:ByteArray) (c_0 c_1:Int) (c_2:Int):Prog :=
Af T.a38 (B9 c_0 c_1 c_2) λa0=>
AR T.a13 a0 2 λn1=>
AD (decide (n1<1)=false) T.a13 a0 2 λn2=>
Aa (decide (n1<1) || decide (n2>1024)) (
Aa (Option.isNone d) (
Ab 0 [Ad none,Ac 1])<|
Ab 0 [Ad none,Ac 2])<|
Bn (ld T.a54 (Addr.add a0 0)) λn3 n4=>
BD F.a125 [Ad d,.string prefix_,Bk n3 n4] λp5 n6=>
Al n6 λn7=>
Aa (n7 != 0) (
Al n7 λn8=>
Ab 0 [Ad none,Ac n8])<|
AR T.a13 a0 2 λn9=>
Af T.a39 (.agg #[Ad p5,Ad d,.string prefix_,Ac n9,Ad none,Ad none]) λa10=>
AB 1 (
Bp F.a86 [Ag a10] λs11=>
Am F.a32 [Ad d,.string s11] λn12=>
Aa (decide (n12>0)) (
Ab 1 [.bool true])<|
Bp F.a86 [Ag a10] λs13=>
AA F.a87 [Ad d,.string s13] λb14=>
Ab 1 [.bool b14]) λb15=>
Az 1 (
Aa b15 (
Bp F.a86 [Ag a10] λs16=>
Am F.a31 [Ad d,.string s16] λn17=>
Al n17 λn18=>
Aa (n18 != 0) (
Al n18 λn19=>
Ab 0 [Ad none,Ac n19])<|
Ab 1 [])<|
Ab 1 [])<|
Am F.a82 [Ag a10] λn20=>
Al n20 λn21=>
AO F.a106 [Ad p5] λl22=>
Az 1 (
AW 2 (0,()) λn23=>
Aa (decide (n23<(Ak l22))) (
.ex [.adr] (c1 λa24=>0<=n23/\n23<(Ak l22)/\l22.a=some a24) (u1 λa25=>
Bv T.a0 a25 (Int.toNat n23*7) λn26 n27 n28 n29 n30 n31 l32=>
AH T.a0 λa33=>
AK T.a0 a33 (Bw n26 n27 n28 n29 n30 n31 l32)<|
AR T.a14 a33 0 λn34=>
Az 3 (
Aa (decide (n34>=n21)) (
Bx T.a0 a33 λn35 n36 n37 n38 n39 n40 l41=>
An F.a85 [Ag a10,Bw n35 n36 n37 n38 n39 n40 l41]<|
Ab 3 [])<|
Ab 3 [])<|
Ab 2 [Ac (Av (n23+1))]))<|
Ab 1 [])<|
Ab 0 [Ag a10,Ac 0]
theorem zza (d:Option Addr) (prefix_:ByteArray) (c_0 c_1 c_2:Int):FnS (z0fe d prefix_ c_0 c_1 c_2) F.a75 #[.pointer d,.string prefix_,.agg #[.int .i64 c_0,.int .i64 c_1,.int .i64 c_2]]:=dV ⟨[(18741891978888913616950,[]),(1083197534374707740536733770,[])],[(0,[])],[(9,[(54,.one .bool)])],[(0,[(67,.one (.int .i64))])]⟩ Go.Proofs.Tryz.func57 (by kernel_rfl)
def z0fg (p:Option Addr):Prog :=
Aa (Option.isNone p) (
Ab 0 [Ac 0])<|
Ao p λa1=>
Bq T.a35 (Addr.add a1 0) 0 λp2=>
Am F.a108 [Ad p2] λn3=>
Al n3 λn4=>
Ab 0 [Ac n4]
theorem zzc (p:Option Addr):FnS (z0fg p) F.a77 #[.pointer p]:=dV ⟨[],[],[],[]⟩ Go.Proofs.Tryz.func58 (by kernel_rfl)
def zgl  : Prog :=
.act (Instr.box T.a4 (.agg #[.int .i64 0,.slice none 0 0])) sA (u1 λa0 =>
.done 0 [.pointer (some a0)])
theorem zgf :FnS (zgl ) F.a6 #[]:=dV ⟨[],[],[],[]⟩ Go.Proofs.Tryz.func59 (by kernel_rfl)
def z0ff (p:Option Addr) (b_0 b_1 b_2 b_3 b_4 b_5:Int) (b_6:Sl):Prog :=
Af T.a0 (Bw b_0 b_1 b_2 b_3 b_4 b_5 b_6) λa0=>
AP (Option.isNone p) (
Ab 0 [Ac 0,.bool false,Ac 1])<|
Bx T.a0 a0 λn2 n3 n4 n5 n6 n7 l8=>
AA F.a88 [Bw n2 n3 n4 n5 n6 n7 l8] λb9=>
AP b9 (
Ab 0 [Ac 0,.bool false,Ac 2])<|
Bx T.a0 a0 λn11 n12 n13 n14 n15 n16 l17=>
.call F.a83 [Ad p,Bw n11 n12 n13 n14 n15 n16 l17] (.tup [.one (.int .i64),.one .bool,.one (.int .i64)]) (u3 λ(n18:Int) b19 (n20:Int)=>
Al n18 λn21=>
Aj b19 λb22=>
Al n20 λn23=>
Ab 0 [Ac n21,.bool b22,Ac n23])
theorem zzb (p:Option Addr) (b_0 b_1 b_2 b_3 b_4 b_5:Int) (b_6:Sl):FnS (z0ff p b_0 b_1 b_2 b_3 b_4 b_5 b_6) F.a76 #[.pointer p,.agg #[.int .i64 b_0,.int .i64 b_1,.int .i64 b_2,.int .i64 b_3,.int .i64 b_4,.int .i64 b_5,.slice b_6.a b_6.len b_6.cap]]:=dV ⟨[],[],[],[]⟩ Go.Proofs.Tryz.func63 (by kernel_rfl)
def z0fi (p:Option Addr) (offset most:Int) (committed:Bool):Prog :=
Aa (Option.isNone p) (
Ab 0 [.slice none 0 0,Ac 0,Ac 1])<|
Ao p λa1=>
Bq T.a35 (Addr.add a1 0) 0 λp2=>
Bo F.a110 [Ad p2,Ac offset,Ac most] λl3 n4=>
Al n4 λn5=>
Aa (n5 != 0) (
Al n5 λn6=>
Ab 0 [.slice none 0 0,Ac 0,Ac n6])<|
Al offset λn7=>
.bind 1 [.one .slc,.one (.int .i64)] (
.loop 2 [.one .slc,.one (.int .i64),.one (.int .i64)] (⟨none,0,0⟩,(n7,(0,()))) (u3 λl8 (n9 n10:Int)=>
Aa (decide (n10<(Ak l3))) (
.ex [.adr] (c1 λa11=>0<=n10/\n10<(Ak l3)/\l3.a=some a11) (u1 λa12=>
Bv T.a0 a12 (Int.toNat n10*7) λn13 n14 n15 n16 n17 n18 l19=>
AH T.a0 λa20=>
AK T.a0 a20 (Bw n13 n14 n15 n16 n17 n18 l19)<|
AB 3 (
AC<|
Bu (committed=true) (ld T.a14 (Addr.add a20 0)) λn21=>
Aa committed (
Am F.a80 [Ad p] λn22=>
AE<|
Ab 3 [.bool (decide (n21>=n22))])<|
AE<|
Ab 3 [.bool false]) λb23=>
Aa b23 (
Ab 1 [l8.v,Ac n9])<|
AB 3 (
AC<|
Ah (not committed=false) p λa25=>
AJ (not committed=false) (ld T.a32 (Addr.add a25 5)) λp26=>
B8 (not committed=false) T.a0 a20 λn27 n28 n29 n30 n31 n32 l33=>
Aa (not committed) (
AE<|
Ab 3 [.bool true])<|
Am F.a56 [Ad p26,Bw n27 n28 n29 n30 n31 n32 l33] λn34=>
AE<|
Ab 3 [.bool (n34 == 1)]) λb35=>
Bf 3 (
Aa b35 (
Bx T.a0 a20 λn36 n37 n38 n39 n40 n41 l42=>
Bc (Instr.buildSlice T.a41 1 #[(0,Bw n36 n37 n38 n39 n40 n41 l42)]) λl43=>
AO F.a92 [l43.v] λl44=>
Bc (app T.a48 T.a48 T.a48 l8.v l44.v) λl45=>
Ab 3 [l45.v])<|
Ab 3 [l8.v]) λl46=>
Bx T.a0 a20 λn47 n48 n49 n50 n51 n52 l53=>
Am F.a94 [Bw n47 n48 n49 n50 n51 n52 l53] λn54=>
Al n54 λn55=>
Ab 2 [l46.v,Ac n55,Ac (Av (n10+1))]))<|
Ab 1 [l8.v,Ac n9])) (u2 λl56 (n57:Int)=>
Al n57 λn58=>
Ab 0 [l56.v,Ac n58,Ac 0])
theorem zze (p:Option Addr) (offset most:Int) (committed:Bool):FnS (z0fi p offset most committed) F.a79 #[.pointer p,.int .i64 offset,.int .i64 most,.bool committed]:=dV ⟨[(73196680484479534366778,[(13,.one .slc)])],[(0,[(13,.one .slc),(14,.one (.int .i64))])],[(11,[(47,.one .bool)]),(12,[(58,.one .bool)])],[(0,[(13,.one .slc),(14,.one (.int .i64)),(36,.one (.int .i64))])]⟩ Go.Proofs.Tryz.func72 (by kernel_rfl)
def zf6 (t:Option Addr) (l:Sl):Prog :=
AP (Option.isNone t) (
Ab 0 [Ac 1])<|
Ao t λa2=>
AR T.a14 a2 0 λn3=>
AA F.a13 [Ac n3,l.v] λb4=>
.ex [.adr] (c1 λa5=>not b4=false/\decide ((Ak l)>0)=true->0<=Av ((Ak l)-1)/\Av ((Ak l)-1)<(Ak l)/\l.a=some a5) (u1 λa6=>
AD (not b4=false/\decide ((Ak l)>0)=true) T.a14 (Addr.add a6 (Int.toNat (Av ((Ak l)-1))*5)) 0 λn7=>
AP (not b4 || decide ((Ak l)>0) && decide (n7>1099511627776)) (
Ab 0 [Ac 8])<|
Az 1 (
AW 2 (0,()) λn9=>
Aa (decide (n9<(Ak l))) (
.ex [.adr] (c1 λa10=>0<=n9/\n9<(Ak l)/\l.a=some a10) (u1 λa11=>
BJ T.a40 a11 (Int.toNat n9*5) λn12 s13 s14 b15 n16=>
AH T.a40 λa17=>
AK T.a40 a17 (BK n12 s13 s14 b15 n16)<|
BL T.a40 a17 λn18 s19 s20 b21 n22=>
An F.a12 [Ad t,BK n18 s19 s20 b21 n22]<|
Ab 2 [Ac (Av (n9+1))]))<|
Ab 1 [])<|
Ab 0 [Ac 0])
theorem z02r (t:Option Addr) (l:Sl):FnS (zf6 t l) F.a7 #[.pointer t,.slice l.a l.len l.cap]:=dV ⟨[],[(1,[])],[],[(1,[(35,.one (.int .i64))])]⟩ Go.Proofs.Tryz.func73 (by kernel_rfl)
def z0f9 (l:Option Addr) (time:Int) (rs:Sl):Prog :=
Aa (Option.isNone l) (
Ab 0 [Ac 1])<|
AH T.a0 λa0=>
AK T.a0 a0 (Bw 0 0 0 0 0 time rs)<|
AC<|
Ao l λa2=>
Bq T.a34 a2 1 λp3=>
Bx T.a0 a0 λn4 n5 n6 n7 n8 n9 l10=>
.call F.a76 [Ad p3,Bw n4 n5 n6 n7 n8 n9 l10] (.tup [.one (.int .i64),.one .bool,.one (.int .i64)]) (u3 λ(n11:Int) b12 (n13:Int)=>
Al n11 λn14=>
Aj b12 λb15=>
Al n13 λn16=>
AE<|
Aa (n16 != 0) (
Al n16 λn17=>
Ab 0 [Ac n17])<|
AS T.a14 a0 0 (Ac n14)<|
Az 1 (
AC<|
Ao l λa19=>
B5 T.a27 a19 0 λp20=>
Bx T.a0 a0 λn21 n22 n23 n24 n25 n26 l27=>
Bc (Instr.buildSlice T.a41 1 #[(0,Bw n21 n22 n23 n24 n25 n26 l27)]) λl28=>
AO F.a92 [l28.v] λl29=>
AE<|
Am F.a7 [Ad p20,l29.v] λn30=>
AE<|
Ab 1 [])<|
Ab 0 [Ac 0])
theorem zz5 (l:Option Addr) (time:Int) (rs:Sl):FnS (z0f9 l time rs) F.a66 #[.pointer l,.int .i64 time,.slice rs.a rs.len rs.cap]:=dV ⟨[],[],[(8,[])],[]⟩ Go.Proofs.Tryz.func80 (by kernel_rfl)
def zf7 (t:Option Addr) (from_ to_:ByteArray) (most:Int):Prog :=
Aa (Option.isNone t) (
Ab 0 [.slice none 0 0])<|
AC<|
Ao t λa1=>
BG T.a48 a1 1 λl2=>
Am F.a10 [Ad t,.string from_] λn3=>
.must (0<=n3/\n3<=(Ak l2)) <|
AE<|
Bf 1 (
Br 2 (⟨none,0,0⟩,(0,())) λl4 n5=>
Aa (decide (n5<((l2.len-Int.toNat n3:Nat):Int))) (
.ex [.adr] (c1 λa6=>0<=n5/\n5<((l2.len-Int.toNat n3:Nat):Int)/\z0k l2.a 5 (Int.toNat n3) l2.cap=some a6) (u1 λa7=>
BJ T.a40 a7 (Int.toNat n5*5) λn8 s9 s10 b11 n12=>
AH T.a40 λa13=>
AK T.a40 a13 (BK n8 s9 s10 b11 n12)<|
BF (not (ByteArray.toList to_ == ByteArray.toList (ByteArray.mk #[]))=true) T.a57 (Addr.add a13 1) 0 λs14=>
Aa (not (ByteArray.toList to_ == ByteArray.toList (ByteArray.mk #[])) && not (Op.bytesLess (ByteArray.toList s14) (ByteArray.toList to_)) || decide ((Ak l4)>=most)) (
Ab 1 [l4.v])<|
BL T.a40 a13 λn15 s16 s17 b18 n19=>
Bc (Instr.buildSlice T.a48 1 #[(0,BK n15 s16 s17 b18 n19)]) λl20=>
Bc (app T.a48 T.a48 T.a48 l4.v l20.v) λl21=>
Ab 2 [l21.v,Ac (Av (n5+1))]))<|
Ab 1 [l4.v]) λl22=>
Ab 0 [l22.v]
theorem z02s (t:Option Addr) (from_ to_:ByteArray) (most:Int):FnS (zf7 t from_ to_ most) F.a8 #[.pointer t,.string from_,.string to_,.int .i64 most]:=dV ⟨[],[(0,[(9,.one .slc)])],[],[(0,[(9,.one .slc),(23,.one (.int .i64))])]⟩ Go.Proofs.Tryz.func81 (by kernel_rfl)
def z0fp (p:Option Addr):Prog :=
Ao p λa1=>
Bd T.a57 (Addr.add a1 0) 2 λs2=>
.must (((ByteArray.size s2+4:Nat):Int)<=9223372036854775807) <|
Be (s2++(ByteArray.mk #[46,116,109,112])) λs3=>
Ab 0 [.string s3]
theorem zzl (p:Option Addr):FnS (z0fp p) F.a86 #[.pointer p]:=dV ⟨[],[],[],[]⟩ Go.Proofs.Tryz.func113 (by kernel_rfl)
def z0fq (d:Option Addr) (name:ByteArray):Prog :=
Bo F.a30 [Ad d,.string name] λl0 n1=>
Al n1 λn2=>
Aj (n2 == 0) λb3=>
Ab 0 [.bool b3]
theorem zzm (d:Option Addr) (name:ByteArray):FnS (z0fq d name) F.a87 #[.pointer d,.string name]:=dV ⟨[],[],[],[]⟩ Go.Proofs.Tryz.func114 (by kernel_rfl)
def z0fl (p:Option Addr):Prog :=
Ao p λa1=>
AR T.a13 a1 3 λn2=>
BD F.a15 [Ac n2] λp3 n4=>
Ao p λa6=>
AS T.a28 a6 4 (Ad p3)<|
B2 F.a55 [] λp7=>
Ao p λa9=>
AS T.a32 a9 5 (Ad p7)<|
Bf 1 (
AC<|
Ao p λa11=>
B5 T.a29 (Addr.add a11 0) 1 λp12=>
Bp F.a84 [Ad p] λs13=>
AE<|
Bo F.a30 [Ad p12,.string s13] λl14 n15=>
Al n15 λn16=>
AE<|
Ab 1 [l14.v]) λl17=>
.call F.a42 [l17.v] (.tup [.one .slc,.one .bool]) (u2 λl18 b19=>
Aj b19 λb20=>
Aa (not b20) (
Ab 0 [Ac 0])<|
B2 F.a215 [l18.v] λp21=>
Bs F.a222 [Ad p21] λn22=>
Bp F.a221 [Ad p21,Ac 262144] λs23=>
Bp F.a221 [Ad p21,Ac 262144] λs24=>
AY n22 λn25=>
Be s23 λs26=>
Be s24 λs27=>
AB 1 (
Am F.a217 [Ad p21] λn28=>
Aa (n28 != 0) (
Ab 1 [.bool true])<|
Am F.a78 [Ad p] λn29=>
Aa (decide (n25>IntKind.wrap .u64 n29)) (
Ab 1 [.bool true])<|
Am F.a77 [Ad p] λn30=>
Ab 1 [.bool (decide (Av n25<n30))]) λb31=>
Aa b31 (
Ab 0 [Ac 0])<|
Bc (convert T.a57 T.a53 (.string s26)) λl32=>
Ao p λa34=>
AR T.a13 a34 3 λn35=>
BD F.a14 [l32.v,Ac n35] λp36 n37=>
Al n37 λn38=>
AB 1 (
Aa (n38 != 0) (
Ab 1 [.bool true])<|
Am F.a19 [Ad p36] λn39=>
Ab 1 [.bool (decide (n39>Av n25))]) λb40=>
Aa b40 (
Ab 0 [Ac 0])<|
Bc (convert T.a57 T.a53 (.string s27)) λl41=>
BD F.a54 [l41.v] λp42 n43=>
Al n43 λn44=>
AB 1 (
Aa (n44 != 0) (
Ab 1 [.bool true])<|
Am F.a58 [Ad p42] λn45=>
Ab 1 [.bool (decide (n45>Av n25))]) λb46=>
Aa b46 (
Ab 0 [Ac 0])<|
Ao p λa48=>
AS T.a28 a48 4 (Ad p36)<|
Ao p λa50=>
AS T.a32 a50 5 (Ad p42)<|
Al (Av n25) λn51=>
Ab 0 [Ac n51])
theorem zzh (p:Option Addr):FnS (z0fl p) F.a82 #[.pointer p]:=dV ⟨[],[],[(3,[(3,.one .slc)]),(9,[(71,.one .bool)]),(12,[(90,.one .bool)]),(15,[(105,.one .bool)])],[]⟩ Go.Proofs.Tryz.func116 (by kernel_rfl)
def z0fo (p:Option Addr) (b_0 b_1 b_2 b_3 b_4 b_5:Int) (b_6:Sl):Prog :=
Af T.a0 (Bw b_0 b_1 b_2 b_3 b_4 b_5 b_6) λa0=>
AC<|
Ao p λa2=>
Bq T.a28 a2 4 λp3=>
Bx T.a0 a0 λn4 n5 n6 n7 n8 n9 l10=>
Am F.a20 [Ad p3,Bw n4 n5 n6 n7 n8 n9 l10] λn11=>
AE<|
AC<|
Ao p λa13=>
Bq T.a32 a13 5 λp14=>
Bx T.a0 a0 λn15 n16 n17 n18 n19 n20 l21=>
Am F.a62 [Ad p14,Bw n15 n16 n17 n18 n19 n20 l21] λn22=>
AE<|
Ab 0 []
theorem zzk (p:Option Addr) (b_0 b_1 b_2 b_3 b_4 b_5:Int) (b_6:Sl):FnS (z0fo p b_0 b_1 b_2 b_3 b_4 b_5 b_6) F.a85 #[.pointer p,.agg #[.int .i64 b_0,.int .i64 b_1,.int .i64 b_2,.int .i64 b_3,.int .i64 b_4,.int .i64 b_5,.slice b_6.a b_6.len b_6.cap]]:=dV ⟨[],[],[],[]⟩ Go.Proofs.Tryz.func118 (by kernel_rfl)
def z0fm (p:Option Addr) (b_0 b_1 b_2 b_3 b_4 b_5:Int) (b_6:Sl):Prog :=
Af T.a0 (Bw b_0 b_1 b_2 b_3 b_4 b_5 b_6) λa0=>
Am F.a78 [Ad p] λn1=>
AS T.a14 a0 0 (Ac n1)<|
Bx T.a0 a0 λn2 n3 n4 n5 n6 n7 l8=>
BM F.a81 [Ad p,Bw n2 n3 n4 n5 n6 n7 l8] λb9 n10 n11=>
AH T.a7 λa12=>
AK T.a7 a12 (BN b9 n10)<|
Al n11 λn13=>
Ai ((n13 != 0)=false) T.a3 a12 0 λb14=>
Aa (n13 != 0 || b14) (
AC<|
AR T.a14 a12 1 λn15=>
AQ T.a3 a12 0 λb16=>
Al n15 λn17=>
Aj b16 λb18=>
Al n13 λn19=>
AE<|
Ab 0 [Ac n17,.bool b18,Ac n19])<|
Ay 1 (
AC<|
Ao p λa21=>
B5 T.a35 (Addr.add a21 0) 0 λp22=>
Bx T.a0 a0 λn23 n24 n25 n26 n27 n28 l29=>
Bc (Instr.buildSlice T.a41 1 #[(0,Bw n23 n24 n25 n26 n27 n28 l29)]) λl30=>
AE<|
Ax F.a107 [Ad p22,l30.v] λn31 n32=>
Al n31 λn33=>
Al n32 λn34=>
AE<|
Ab 1 [Ac n34,Ac n33]) λn35 n36=>
Aw 1 (
Aa (n35 == 0) (
Ao p λa38=>
Bq T.a35 (Addr.add a38 0) 0 λp39=>
Am F.a113 [Ad p39] λn40=>
Al n40 λn41=>
Ab 1 [Ac n41])<|
Ab 1 [Ac n35]) λn42=>
Aa (n42 != 0) (
Al n42 λn43=>
Ab 0 [Ac 0,.bool false,Ac n43])<|
AS T.a14 a0 0 (Ac n36)<|
Bx T.a0 a0 λn44 n45 n46 n47 n48 n49 l50=>
BA F.a89 [Bw n44 n45 n46 n47 n48 n49 l50] λn51 n52 n53 n54 n55 n56 l57=>
An F.a85 [Ad p,Bw n51 n52 n53 n54 n55 n56 l57]<|
Al n36 λn58=>
Ab 0 [Ac n58,.bool false,Ac 0]
theorem zzi (p:Option Addr) (b_0 b_1 b_2 b_3 b_4 b_5:Int) (b_6:Sl):FnS (z0fm p b_0 b_1 b_2 b_3 b_4 b_5 b_6) F.a83 #[.pointer p,.agg #[.int .i64 b_0,.int .i64 b_1,.int .i64 b_2,.int .i64 b_3,.int .i64 b_4,.int .i64 b_5,.slice b_6.a b_6.len b_6.cap]]:=dV ⟨[(2269814212195778602,[(8,.one (.int .i64))])],[],[(5,[(8,.one (.int .i64)),(9,.one (.int .i64))])],[]⟩ Go.Proofs.Tryz.func120 (by kernel_rfl)
def z0fr (b_0 b_1 b_2 b_3 b_4 b_5:Int) (b_6:Sl):Prog :=
Af T.a0 (Bw b_0 b_1 b_2 b_3 b_4 b_5 b_6) λa0=>
AR T.a13 a0 4 λn1=>
AD ((n1 == 2)=false) T.a13 a0 4 λn2=>
Aj (n1 == 2 || n2 == 3) λb3=>
Ab 0 [.bool b3]
theorem zzn (b_0 b_1 b_2 b_3 b_4 b_5:Int) (b_6:Sl):FnS (z0fr b_0 b_1 b_2 b_3 b_4 b_5 b_6) F.a88 #[.agg #[.int .i64 b_0,.int .i64 b_1,.int .i64 b_2,.int .i64 b_3,.int .i64 b_4,.int .i64 b_5,.slice b_6.a b_6.len b_6.cap]]:=dV ⟨[],[],[],[]⟩ Go.Proofs.Tryz.func125 (by kernel_rfl)
def zf8 (t:Option Addr) (key:ByteArray):Prog :=
Am F.a10 [Ad t,.string key] λn0=>
Al n0 λn1=>
AC<|
Ao t λa3=>
AN T.a48 a3 1 λl4=>
Ah (decide (n1<(Ak l4))=true) t λa6=>
AZ (decide (n1<(Ak l4))=true) T.a48 a6 1 λl7=>
.ex [.adr] (c1 λa8=>decide (n1<(Ak l4))=true->0<=n1/\n1<(Ak l7)/\l7.a=some a8) (u1 λa9=>
BF (decide (n1<(Ak l4))=true) T.a57 (Addr.add (Addr.add a9 (Int.toNat n1*5)) 1) 0 λs10=>
Al n1 λn11=>
Aj (decide (n1<(Ak l4)) && ByteArray.toList s10 == ByteArray.toList key) λb12=>
AE<|
Ab 0 [Ac n11,.bool b12])
theorem z02t (t:Option Addr) (key:ByteArray):FnS (zf8 t key) F.a9 #[.pointer t,.string key]:=dV ⟨[],[],[],[]⟩ Go.Proofs.Tryz.func130 (by kernel_rfl)
def z0fj (p:Option Addr):Prog :=
Aa (Option.isNone p) (
Ab 0 [Ac 0])<|
Ao p λa1=>
Bq T.a32 a1 5 λp2=>
AO F.a59 [Ad p2] λl3=>
Aa ((Ak l3) == 0) (
Am F.a78 [Ad p] λn4=>
Al n4 λn5=>
Ab 0 [Ac n5])<|
Ao p λa7=>
Bq T.a32 a7 5 λp8=>
Am F.a61 [Ad p8] λn9=>
Am F.a77 [Ad p] λn10=>
Al (if n10>n9 then n10 else n9) λn11=>
Ab 0 [Ac n11]
theorem zzf (p:Option Addr):FnS (z0fj p) F.a80 #[.pointer p]:=dV ⟨[],[],[],[]⟩ Go.Proofs.Tryz.func136 (by kernel_rfl)
def z0f2 (v:Option Addr) (b_0 b_1 b_2 b_3 b_4 b_5:Int) (b_6:Sl):Prog :=
Af T.a0 (Bw b_0 b_1 b_2 b_3 b_4 b_5 b_6) λa0=>
Aa (Option.isNone v) (
Ab 0 [Ac 0])<|
BO 1 (
AC<|
Ao v λa2=>
BQ T.a24 a2 2 λm3=>
B1 T.a14 a0 1 λn4=>
B1 T.a13 a0 2 λn5=>
BR (Instr.lookup T.a24 (.map m3) (Bk n4 n5) true) λn6 n7 n8 n9 b10=>
AH T.a18 λa11=>
AE<|
AK T.a18 a11 (Bj n6 n7 n8 n9)<|
Aj b10 λb12=>
AE<|
Ab 1 [Ag a11,.bool b12]) λa13 b14=>
Bx T.a0 a0 λn15 n16 n17 n18 n19 n20 l21=>
AA F.a65 [Bw n15 n16 n17 n18 n19 n20 l21] λb22=>
AP b22 (
Ab 0 [Ac 3])<|
AC<|
B1 T.a14 a0 0 λn24=>
Am F.a61 [Ad v] λn25=>
Aj (decide (n24>=n25)) λb26=>
AE<|
Aa b26 (
Ab 0 [Ac 0])<|
AR T.a13 a0 4 λn27=>
AD ((n27 == 1 && b14)=true) T.a14 a0 0 λn28=>
AD ((n27 == 1 && b14)=true) T.a14 a13 2 λn29=>
AP (n27 == 1 && b14 && decide (n28>=n29)) (
Ab 0 [Ac 2])<|
Ab 0 [Ac 1]
theorem zyw (v:Option Addr) (b_0 b_1 b_2 b_3 b_4 b_5:Int) (b_6:Sl):FnS (z0f2 v b_0 b_1 b_2 b_3 b_4 b_5 b_6) F.a56 #[.pointer v,.agg #[.int .i64 b_0,.int .i64 b_1,.int .i64 b_2,.int .i64 b_3,.int .i64 b_4,.int .i64 b_5,.slice b_6.a b_6.len b_6.cap]]:=dV ⟨[],[],[(3,[(5,.one .adr),(6,.one .bool)])],[]⟩ Go.Proofs.Tryz.func137 (by kernel_rfl)
def z0e0 (from_:Int) (l:Sl):Prog :=
Az 1 (
AW 2 (0,()) λn0=>
Aa (decide (n0<(Ak l))) (
.ex [.adr] (c1 λa1=>0<=n0/\n0<(Ak l)/\l.a=some a1) (u1 λa2=>
BJ T.a40 a2 (Int.toNat n0*5) λn3 s4 s5 b6 n7=>
AH T.a40 λa8=>
Al n0 λn9=>
AK T.a40 a8 (BK n3 s4 s5 b6 n7)<|
AC<|
AD ((n9 == 0)=true) T.a14 a8 0 λn10=>
AD ((n9 == 0 && decide (n10<from_))=false/\decide (n9>0)=true) T.a14 a8 0 λn11=>
.ex [.adr] (c1 λa12=>(n9 == 0 && decide (n10<from_))=false/\decide (n9>0)=true->0<=Av (n9-1)/\Av (n9-1)<(Ak l)/\l.a=some a12) (u1 λa13=>
AD ((n9 == 0 && decide (n10<from_))=false/\decide (n9>0)=true) T.a14 (Addr.add a13 (Int.toNat (Av (n9-1))*5)) 0 λn14=>
AE<|
Aa (n9 == 0 && decide (n10<from_) || decide (n9>0) && decide (n11<=n14)) (
Ab 0 [.bool false])<|
Ab 2 [Ac (Av (n0+1))])))<|
Ab 1 [])<|
Ab 0 [.bool true]
theorem zxo (from_:Int) (l:Sl):FnS (z0e0 from_ l) F.a13 #[.int .i64 from_,.slice l.a l.len l.cap]:=dV ⟨[],[(0,[])],[],[(0,[(9,.one (.int .i64))])]⟩ Go.Proofs.Tryz.func140 (by kernel_rfl)
def z0dz (t:Option Addr) (r_0:Int) (r_1 r_2:ByteArray) (r_3:Bool) (r_4:Int):Prog :=
Af T.a40 (BK r_0 r_1 r_2 r_3 r_4) λa0=>
Bd T.a57 (Addr.add a0 1) 0 λs1=>
AF F.a9 [Ad t,.string s1] λn2 b3=>
Al n2 λn4=>
Aj b3 λb5=>
Ai (b5=true) T.a3 (Addr.add a0 1) 2 λb6=>
Aj (b5 && b6) λb7=>
Az 1 (
Aa b7 (
Ao t λa9=>
AN T.a48 a9 1 λl10=>
AO F.a140 [l10.v,Ac n4,Ac (Av (n4+1))] λl11=>
Ao t λa13=>
AS T.a48 a13 1 l11.v<|
Ab 1 [])<|
Aj b5 λb14=>
Az 2 (
Aa b14 (
AC<|
Ao t λa16=>
AN T.a48 a16 1 λl17=>
BL T.a40 a0 λn18 s19 s20 b21 n22=>
.ex [.adr] (c1 λa23=>0<=n4/\n4<(Ak l17)/\l17.a=some a23) (u1 λa24=>
AS T.a40 a24 (Int.toNat n4*5) (BK n18 s19 s20 b21 n22)<|
AE<|
Ab 2 []))<|
AQ T.a3 (Addr.add a0 1) 2 λb25=>
Aj (not b25) λb26=>
Az 3 (
Aa b26 (
Az 4 (
AC<|
Ao t λa28=>
BG T.a48 a28 1 λl29=>
BL T.a40 a0 λn30 s31 s32 b33 n34=>
Bc (Instr.buildSlice T.a48 1 #[(0,BK n30 s31 s32 b33 n34)]) λl35=>
AE<|
AO F.a143 [l29.v,Ac n4,l35.v] λl36=>
Ao t λa38=>
AS T.a48 a38 1 l36.v<|
AE<|
Ab 4 [])<|
Ab 3 [])<|
Ab 3 [])<|
Ab 2 [])<|
Ab 1 [])<|
AR T.a14 a0 0 λn39=>
Ao t λa41=>
AS T.a14 a41 0 (Ac (Av (n39+1)))<|
Ab 0 []
theorem zxn (t:Option Addr) (r_0:Int) (r_1 r_2:ByteArray) (r_3:Bool) (r_4:Int):FnS (z0dz t r_0 r_1 r_2 r_3 r_4) F.a12 #[.pointer t,.agg #[.int .i64 r_0,.string r_1,.string r_2,.bool r_3,.int .i64 r_4]]:=dV ⟨[(590007579982553940009,[]),(590295739989961474080,[]),(590295810350115717134,[])],[],[(7,[])],[]⟩ Go.Proofs.Tryz.func141 (by kernel_rfl)
def zf9 (t:Option Addr) (key:ByteArray):Prog :=
Af T.a27 (Ad t) λa0=>
Af T.a57 (.string key) λa1=>
Bt T.a27 a0 λp2=>
Ao p2 λa4=>
AN T.a48 a4 1 λl5=>
Am F.a177 [Ac (Ak l5),.func (Fn.func 211) #[] #[Ag a0,Ag a1]] λn6=>
Al n6 λn7=>
Ab 0 [Ac n7]
theorem z02u (t:Option Addr) (key:ByteArray):FnS (zf9 t key) F.a10 #[.pointer t,.string key]:=dV ⟨[],[],[],[]⟩ Go.Proofs.Tryz.func147 (by kernel_rfl)
def z0e1 (most:Int):Prog :=
Aa (decide (most<1) || decide (most>4096)) (
Ab 0 [Ad none,Ac 2])<|
Ae (Instr.makeMap T.a20 none) λm0=>
Af T.a6 (.agg #[Ac most,Ac 0,.map m0]) λa1=>
Ab 0 [Ag a1,Ac 0]
theorem zxp (most:Int):FnS (z0e1 most) F.a15 #[.int .i64 most]:=dV ⟨[],[],[],[]⟩ Go.Proofs.Tryz.func174 (by kernel_rfl)
def zu6  : Prog :=
.act (Instr.makeMap T.a21 none) sM (u1 λm0 =>
.act (Instr.makeMap T.a24 none) sM (u1 λm1 =>
.act (Instr.box T.a16 (.agg #[.int .i64 0,.map m0,.map m1])) sA (u1 λa2 =>
.done 0 [.pointer (some a2)])))
theorem zmy :FnS (zu6 ) F.a55 #[]:=dV ⟨[],[],[],[]⟩ Go.Proofs.Tryz.func175 (by kernel_rfl)
def z0fn (p:Option Addr):Prog :=
Ao p λa1=>
Bd T.a57 (Addr.add a1 0) 2 λs2=>
.must (((ByteArray.size s2+5:Nat):Int)<=9223372036854775807) <|
Be (s2++(ByteArray.mk #[46,115,110,97,112])) λs3=>
Ab 0 [.string s3]
theorem zzj (p:Option Addr):FnS (z0fn p) F.a84 #[.pointer p]:=dV ⟨[],[],[],[]⟩ Go.Proofs.Tryz.func176 (by kernel_rfl)
def z0fh (p:Option Addr):Prog :=
Aa (Option.isNone p) (
Ab 0 [Ac 0])<|
Ao p λa1=>
Bq T.a35 (Addr.add a1 0) 0 λp2=>
Am F.a109 [Ad p2] λn3=>
Al n3 λn4=>
Ab 0 [Ac n4]
theorem zzd (p:Option Addr):FnS (z0fh p) F.a78 #[.pointer p]:=dV ⟨[],[],[],[]⟩ Go.Proofs.Tryz.func179 (by kernel_rfl)
def z0e5 (t:Option Addr) (b_0 b_1 b_2 b_3 b_4 b_5:Int) (b_6:Sl):Prog :=
Af T.a0 (Bw b_0 b_1 b_2 b_3 b_4 b_5 b_6) λa0=>
Bx T.a0 a0 λn1 n2 n3 n4 n5 n6 l7=>
BM F.a18 [Ad t,Bw n1 n2 n3 n4 n5 n6 l7] λb8 n9 n10=>
AH T.a7 λa11=>
AK T.a7 a11 (BN b8 n9)<|
Al n10 λn12=>
AP (n12 != 0) (
Al n12 λn14=>
Ab 0 [Ac n14])<|
AQ T.a3 a11 0 λb15=>
AP b15 (
Ab 0 [Ac 4])<|
AC<|
AR T.a14 a0 0 λn17=>
Ao t λa19=>
AR T.a14 a19 1 λn20=>
Aj (decide (n17<n20)) λb21=>
AE<|
Aa b21 (
Ab 0 [Ac 8])<|
Bx T.a0 a0 λn22 n23 n24 n25 n26 n27 l28=>
Am F.a94 [Bw n22 n23 n24 n25 n26 n27 l28] λn29=>
Ao t λa31=>
AS T.a14 a31 1 (Ac n29)<|
AR T.a14 a0 1 λn32=>
Aa (n32 == 0) (
Ab 0 [Ac 0])<|
AR T.a14 a0 1 λn33=>
.call F.a22 [Ad t,Ac n33] (.tup [.agg [.int .i64,.int .i64,.int .i64,.int .i64,.int .i64,.int .i64,.int .i64],.one .bool]) (u8 λ(n34 n35 n36 n37 n38 n39 n40:Int) b41=>
AH T.a5 λa42=>
AK T.a5 a42 (BS n34 n35 n36 n37 n38 n39 n40)<|
Aj b41 λb43=>
AR T.a14 a0 5 λn44=>
Al n44 λn45=>
Aw 1 (
Aa b43 (
AR T.a14 a42 6 λn46=>
Al (if n46>n45 then n46 else n45) λn47=>
Ab 1 [Ac n47])<|
Ab 1 [Ac n45]) λn48=>
AR T.a13 a0 4 λn49=>
Az 1 (
Az 2 (
Aj (n49 == 2) λb50=>
AB 3 (
Aa b50 (
Ab 3 [.bool b50])<|
Aj (n49 == 3) λb51=>
Ab 3 [.bool b51]) λb52=>
Aa b52 (
AC<|
Ao t λa54=>
Ap T.a20 a54 2 λm55=>
AR T.a14 a0 1 λn56=>
AR T.a14 a0 1 λn57=>
AR T.a13 a0 2 λn58=>
Bb (Instr.mapUpdate T.a20 (.map m55) (Ac n56) (.agg #[Ac n57,Ac (Av (n58+1)),Ac 0,Ac 0,Ac 0,Ac (-1),Ac n48]))<|
AE<|
Ab 0 [Ac 0])<|
AP (n49 == 1) (
BT T.a5 a42 λn60 n61 n62 n63 n64 n65 n66=>
AA F.a17 [BS n60 n61 n62 n63 n64 n65 n66] λb67=>
Az 3 (
Aa (not b67) (
AR T.a14 a0 0 λn68=>
AS T.a14 a42 5 (Ac n68)<|
Ab 3 [])<|
Ab 3 [])<|
Ab 2 [])<|
Ab 2 [])<|
AC<|
Ao t λa70=>
Ap T.a20 a70 2 λm71=>
AR T.a14 a0 1 λn72=>
AR T.a14 a0 1 λn73=>
AR T.a13 a0 2 λn74=>
AR T.a13 a0 3 λn75=>
AN T.a42 a0 6 λl76=>
AR T.a14 a0 0 λn77=>
AR T.a14 a42 5 λn78=>
Bb (Instr.mapUpdate T.a20 (.map m71) (Ac n72) (.agg #[Ac n73,Ac n74,Ac n75,Ac (Ak l76),Ac n77,Ac n78,Ac n48]))<|
AE<|
Ab 1 [])<|
Ab 0 [Ac 0])
theorem zxz (t:Option Addr) (b_0 b_1 b_2 b_3 b_4 b_5:Int) (b_6:Sl):FnS (z0e5 t b_0 b_1 b_2 b_3 b_4 b_5 b_6) F.a20 #[.pointer t,.agg #[.int .i64 b_0,.int .i64 b_1,.int .i64 b_2,.int .i64 b_3,.int .i64 b_4,.int .i64 b_5,.slice b_6.a b_6.len b_6.cap]]:=dV ⟨[(34587645138207506480,[(9,.one (.int .i64))]),(737869762948382064695,[(55,.one .bool)]),(2166395068749415481073467467,[])],[(1,[]),(4,[])],[],[]⟩ Go.Proofs.Tryz.func184 (by kernel_rfl)
def z0f5 (v:Option Addr) (b_0 b_1 b_2 b_3 b_4 b_5:Int) (b_6:Sl):Prog :=
Af T.a0 (Bw b_0 b_1 b_2 b_3 b_4 b_5 b_6) λa0=>
Bx T.a0 a0 λn1 n2 n3 n4 n5 n6 l7=>
Am F.a57 [Ad v,Bw n1 n2 n3 n4 n5 n6 l7] λn8=>
Al n8 λn9=>
Aa (n9 != 0) (
Al n9 λn10=>
Ab 0 [Ac n10])<|
Bx T.a0 a0 λn11 n12 n13 n14 n15 n16 l17=>
Am F.a94 [Bw n11 n12 n13 n14 n15 n16 l17] λn18=>
Ao v λa20=>
AS T.a14 a20 0 (Ac n18)<|
BO 1 (
AC<|
Ao v λa22=>
BQ T.a21 a22 1 λm23=>
B1 T.a14 a0 1 λn24=>
BR (Instr.lookup T.a21 (.map m23) (Ac n24) true) λn25 n26 n27 n28 b29=>
AH T.a18 λa30=>
AE<|
AK T.a18 a30 (Bj n25 n26 n27 n28)<|
Aj b29 λb31=>
AE<|
Ab 1 [Ag a30,.bool b31]) λa32 b33=>
AR T.a13 a0 4 λn34=>
Aj (n34 == 1 && not b33) λb35=>
Az 1 (
Aa b35 (
AC<|
Ao v λa37=>
Ap T.a21 a37 1 λm38=>
AR T.a14 a0 1 λn39=>
AR T.a14 a0 1 λn40=>
AR T.a13 a0 2 λn41=>
AR T.a14 a0 0 λn42=>
Bb (Instr.mapUpdate T.a21 (.map m38) (Ac n39) (.agg #[Ac n40,Ac n41,Ac n42,Ac (-1)]))<|
AE<|
Ab 1 [])<|
Bx T.a0 a0 λn43 n44 n45 n46 n47 n48 l49=>
AA F.a65 [Bw n43 n44 n45 n46 n47 n48 l49] λb50=>
Aj (b50 && b33) λb51=>
Az 2 (
Aa b51 (
AC<|
Ao v λa53=>
Ap T.a21 a53 1 λm54=>
AR T.a14 a0 1 λn55=>
AT (Builtin.delete_ #[T.a21,T.a14] T.a64 #[.map m54,Ac n55])<|
AE<|
AR T.a13 a0 4 λn56=>
Az 3 (
Aa (n56 == 3) (
AR T.a14 a0 0 λn57=>
AS T.a14 a32 3 (Ac n57)<|
AC<|
Ao v λa59=>
Ap T.a24 a59 2 λm60=>
Bn (ld T.a17 (Addr.add a32 0)) λn61 n62=>
BU T.a18 a32 λn63 n64 n65 n66=>
Bb (Instr.mapUpdate T.a24 (.map m60) (Bk n61 n62) (Bj n63 n64 n65 n66))<|
AE<|
Ab 3 [])<|
Ab 3 [])<|
Ab 2 [])<|
Ab 2 [])<|
Ab 1 [])<|
Ab 0 [Ac 0]
theorem zz1 (v:Option Addr) (b_0 b_1 b_2 b_3 b_4 b_5:Int) (b_6:Sl):FnS (z0f5 v b_0 b_1 b_2 b_3 b_4 b_5 b_6) F.a62 #[.pointer v,.agg #[.int .i64 b_0,.int .i64 b_1,.int .i64 b_2,.int .i64 b_3,.int .i64 b_4,.int .i64 b_5,.slice b_6.a b_6.len b_6.cap]]:=dV ⟨[(309182778366441411431104577,[]),(309484419525534710019129395,[]),(309485009820782118771359773,[])],[],[(5,[(6,.one .adr),(7,.one .bool)])],[]⟩ Go.Proofs.Tryz.func185 (by kernel_rfl)
def z0fk (p:Option Addr) (b_0 b_1 b_2 b_3 b_4 b_5:Int) (b_6:Sl):Prog :=
Af T.a0 (Bw b_0 b_1 b_2 b_3 b_4 b_5 b_6) λa0=>
AH T.a7 λa1=>
.bind 1 [.one .adr,.one (.int .i64)] (
AC<|
Ao p λa3=>
B5 T.a28 a3 4 λp4=>
.hold True (ld T.a0 a0) (sG [.int .i64,.int .i64,.int .i64,.int .i64,.int .i64,.int .i64,.slc]) (u7 λ(n5 n6 n7 n8 n9 n10:Int) l11=>
.both (
AE<|
BM F.a18 [Ad p4,Bw n5 n6 n7 n8 n9 n10 l11] λb12 n13 n14=>
AH T.a7 λa15=>
AK T.a7 a15 (BN b12 n13)<|
Al n14 λn16=>
AE<|
Ab 1 [Ag a15,Ac n16]) <|
AH T.a7 λa17=>
AE<|
BM F.a18 [Ad p4,Bw n5 n6 n7 n8 n9 n10 l11] λb18 n19 n20=>
AK T.a7 a17 (BN b18 n19)<|
Al n20 λn21=>
AE<|
Ab 1 [Ag a17,Ac n21])) (u2 λa22 (n23:Int)=>
Ai ((n23 != 0)=false) T.a3 a22 0 λb24=>
Aa (n23 != 0 || b24) (
BV T.a7 a22 λb25 n26=>
AK T.a7 a1 (BN b25 n26)<|
Al n23 λn27=>
BV T.a7 a1 λb28 n29=>
Ab 0 [BN b28 n29,Ac n27])<|
Aw 1 (
AC<|
.hold True (ld T.a7 a22) (sG [.bool,.int .i64]) (u2 λb30 (n31:Int)=>
Ao p λa33=>
Bq T.a32 a33 5 λp34=>
Bx T.a0 a0 λn35 n36 n37 n38 n39 n40 l41=>
Am F.a57 [Ad p34,Bw n35 n36 n37 n38 n39 n40 l41] λn42=>
AE<|
AK T.a7 a1 (BN b30 n31)<|
Al n42 λn43=>
AE<|
Ab 1 [Ac n43])) λn44=>
BV T.a7 a1 λb45 n46=>
Ab 0 [BN b45 n46,Ac n44])
theorem zzg (p:Option Addr) (b_0 b_1 b_2 b_3 b_4 b_5:Int) (b_6:Sl):FnS (z0fk p b_0 b_1 b_2 b_3 b_4 b_5 b_6) F.a81 #[.pointer p,.agg #[.int .i64 b_0,.int .i64 b_1,.int .i64 b_2,.int .i64 b_3,.int .i64 b_4,.int .i64 b_5,.slice b_6.a b_6.len b_6.cap]]:=dV ⟨[],[],[(1,[(6,.one .adr),(7,.one (.int .i64))]),(4,[(5,.one (.int .i64))])],[]⟩ Go.Proofs.Tryz.func186 (by kernel_rfl)
def z067 (v:Option Addr):Prog :=
Aa (Option.isNone v) (
Ab 0 [.slice none 0 0])<|
Ao v λa1=>
Ap T.a21 a1 1 λm2=>
BW (Instr.range T.a21 (.map m2)) λa3=>
Bf 1 (
.loop 2 [.one .slc] (⟨none,0,0⟩,()) (u1 λl4=>
.next (Instr.next (Ag a3) false T.a64) ([.one (.int .i64),.agg [.int .i64,.int .i64,.int .i64,.int .i64]]) (u5 λ(n5 n6 n7 n8 n9:Int)=>
.act (Instr.entry (Ag a3)) (.tup [.one (.int .i64),.agg [.int .i64,.int .i64,.int .i64,.int .i64]]) (u5 λ(n10 n11 n12 n13 n14:Int)=>
AH T.a18 λa15=>
AK T.a18 a15 (Bj n11 n12 n13 n14)<|
BU T.a18 a15 λn16 n17 n18 n19=>
.call F.a64 [Bj n16 n17 n18 n19] (sG [.int .i64,.int .i64,.int .i64,.int .i64]) (u4 λ(n20 n21 n22 n23:Int)=>
Bc (Instr.buildSlice T.a46 1 #[(0,Bj n20 n21 n22 n23)]) λl24=>
Bc (app T.a46 T.a46 T.a46 l4.v l24.v) λl25=>
Ab 2 [l25.v]))) <|
Ab 1 [l4.v])) λl26=>
An F.a144 [l26.v,.func (Fn.func 259) #[] #[]]<|
Ab 0 [l26.v]
theorem zyy (v:Option Addr) {w:World} {R:List Value->World->Prop} (h:(z067 v).wp P (λ_=>True) w λe vs w'=>e=0/\R vs w') :
  Calls P F.a59 #[.pointer v] w λe w'=>∃ vs,e=.returned (z9e vs)/\R vs w' :=
 z8n (zfy Go.Proofs.Tryz.func202 (by kernel_rfl) (by kernel_rfl) (by kernel_rfl)) zg2 mix [.val (.pointer v)] (by rw [show zi7 P 25 ⟨zhy,[(13,[.one (.int .i64),.agg [.int .i64,.int .i64,.int .i64,.int .i64]]),(15,[.one (.int .i64),.agg [.int .i64,.int .i64,.int .i64,.int .i64]])]⟩ { cnd:=[],blk:=[(0,[(3,.one .slc)])],reg:=[],lps:=[(0,[(3,.one .slc)])] } [.tmp 2] (zay Go.Proofs.Tryz.f202) [.val (.pointer v)]=z067 v from by kernel_rfl];exact h)
def z068 (v:Option Addr):Prog :=
Aa (Option.isNone v) (
Ab 0 [Ac 0])<|
Ao v λa1=>
AR T.a14 a1 0 λn2=>
Al n2 λn3=>
Ao v λa5=>
Ap T.a21 a5 1 λm6=>
BW (Instr.range T.a21 (.map m6)) λa7=>
Aw 1 (
AW 2 (n3,()) λn8=>
.next (Instr.next (Ag a7) false T.a64) ([.one (.int .i64),.agg [.int .i64,.int .i64,.int .i64,.int .i64]]) (u5 λ(n9 n10 n11 n12 n13:Int)=>
.act (Instr.entry (Ag a7)) (.tup [.one (.int .i64),.agg [.int .i64,.int .i64,.int .i64,.int .i64]]) (u5 λ(n14 n15 n16 n17 n18:Int)=>
AH T.a18 λa19=>
AK T.a18 a19 (Bj n15 n16 n17 n18)<|
AR T.a14 a19 2 λn20=>
Al (if n20<n8 then n20 else n8) λn21=>
Ab 2 [Ac n21])) <|
Ab 1 [Ac n8]) λn22=>
Al n22 λn23=>
Ab 0 [Ac n23]
theorem zz0 (v:Option Addr) {w:World} {R:List Value->World->Prop} (h:(z068 v).wp P (λ_=>True) w λe vs w'=>e=0/\R vs w') :
  Calls P F.a61 #[.pointer v] w λe w'=>∃ vs,e=.returned (z9e vs)/\R vs w' :=
 z8n (zfy Go.Proofs.Tryz.func203 (by kernel_rfl) (by kernel_rfl) (by kernel_rfl)) zg2 mix [.val (.pointer v)] (by rw [show zi7 P 26 ⟨zhy,[(17,[.one (.int .i64),.agg [.int .i64,.int .i64,.int .i64,.int .i64]]),(19,[.one (.int .i64),.agg [.int .i64,.int .i64,.int .i64,.int .i64]])]⟩ { cnd:=[],blk:=[(0,[(3,.one (.int .i64))])],reg:=[],lps:=[(0,[(3,.one (.int .i64))])] } [.tmp 2] (zay Go.Proofs.Tryz.f203) [.val (.pointer v)]=z068 v from by kernel_rfl];exact h)
def z0f8 (b_0 b_1 b_2 b_3 b_4 b_5:Int) (b_6:Sl):Prog :=
Af T.a0 (Bw b_0 b_1 b_2 b_3 b_4 b_5 b_6) λa0=>
AR T.a13 a0 4 λn1=>
AD ((n1 == 2)=false) T.a13 a0 4 λn2=>
Aj (n1 == 2 || n2 == 3) λb3=>
Ab 0 [.bool b3]
theorem zz4 (b_0 b_1 b_2 b_3 b_4 b_5:Int) (b_6:Sl):FnS (z0f8 b_0 b_1 b_2 b_3 b_4 b_5 b_6) F.a65 #[.agg #[.int .i64 b_0,.int .i64 b_1,.int .i64 b_2,.int .i64 b_3,.int .i64 b_4,.int .i64 b_5,.slice b_6.a b_6.len b_6.cap]]:=dV ⟨[],[],[],[]⟩ Go.Proofs.Tryz.func204 (by kernel_rfl)
def z07s (s:Sl) (i:Int) (j:Int):Prog :=
.must (0<=i/\i<=j/\j<=(Ak s)/\(Ak s)<=((s.cap:Nat):Int)) <|
Aa (i == j) (
Ab 0 [s.v])<|
Al (Ak s) λn0=>
AC<|
.must (0<=i/\i<=((s.cap:Nat):Int)) <|
.must (0<=j/\j<=(Ak s)) <|
Bc (app T.a48 T.a48 T.a48 (.slice s.a (Int.toNat i) s.cap) (.slice (z0k s.a 5 (Int.toNat j) s.cap) (s.len-Int.toNat j) (s.cap-Int.toNat j))) λl1=>
AE<|
.must (0<=(Ak l1)/\(Ak l1)<=n0/\n0<=((l1.cap:Nat):Int)) <|
AT (Builtin.clear_ #[T.a48] T.a64 #[.slice (z0k l1.a 5 (Int.toNat (Ak l1)) l1.cap) (Int.toNat n0-Int.toNat (Ak l1)) (l1.cap-Int.toNat (Ak l1))])<|
Ab 0 [l1.v]
theorem zrt (s:Sl) (i j:Int):FnS (z07s s i j) F.a140 #[.slice s.a s.len s.cap,.int .i64 i,.int .i64 j]:=dV ⟨[],[],[],[]⟩ Go.Proofs.Tryz.func208 (by kernel_rfl)
def z07v (s:Sl) (i:Int) (v:Sl):Prog :=
.must (0<=i/\i<=(Ak s)) <|
Al (Ak v) λn0=>
Aa (n0 == 0) (
Ab 0 [s.v])<|
Al (Ak s) λn1=>
Aa (i == n1) (
Bc (app T.a48 T.a48 T.a48 s.v v.v) λl2=>
Ab 0 [l2.v])<|
Aa (decide (Av (n1+n0)>((s.cap:Nat):Int))) (
.must (0<=i/\i<=((s.cap:Nat):Int)) <|
Bc (app T.a48 T.a13 T.a48 (.slice s.a (Int.toNat i) s.cap) (Ac (Av (Av (n1+n0)-i)))) λl3=>
.must (0<=i/\i<=(Ak l3)) <|
BX (Builtin.copy_ #[T.a48,T.a48] T.a13 #[.slice (z0k l3.a 5 (Int.toNat i) l3.cap) (l3.len-Int.toNat i) (l3.cap-Int.toNat i),v.v]) λn4=>
AC<|
.must (0<=Av (i+n0)/\Av (i+n0)<=(Ak l3)) <|
.must (0<=i/\i<=(Ak s)) <|
BX (Builtin.copy_ #[T.a48,T.a48] T.a13 #[.slice (z0k l3.a 5 (Int.toNat (Av (i+n0))) l3.cap) (l3.len-Int.toNat (Av (i+n0))) (l3.cap-Int.toNat (Av (i+n0))),.slice (z0k s.a 5 (Int.toNat i) s.cap) (s.len-Int.toNat i) (s.cap-Int.toNat i)]) λn5=>
AE<|
Ab 0 [l3.v])<|
.must (0<=Av (n1+n0)/\Av (n1+n0)<=((s.cap:Nat):Int)) <|
.must (0<=Av (i+n0)/\Av (i+n0)<=((Int.toNat (Av (n1+n0)):Nat):Int)) <|
.act (zk3 264 (#[]++#[v.v,.slice (z0k s.a 5 (Int.toNat (Av (i+n0))) s.cap) (Int.toNat (Av (n1+n0))-Int.toNat (Av (i+n0))) (s.cap-Int.toNat (Av (i+n0)))]++#[])) sB (u1 λb6=>
Aa (not b6) (
AC<|
.must (0<=Av (i+n0)/\Av (i+n0)<=((Int.toNat (Av (n1+n0)):Nat):Int)) <|
.must (0<=i/\i<=((Int.toNat (Av (n1+n0)):Nat):Int)) <|
BX (Builtin.copy_ #[T.a48,T.a48] T.a13 #[.slice (z0k s.a 5 (Int.toNat (Av (i+n0))) s.cap) (Int.toNat (Av (n1+n0))-Int.toNat (Av (i+n0))) (s.cap-Int.toNat (Av (i+n0))),.slice (z0k s.a 5 (Int.toNat i) s.cap) (Int.toNat (Av (n1+n0))-Int.toNat i) (s.cap-Int.toNat i)]) λn7=>
AE<|
.must (0<=i/\i<=((Int.toNat (Av (n1+n0)):Nat):Int)) <|
BX (Builtin.copy_ #[T.a48,T.a48] T.a13 #[.slice (z0k s.a 5 (Int.toNat i) s.cap) (Int.toNat (Av (n1+n0))-Int.toNat i) (s.cap-Int.toNat i),v.v]) λn8=>
Ab 0 [.slice s.a (Int.toNat (Av (n1+n0))) s.cap])<|
.must (0<=n1/\n1<=((Int.toNat (Av (n1+n0)):Nat):Int)) <|
BX (Builtin.copy_ #[T.a48,T.a48] T.a13 #[.slice (z0k s.a 5 (Int.toNat n1) s.cap) (Int.toNat (Av (n1+n0))-Int.toNat n1) (s.cap-Int.toNat n1),v.v]) λn9=>
.must (0<=i/\i<=((Int.toNat (Av (n1+n0)):Nat):Int)) <|
An F.a176 [.slice (z0k s.a 5 (Int.toNat i) s.cap) (Int.toNat (Av (n1+n0))-Int.toNat i) (s.cap-Int.toNat i),Ac n0]<|
Ab 0 [.slice s.a (Int.toNat (Av (n1+n0))) s.cap])
theorem zrw (s:Sl) (i:Int) (v:Sl):FnS (z07v s i v) F.a143 #[.slice s.a s.len s.cap,.int .i64 i,.slice v.a v.len v.cap]:=dV ⟨[],[],[],[]⟩ Go.Proofs.Tryz.func209 (by kernel_rfl)
def z0dy (i:Int) (fv0:Option Addr) (fv1:Option Addr):Prog :=
AC<|
B6 T.a27 fv0 λp0=>
Ao p0 λa2=>
AN T.a48 a2 1 λl3=>
.ex [.adr] (c1 λa4=>0<=i/\i<(Ak l3)/\l3.a=some a4) (u1 λa5=>
Bd T.a57 (Addr.add (Addr.add a5 (Int.toNat i*5)) 1) 0 λs6=>
B3 (Instr.loadAt T.a57 (Ad fv1)) λs7=>
Aj (not (Op.bytesLess (ByteArray.toList s6) (ByteArray.toList s7))) λb8=>
AE<|
Ab 0 [.bool b8])
theorem zxm (i:Int) (fv0 fv1:Option Addr):FnS (z0dy i fv0 fv1) F.a11 #[.int .i64 i,.pointer fv0,.pointer fv1]:=dV ⟨[],[],[],[]⟩ Go.Proofs.Tryz.func211 (by kernel_rfl)
def z0e4 (t:Option Addr) (b_0 b_1 b_2 b_3 b_4 b_5:Int) (b_6:Sl):Prog :=
Af T.a0 (Bw b_0 b_1 b_2 b_3 b_4 b_5 b_6) λa0=>
AH T.a7 λa1=>
Aa (Option.isNone t) (
AK T.a7 a1 (BN false 0)<|
BV T.a7 a1 λb2 n3=>
Ab 0 [BN b2 n3,Ac 1])<|
Bx T.a0 a0 λn4 n5 n6 n7 n8 n9 l10=>
Am F.a96 [Bw n4 n5 n6 n7 n8 n9 l10] λn11=>
Al n11 λn12=>
AD ((n12 != 0)=false) T.a14 a0 1 λn13=>
Aa (n12 != 0 || n13 == 0) (
AK T.a7 a1 (BN false 0)<|
Al n12 λn14=>
BV T.a7 a1 λb15 n16=>
Ab 0 [BN b15 n16,Ac n14])<|
AR T.a14 a0 1 λn17=>
.call F.a22 [Ad t,Ac n17] (.tup [.agg [.int .i64,.int .i64,.int .i64,.int .i64,.int .i64,.int .i64,.int .i64],.one .bool]) (u8 λ(n18 n19 n20 n21 n22 n23 n24:Int) b25=>
AH T.a5 λa26=>
AK T.a5 a26 (BS n18 n19 n20 n21 n22 n23 n24)<|
Aj b25 λb27=>
AR T.a13 a0 2 λn28=>
AR T.a13 a26 1 λn29=>
Aa (decide (n28<n29)) (
Bx T.a0 a0 λn30 n31 n32 n33 n34 n35 l36=>
AA F.a24 [Bw n30 n31 n32 n33 n34 n35 l36] λb37=>
Aa b37 (
AK T.a7 a1 (.agg #[.bool true,Ac (-1)])<|
BV T.a7 a1 λb38 n39=>
Ab 0 [BN b38 n39,Ac 0])<|
AK T.a7 a1 (BN false 0)<|
BV T.a7 a1 λb40 n41=>
Ab 0 [BN b40 n41,Ac 20])<|
Bx T.a0 a0 λn42 n43 n44 n45 n46 n47 l48=>
AA F.a24 [Bw n42 n43 n44 n45 n46 n47 l48] λb49=>
Az 1 (
Aa (not b49) (
BT T.a5 a26 λn50 n51 n52 n53 n54 n55 n56=>
Bx T.a0 a0 λn57 n58 n59 n60 n61 n62 l63=>
.call F.a23 [BS n50 n51 n52 n53 n54 n55 n56,Bw n57 n58 n59 n60 n61 n62 l63] (.tup [.agg [.bool,.int .i64],.one .bool]) (u3 λb64 (n65:Int) b66=>
AH T.a7 λa67=>
AK T.a7 a67 (BN b64 n65)<|
AP b66 (
BV T.a7 a67 λb69 n70=>
AK T.a7 a1 (BN b69 n70)<|
BV T.a7 a1 λb71 n72=>
Ab 0 [BN b71 n72,Ac 0])<|
Ab 1 []))<|
Ab 1 [])<|
BT T.a5 a26 λn73 n74 n75 n76 n77 n78 n79=>
Bx T.a0 a0 λn80 n81 n82 n83 n84 n85 l86=>
Am F.a21 [Ad t,BS n73 n74 n75 n76 n77 n78 n79,.bool b27,Bw n80 n81 n82 n83 n84 n85 l86] λn87=>
AK T.a7 a1 (BN false 0)<|
Al n87 λn88=>
BV T.a7 a1 λb89 n90=>
Ab 0 [BN b89 n90,Ac n88])
theorem zxy (t:Option Addr) (b_0 b_1 b_2 b_3 b_4 b_5:Int) (b_6:Sl):FnS (z0e4 t b_0 b_1 b_2 b_3 b_4 b_5 b_6) F.a18 #[.pointer t,.agg #[.int .i64 b_0,.int .i64 b_1,.int .i64 b_2,.int .i64 b_3,.int .i64 b_4,.int .i64 b_5,.slice b_6.a b_6.len b_6.cap]]:=dV ⟨[(18374686479678046251,[])],[],[],[]⟩ Go.Proofs.Tryz.func245 (by kernel_rfl)
def z0e7 (t:Option Addr) (pid:Int):Prog :=
AH T.a5 λa0=>
Ao t λa2=>
Ap T.a20 a2 2 λm3=>
.read True (Instr.lookup T.a20 (.map m3) (Ac pid) true) (.tup [.agg [.int .i64,.int .i64,.int .i64,.int .i64,.int .i64,.int .i64,.int .i64],.one .bool]) (u8 λ(n4 n5 n6 n7 n8 n9 n10:Int) b11=>
AH T.a5 λa12=>
AK T.a5 a12 (BS n4 n5 n6 n7 n8 n9 n10)<|
Aj b11 λb13=>
Aa (not b13) (
AK T.a5 a0 (.agg #[Ac pid,Ac (-1),Ac 0,Ac 0,Ac 0,Ac (-1),Ac 0])<|
BT T.a5 a0 λn14 n15 n16 n17 n18 n19 n20=>
Ab 0 [BS n14 n15 n16 n17 n18 n19 n20,.bool false])<|
BT T.a5 a12 λn21 n22 n23 n24 n25 n26 n27=>
AK T.a5 a0 (BS n21 n22 n23 n24 n25 n26 n27)<|
BT T.a5 a0 λn28 n29 n30 n31 n32 n33 n34=>
Ab 0 [BS n28 n29 n30 n31 n32 n33 n34,.bool true])
theorem zy1 (t:Option Addr) (pid:Int):FnS (z0e7 t pid) F.a22 #[.pointer t,.int .i64 pid]:=dV ⟨[],[],[],[]⟩ Go.Proofs.Tryz.func246 (by kernel_rfl)
def z0e3 (r_0 r_1 r_2 r_3 r_4 r_5:Int) (r_6:Int):Prog :=
Af T.a5 (BS r_0 r_1 r_2 r_3 r_4 r_5 r_6) λa0=>
AR T.a14 a0 5 λn1=>
Aj (decide (n1>=0)) λb2=>
Ab 0 [.bool b2]
theorem zxw (r_0 r_1 r_2 r_3 r_4 r_5 r_6:Int):FnS (z0e3 r_0 r_1 r_2 r_3 r_4 r_5 r_6) F.a17 #[.agg #[.int .i64 r_0,.int .i64 r_1,.int .i64 r_2,.int .i64 r_3,.int .i64 r_4,.int .i64 r_5,.int .i64 r_6]]:=dV ⟨[],[],[],[]⟩ Go.Proofs.Tryz.func247 (by kernel_rfl)
def z0f3 (v:Option Addr) (b_0 b_1 b_2 b_3 b_4 b_5:Int) (b_6:Sl):Prog :=
Af T.a0 (Bw b_0 b_1 b_2 b_3 b_4 b_5 b_6) λa0=>
Aa (Option.isNone v) (
Ab 0 [Ac 1])<|
Bx T.a0 a0 λn1 n2 n3 n4 n5 n6 l7=>
Am F.a96 [Bw n1 n2 n3 n4 n5 n6 l7] λn8=>
Al n8 λn9=>
Aa (n9 != 0) (
Al n9 λn10=>
Ab 0 [Ac n10])<|
AC<|
AR T.a14 a0 0 λn11=>
Ao v λa13=>
AR T.a14 a13 0 λn14=>
Aj (decide (n11<n14)) λb15=>
AE<|
Aa b15 (
Ab 0 [Ac 8])<|
AR T.a13 a0 4 λn16=>
AP (n16 != 0) (
Bx T.a0 a0 λn18 n19 n20 n21 n22 n23 l24=>
Am F.a63 [Ad v,Bw n18 n19 n20 n21 n22 n23 l24] λn25=>
Al n25 λn26=>
Ab 0 [Ac n26])<|
Ab 0 [Ac 0]
theorem zyx (v:Option Addr) (b_0 b_1 b_2 b_3 b_4 b_5:Int) (b_6:Sl):FnS (z0f3 v b_0 b_1 b_2 b_3 b_4 b_5 b_6) F.a57 #[.pointer v,.agg #[.int .i64 b_0,.int .i64 b_1,.int .i64 b_2,.int .i64 b_3,.int .i64 b_4,.int .i64 b_5,.slice b_6.a b_6.len b_6.cap]]:=dV ⟨[],[],[],[]⟩ Go.Proofs.Tryz.func248 (by kernel_rfl)
def z0f7 (l_0 l_1 l_2:Int) (l_3:Int):Prog :=
Af T.a18 (Bj l_0 l_1 l_2 l_3) λa0=>
AH T.a15 λa1=>
AR T.a14 (Addr.add a0 0) 0 λn2=>
AR T.a13 (Addr.add a0 0) 1 λn3=>
AR T.a14 a0 2 λn4=>
AR T.a14 a0 3 λn5=>
AK T.a15 a1 (Bj n2 n3 n4 n5)<|
BU T.a15 a1 λn6 n7 n8 n9=>
Ab 0 [Bj n6 n7 n8 n9]
theorem zz3 (l_0 l_1 l_2 l_3:Int):FnS (z0f7 l_0 l_1 l_2 l_3) F.a64 #[.agg #[.int .i64 l_0,.int .i64 l_1,.int .i64 l_2,.int .i64 l_3]]:=dV ⟨[],[],[],[]⟩ Go.Proofs.Tryz.func257 (by kernel_rfl)
def z0f4 (a_0 a_1 a_2 a_3 b_0 b_1 b_2:Int) (b_3:Int):Prog :=
Af T.a15 (Bj a_0 a_1 a_2 a_3) λa0=>
Af T.a15 (Bj b_0 b_1 b_2 b_3) λa1=>
AR T.a14 a0 2 λn2=>
AR T.a14 a1 2 λn3=>
Am F.a1 [Ac n2,Ac n3] λn4=>
Al n4 λn5=>
Ab 0 [Ac n5]
theorem zyz (a_0 a_1 a_2 a_3 b_0 b_1 b_2 b_3:Int):FnS (z0f4 a_0 a_1 a_2 a_3 b_0 b_1 b_2 b_3) F.a60 #[.agg #[.int .i64 a_0,.int .i64 a_1,.int .i64 a_2,.int .i64 a_3],.agg #[.int .i64 b_0,.int .i64 b_1,.int .i64 b_2,.int .i64 b_3]]:=dV ⟨[],[],[],[]⟩ Go.Proofs.Tryz.func259 (by kernel_rfl)
def z0e2 (r_0 r_1 r_2 r_3 r_4 r_5:Int) (r_6:Int):Prog :=
Af T.a5 (BS r_0 r_1 r_2 r_3 r_4 r_5 r_6) λa0=>
AR T.a13 a0 2 λn1=>
AR T.a13 a0 3 λn2=>
Al (Av (n1+n2)) λn3=>
Ab 0 [Ac n3]
theorem zxq (r_0 r_1 r_2 r_3 r_4 r_5 r_6:Int):FnS (z0e2 r_0 r_1 r_2 r_3 r_4 r_5 r_6) F.a16 #[.agg #[.int .i64 r_0,.int .i64 r_1,.int .i64 r_2,.int .i64 r_3,.int .i64 r_4,.int .i64 r_5,.int .i64 r_6]]:=dV ⟨[],[],[],[]⟩ Go.Proofs.Tryz.func293 (by kernel_rfl)
def z0e9 (b_0 b_1 b_2 b_3 b_4 b_5:Int) (b_6:Sl):Prog :=
Af T.a0 (Bw b_0 b_1 b_2 b_3 b_4 b_5 b_6) λa0=>
AR T.a13 a0 4 λn1=>
AD ((n1 == 2)=false) T.a13 a0 4 λn2=>
Aj (n1 == 2 || n2 == 3) λb3=>
Ab 0 [.bool b3]
theorem zy3 (b_0 b_1 b_2 b_3 b_4 b_5:Int) (b_6:Sl):FnS (z0e9 b_0 b_1 b_2 b_3 b_4 b_5 b_6) F.a24 #[.agg #[.int .i64 b_0,.int .i64 b_1,.int .i64 b_2,.int .i64 b_3,.int .i64 b_4,.int .i64 b_5,.slice b_6.a b_6.len b_6.cap]]:=dV ⟨[],[],[],[]⟩ Go.Proofs.Tryz.func295 (by kernel_rfl)
def z0e8 (r_0 r_1 r_2 r_3 r_4 r_5 r_6 b_0 b_1 b_2 b_3 b_4 b_5:Int) (b_6:Sl):Prog :=
Af T.a5 (BS r_0 r_1 r_2 r_3 r_4 r_5 r_6) λa0=>
Af T.a0 (Bw b_0 b_1 b_2 b_3 b_4 b_5 b_6) λa1=>
AH T.a7 λa2=>
AB 1 (
AC<|
AR T.a13 a1 2 λn3=>
AR T.a13 a0 1 λn4=>
Bu ((n3 != n4)=false) (ld T.a13 (Addr.add a1 3)) λn5=>
.hold ((n3 != n4)=false) (ld T.a42 (Addr.add a1 6)) sL (u1 λl6=>
.read ((n3 != n4)=false) (ld T.a5 a0) (sG [.int .i64,.int .i64,.int .i64,.int .i64,.int .i64,.int .i64,.int .i64]) (u7 λ(n7 n8 n9 n10 n11 n12 n13:Int)=>
Aa (n3 != n4) (
AE<|
Ab 1 [.bool true])<|
Am F.a16 [BS n7 n8 n9 n10 n11 n12 n13] λn14=>
AE<|
Ab 1 [.bool (decide (Av (n5+(Ak l6))>n14))]))) λb15=>
Aa b15 (
AK T.a7 a2 (BN false 0)<|
BV T.a7 a2 λb16 n17=>
Ab 0 [BN b16 n17,.bool false])<|
AR T.a13 a1 3 λn18=>
AR T.a13 a0 2 λn19=>
AZ ((n18 == n19)=true) T.a42 a1 6 λl20=>
AD ((n18 == n19)=true) T.a13 a0 3 λn21=>
Aa (n18 == n19 && (Ak l20) == n21) (
AR T.a14 a0 4 λn22=>
AK T.a7 a2 (BN true n22)<|
BV T.a7 a2 λb23 n24=>
Ab 0 [BN b23 n24,.bool true])<|
AK T.a7 a2 (.agg #[.bool true,Ac (-1)])<|
BV T.a7 a2 λb25 n26=>
Ab 0 [BN b25 n26,.bool true]
theorem zy2 (r_0 r_1 r_2 r_3 r_4 r_5 r_6 b_0 b_1 b_2 b_3 b_4 b_5:Int) (b_6:Sl):FnS (z0e8 r_0 r_1 r_2 r_3 r_4 r_5 r_6 b_0 b_1 b_2 b_3 b_4 b_5 b_6) F.a23 #[.agg #[.int .i64 r_0,.int .i64 r_1,.int .i64 r_2,.int .i64 r_3,.int .i64 r_4,.int .i64 r_5,.int .i64 r_6],.agg #[.int .i64 b_0,.int .i64 b_1,.int .i64 b_2,.int .i64 b_3,.int .i64 b_4,.int .i64 b_5,.slice b_6.a b_6.len b_6.cap]]:=dV ⟨[],[],[(1,[(21,.one .bool)])],[]⟩ Go.Proofs.Tryz.func296 (by kernel_rfl)
def z0e6 (t:Option Addr) (r_0 r_1 r_2 r_3 r_4 r_5 r_6:Int) (there:Bool) (b_0 b_1 b_2 b_3 b_4 b_5:Int) (b_6:Sl):Prog :=
Af T.a5 (BS r_0 r_1 r_2 r_3 r_4 r_5 r_6) λa0=>
Af T.a0 (Bw b_0 b_1 b_2 b_3 b_4 b_5 b_6) λa1=>
BT T.a5 a0 λn2 n3 n4 n5 n6 n7 n8=>
Am F.a16 [BS n2 n3 n4 n5 n6 n7 n8] λn9=>
Al n9 λn10=>
AR T.a13 a1 2 λn11=>
AR T.a13 a0 1 λn12=>
Aw 1 (
Aa (decide (n11>n12)) (
Ab 1 [Ac 0])<|
Ab 1 [Ac n10]) λn13=>
BT T.a5 a0 λn14 n15 n16 n17 n18 n19 n20=>
AA F.a17 [BS n14 n15 n16 n17 n18 n19 n20] λb21=>
AD (b21=true) T.a13 a1 2 λn22=>
AD (b21=true) T.a13 a0 1 λn23=>
AD (b21=true/\decide (n22>n23)=false) T.a13 a1 4 λn24=>
AP (b21 && (decide (n22>n23) || n24 == 0)) (
Ab 0 [Ac 22])<|
Bx T.a0 a1 λn26 n27 n28 n29 n30 n31 l32=>
AA F.a24 [Bw n26 n27 n28 n29 n30 n31 l32] λb33=>
AD (not b33=true) T.a13 a1 3 λn34=>
AP (not b33 && n34 != n13) (
Ab 0 [Ac 21])<|
AC<|
Ah (not there=true) t λa37=>
AI (not there=true) T.a20 a37 2 λm38=>
BY (not there=true) (Builtin.len_ #[T.a20] T.a13 #[.map m38]) λn39=>
Ah (not there=true) t λa41=>
AD (not there=true) T.a13 a41 0 λn42=>
Aj (not there && decide (n39>=n42)) λb43=>
AE<|
Aa b43 (
Ab 0 [Ac 5])<|
Ab 0 [Ac 0]
theorem zy0 (t:Option Addr) (r_0 r_1 r_2 r_3 r_4 r_5 r_6:Int) (there:Bool) (b_0 b_1 b_2 b_3 b_4 b_5:Int) (b_6:Sl):FnS (z0e6 t r_0 r_1 r_2 r_3 r_4 r_5 r_6 there b_0 b_1 b_2 b_3 b_4 b_5 b_6) F.a21 #[.pointer t,.agg #[.int .i64 r_0,.int .i64 r_1,.int .i64 r_2,.int .i64 r_3,.int .i64 r_4,.int .i64 r_5,.int .i64 r_6],.bool there,.agg #[.int .i64 b_0,.int .i64 b_1,.int .i64 b_2,.int .i64 b_3,.int .i64 b_4,.int .i64 b_5,.slice b_6.a b_6.len b_6.cap]]:=dV ⟨[(2097168,[(9,.one (.int .i64))])],[],[],[]⟩ Go.Proofs.Tryz.func297 (by kernel_rfl)
def z0f6 (v:Option Addr) (b_0 b_1 b_2 b_3 b_4 b_5:Int) (b_6:Sl):Prog :=
Af T.a0 (Bw b_0 b_1 b_2 b_3 b_4 b_5 b_6) λa0=>
AR T.a14 a0 1 λn1=>
AR T.a13 a0 2 λn2=>
AH T.a17 λa3=>
AK T.a17 a3 (Bk n1 n2)<|
AB 1 (
AC<|
Ao v λa5=>
BQ T.a24 a5 2 λm6=>
.hold True (ld T.a17 a3) (sG [.int .i64,.int .i64]) (u2 λ(n7 n8:Int)=>
BR (Instr.lookup T.a24 (.map m6) (Bk n7 n8) true) λn9 n10 n11 n12 b13=>
AH T.a18 λa14=>
AE<|
AK T.a18 a14 (Bj n9 n10 n11 n12)<|
Aj b13 λb15=>
AE<|
Ab 1 [.bool b15])) λb16=>
BO 1 (
AC<|
Ao v λa18=>
BQ T.a21 a18 1 λm19=>
B1 T.a14 a0 1 λn20=>
BR (Instr.lookup T.a21 (.map m19) (Ac n20) true) λn21 n22 n23 n24 b25=>
AH T.a18 λa26=>
AE<|
AK T.a18 a26 (Bj n21 n22 n23 n24)<|
Aj b25 λb27=>
AE<|
Ab 1 [Ag a26,.bool b27]) λa28 b29=>
AP b16 (
Ab 0 [Ac 20])<|
Bl (b29=true) (ld T.a17 (Addr.add a28 0)) λn31 n32=>
Bl (b29=true) (ld T.a17 a3) λn33 n34=>
AP (b29 && not (n31 == n33 && n32 == n34)) (
Ab 0 [Ac 22])<|
AR T.a13 a0 4 λn36=>
Ah ((n36 == 1 && not b29)=true) v λa38=>
AI ((n36 == 1 && not b29)=true) T.a21 a38 1 λm39=>
BY ((n36 == 1 && not b29)=true) (Builtin.len_ #[T.a21] T.a13 #[.map m39]) λn40=>
AP (n36 == 1 && not b29 && decide (n40>=1024)) (
Ab 0 [Ac 5])<|
AR T.a13 a0 4 λn42=>
Ah ((n42 == 3 && b29)=true) v λa44=>
AI ((n42 == 3 && b29)=true) T.a24 a44 2 λm45=>
BY ((n42 == 3 && b29)=true) (Builtin.len_ #[T.a24] T.a13 #[.map m45]) λn46=>
AP (n42 == 3 && b29 && decide (n46>=4096)) (
Ab 0 [Ac 5])<|
Ab 0 [Ac 0]
theorem zz2 (v:Option Addr) (b_0 b_1 b_2 b_3 b_4 b_5:Int) (b_6:Sl):FnS (z0f6 v b_0 b_1 b_2 b_3 b_4 b_5 b_6) F.a63 #[.pointer v,.agg #[.int .i64 b_0,.int .i64 b_1,.int .i64 b_2,.int .i64 b_3,.int .i64 b_4,.int .i64 b_5,.slice b_6.a b_6.len b_6.cap]]:=dV ⟨[],[],[(2,[(7,.one .bool)]),(3,[(8,.one .adr),(9,.one .bool)])],[]⟩ Go.Proofs.Tryz.func298 (by kernel_rfl)
structure AtM where
 off:Int
 r:RecM
def zp (a:AtM):List Value:=[.int .i64 a.off,.string a.r.key,.string a.r.value,.bool a.r.gone,.int .i64 a.r.time]
instance:EncA zp [.int .i64,.str,.str,.bool,.int .i64] (λa=>(a.off,a.r.key,a.r.value,a.r.gone,a.r.time,())):=⟨λ_=>rfl⟩
instance:EncN zp 5:=⟨λ_=>rfl,by decide,by simp [zp,Value.oneCell']⟩
def atF (base:Int) (i:Nat) (r:RecM):AtM:=⟨IntKind.wrap .i64 (base+i),r⟩
def z0o (b:BatM):List AtM:=if z0i b then [] else b.rs.mapIdx λi r=>atF b.base i r
def z16 (bs:List BatM):List AtM:=bs.flatMap z0o
theorem zbw (b:BatM):(z0o b).length<=b.rs.length:=by unfold z0o;split <;> simp
theorem zln {n:Nat}:∀ (bs:List BatM),(∀ b ∈ bs,b.rs.length<=n)->(z16 bs).length<=bs.length*n
 | [],_=>by simp [z16]
 | b::r,h=>by
  have h1:=zln r λc hc=>h c (List.mem_cons_of_mem _ hc);have h2:=zbw b;have h3:=h b (List.mem_cons_self ..);unfold z16 at h1 ⊢;rw [List.flatMap_cons,List.length_append,List.length_cons,Nat.succ_mul];omega
theorem zqe {α β:Type} (f:Nat->α->β) {xs:List α} {i:Nat} (hi:i<xs.length):(xs.take (i+1)).mapIdx f=(xs.take i).mapIdx f++[f i xs[i]]:=by
 rw [List.take_add_one,List.getElem?_eq_getElem hi,Option.toList_some,List.mapIdx_append];simp only [List.mapIdx_cons,List.mapIdx_nil,List.length_take];rw [Nat.min_eq_left (by omega),Nat.zero_add]
section
variable {w:World} {l r:List HP} {b:BatM}
theorem zu3 (b:BatM) (hs:Sat w l):Ret P F.a65 #[.agg (z01 b).toArray] w λvs w'=>vs=[.bool (z0i b)]/\Sat w' l :=
 zz4 b.base b.pid b.epoch b.seq b.kind b.time b.x <| by
  delta z0f8 AD AR Ab Af Aj Bw;refine zr hs λa0 w' hs=>z8 hs (z8 hs ?_);exact wp_lt ⟨rfl,rfl,hs.tail⟩
theorem z00n (x:Sl) (bs:List BatM) [hx:FocR l x 7 (bs.flatMap z01)] (hbs:∀ b ∈ bs,FocR l b.x 4 (b.rs.flatMap z0f)) (hn:bs.length<=1000) (hr:∀ b ∈ bs,b.rs.length<=1000) (hs:Sat w l) :
  Ret P F.a92 #[x.v] w λvs w'=>∃ z:Sl,vs=[z.v]/\Sat w' (slc T.a40 5 z ((z16 bs).flatMap zp)::l) :=
 zzr x <| by
  delta z0fw AA AH AK AN AR Aa Ab Ac Ak Al Av B0 Bc Bf Br Bv Bw Bx By Bz;have hl:=hs.slen x (xs:=bs) (enc:=z01);refine zj (λv w'=>∃ z:Sl,v=(z,())/\Sat w' (slc T.a40 5 z ((z16 bs).flatMap zp)::l)) ?_ (by rintro _ w' ⟨z,rfl,hs⟩;refine zh ?_;exact ⟨rfl,z,rfl,hs⟩);refine z0a (λk v w=>∃ (i:Nat) (z:Sl),v=(z,(i:Int),())/\i<=bs.length/\bs.length-i=k/\Sat w (slc T.a40 5 z ((z16 (bs.take i)).flatMap zp)::l)) bs.length ⟨0,⟨none,0,0⟩,rfl,by omega,rfl,hs.slc_nil⟩ ?_;clear hs;rintro k _ w ⟨i,z,rfl,hi,hk,hs⟩;refine zh (zi (λhc=>?_) λhc=>?_);rotate_left
  ·refine zm (zg ⟨z,rfl,?_⟩);rw [List.take_of_length_le (by omega)] at hs;exact hs
  have hil:i<bs.length:=by omega
  have hbx:=hbs _ (List.getElem_mem hil);have hbr:=hr _ (List.getElem_mem hil)
  have hto:z16 (bs.take (i+1))=z16 (bs.take i)++z0o bs[i]:=by
   unfold z16;rw [List.take_add_one,List.getElem?_eq_getElem hil,Option.toList_some,List.flatMap_append,List.flatMap_singleton]
  have hzl:(z16 (bs.take i)).length<=1000000:=by
   have h1:=zln (n:=1000) (bs.take i) λb hb=>hr b (List.mem_of_mem_take hb)
   have h2:(bs.take i).length<=1000:=by rw [List.length_take];omega
   have:=Nat.mul_le_mul_right 1000 h2;omega
  refine zj (λv w'=>∃ z:Sl,v=(z,())/\Sat w' (slc T.a40 5 z ((z16 (bs.take (i+1))).flatMap zp)::l)) ?_ ?_;rotate_left
  ·rintro _ w' ⟨z,rfl,hs⟩;refine zh (z22 (us':=[z.v,.int .i64 ((i+1:Nat):Int)]) (by (try simp (disch:=omega) only [w64]);first|rfl|(congr;omega)) ?_);exact z0x (bs.length-(i+1)) ⟨i+1,z,rfl,by omega,rfl,hs⟩
  refine z5b hs i hil (zu hs λc w' hs=>?_);refine zv hs λw' hs=>zl hs (zb (z7k bs[i] hs) λ_ _ hs=>?_);obtain ⟨rfl,hs⟩:=hs;refine zd (zi (λhm=>?_) λhm=>?_)
  ·refine zg ⟨z,rfl,?_⟩;rw [hto,z0o,if_pos hm,List.append_nil];exact hs.sub
  refine z8 hs ?_;have hrl:=hs.slen bs[i].x (xs:=bs[i].rs) (enc:=z0f)
  have hfl:z0o bs[i]=bs[i].rs.mapIdx λj r=>atF bs[i].base j r:=by rw [z0o,if_neg hm]
  refine zj (λv w'=>∃ z:Sl,v=(z,())/\Sat w' (slc T.a40 5 z ((z16 (bs.take i)++bs[i].rs.mapIdx λj r=>atF bs[i].base j r).flatMap zp)::l)) ?_ ?_;rotate_left
  ·rintro _ w' ⟨z,rfl,hs⟩;refine zh (zg ⟨z,rfl,?_⟩);rw [hto,hfl];exact hs
  refine z0a (λk v w=>∃ (j:Nat) (z:Sl),v=(z,(j:Int),())/\j<=bs[i].rs.length/\bs[i].rs.length-j=k/\Sat w (slc T.a40 5 z ((z16 (bs.take i)++(bs[i].rs.take j).mapIdx λj r=>atF bs[i].base j r).flatMap zp)::pt c (.cells #[.int .i64 bs[i].base,.int .i64 bs[i].pid,.int .i64 bs[i].epoch,.int .i64 bs[i].seq,.int .i64 bs[i].kind,.int .i64 bs[i].time,.slice bs[i].x.a bs[i].x.len bs[i].x.cap] T.a0)::l)) bs[i].rs.length ⟨0,z,rfl,by omega,rfl,by rw [List.take_zero,List.mapIdx_nil,List.append_nil];exact hs.sub⟩ ?_;clear hs;rintro k _ w ⟨j,z,rfl,hj,hk,hs⟩;refine zh (zi (λhc=>?_) λhc=>?_);rotate_left
  ·refine zm (zg ⟨z,rfl,?_⟩);rw [show bs[i].rs.take j=bs[i].rs from List.take_of_length_le (by omega)] at hs;exact hs.sub
  have hjl:j<bs[i].rs.length:=by omega
  refine z5b hs j hjl (zu hs λe w' hs=>?_);refine wp_lt (zv hs λw' hs=>?_);refine z8 hs (zl hs ?_);refine z66 hs (xs:=z16 (bs.take i)++(bs[i].rs.take j).mapIdx λj r=>atF bs[i].base j r) (enc:=zp) (atF bs[i].base j bs[i].rs[j]) (λz w' hs=>?_) rfl (by rw [List.length_append,List.length_mapIdx,List.length_take];omega);refine z22 (us':=[z.v,.int .i64 ((j+1:Nat):Int)]) (by (try simp (disch:=omega) only [w64]);first|rfl|(congr;omega)) (z0x (bs[i].rs.length-(j+1)) ?_);refine ⟨j+1,z,rfl,by omega,rfl,?_⟩;rw [zqe _ hjl,<- List.append_assoc];exact hs.sub
end
abbrev polyB:BitVec 32:=0xEDB88320#32
def z037 (s:BitVec 32):BitVec 32:=(s >>> 1) ^^^ (polyB &&& (0#32-(s &&& 1#32)))
def zvr:Nat->BitVec 32->BitVec 32
 | 0,s=>s
 | k+1,s=>z037 (zvr k s)
def zvq (s:BitVec 32) (c:UInt8):BitVec 32:=zvr 8 (s ^^^ BitVec.ofNat 32 c.toNat)
def z6d (s:BitVec 32) (bs:List UInt8):BitVec 32:=bs.foldl zvq s
def zwg (x:BitVec 32) (bs:List UInt8):BitVec 32 := ~~~ (z6d (~~~ x) bs)
def zbk (bs:List UInt8):Nat:=(zwg 0#32 bs).toNat
def z47 (n:Nat):List UInt8:=[UInt8.ofNat n,UInt8.ofNat (n / 256),UInt8.ofNat (n / 65536),UInt8.ofNat (n / 16777216)]
def z0m:List UInt8->Nat
 | a::b::c::d::_=>a.toNat+256*b.toNat+65536*c.toNat+16777216*d.toNat
 | _=>0
def z3n (bs:List UInt8):List UInt8:=z47 bs.length++bs
def z3w (bs:List UInt8):List UInt8:=if bs.length>262144 then [] else z3n bs++z47 (zbk (z3n bs))
def z1c (b:List UInt8):Option (List UInt8 × Nat) :=
 if b.length<8\/z0m b>262144\/z0m b+8>b.length then none else if z0m (b.drop (z0m b+4))=zbk (b.take (z0m b+4)) then some ((b.drop 4).take (z0m b),z0m b+8) else none
theorem z01d (a b c d:UInt8) (r:List UInt8):z0m (a::b::c::d::r)=a.toNat+256*b.toNat+65536*c.toNat+16777216*d.toNat:=rfl
theorem zox {n:Nat} (h:n<4294967296) (r:List UInt8):z0m (z47 n++r)=n:=by
 unfold z47 z0m;simp;omega
theorem zhi:∀ (b:List UInt8),4<=b.length->z47 (z0m b)=b.take 4/\z0m b<4294967296
 | a::b::c::d::r,_=>by
  have h1:=a.toNat_lt;have h2:=b.toNat_lt;have h3:=c.toNat_lt;have h4:=d.toNat_lt;rw [z01d];refine ⟨?_,by omega⟩
  have e:∀ (x:UInt8) (n:Nat),n % 256=x.toNat->UInt8.ofNat n=x:=λx n h=>by
   apply UInt8.toNat_inj.1;simp [h]
  unfold z47;rw [e a _ (by omega),e b _ (by omega),e c _ (by omega),e d _ (by omega)];rfl
theorem z6s (n:Nat):(z47 n).length=4:=rfl
theorem zv4 (bs:List UInt8):zbk bs<4294967296:=(zwg 0#32 bs).isLt
theorem zaa {bs:List UInt8} (h:bs.length<=262144) (r:List UInt8):z1c (z3w bs++r)=some (bs,bs.length+8):=by
 have hs:=zv4 (z3n bs)
 have hl:(z3n bs).length=bs.length+4:=by unfold z3n;rw [List.length_append,z6s];omega
 have e0:z3w bs++r=z3n bs++(z47 (zbk (z3n bs))++r):=by unfold z3w;rw [if_neg (by omega),List.append_assoc]
 have e1:z0m (z3w bs++r)=bs.length:=by
  rw [e0];unfold z3n;rw [List.append_assoc];exact zox (by omega) _
 have e2:(z3w bs++r).length=bs.length+8+r.length:=by
  rw [e0,List.length_append,List.length_append,hl,z6s];omega
 unfold z1c;rw [e1,e2,if_neg (by omega),e0,<- hl,List.drop_left,List.take_left,zox hs,if_pos rfl]
 congr 2
 unfold z3n;rw [List.append_assoc,show (4:Nat)=(z47 bs.length).length from rfl,List.drop_left,List.take_left]
theorem z8e {b body:List UInt8} {n:Nat} (h:z1c b=some (body,n)):n=body.length+8/\n<=b.length/\body.length<=262144/\b.take n=z3w body:=by
 unfold z1c at h;split at h
 ·cases h
 rename_i h1
 split at h
 ·rename_i h2
  simp only [Option.some.injEq,Prod.mk.injEq] at h;obtain ⟨rfl,rfl⟩:=h
  have hbl:((b.drop 4).take (z0m b)).length=z0m b:=by rw [List.length_take,List.length_drop];omega
  refine ⟨by rw [hbl],by omega,by rw [hbl];omega,?_⟩
  have hh:z3n ((b.drop 4).take (z0m b))=b.take (z0m b+4):=by
   unfold z3n;rw [hbl,(zhi b (by omega)).1,Nat.add_comm,List.take_add]
  unfold z3w;rw [if_neg (by rw [hbl];omega),hh,<- h2,(zhi (b.drop (z0m b+4)) (by rw [List.length_drop];omega)).1,show z0m b+8=(z0m b+4)+4 from rfl,List.take_add]
 ·cases h
theorem z00j (b:List UInt8):z1c b=if b.length<8\/z0m b>262144\/z0m b+8>b.length then none else if z3w ((b.drop 4).take (z0m b))=b.take (z0m b+8) then some ((b.drop 4).take (z0m b),z0m b+8) else none:=by
 by_cases h1:b.length<8\/z0m b>262144\/z0m b+8>b.length
 ·unfold z1c;rw [if_pos h1,if_pos h1]
 rw [if_neg h1]
 by_cases h2:z3w ((b.drop 4).take (z0m b))=b.take (z0m b+8)
 ·rw [if_pos h2]
  have hbl:((b.drop 4).take (z0m b)).length=z0m b:=by rw [List.length_take,List.length_drop];omega
  have h3:=zaa (bs:=(b.drop 4).take (z0m b)) (by rw [hbl];omega) (b.drop (z0m b+8));rw [h2,List.take_append_drop,hbl] at h3;exact h3
 ·rw [if_neg h2]
  cases hf:z1c b with
  | none=>rfl
  | some q =>
   obtain ⟨g1,g2,g3,g4⟩:=z8e (body:=q.1) (n:=q.2) hf;unfold z1c at hf;rw [if_neg h1] at hf;split at hf
   ·simp only [Option.some.injEq] at hf;subst hf;exact absurd g4.symm h2
   ·cases hf
def shB (base fin:Int):List UInt8:=83::(uI base++uI fin)
def shL (base fin:Int):List UInt8:=z3w (shB base fin)
def frL (b:BatM):List UInt8:=z3w (z2y b)
structure SegA where
 base:Int
 fin:Int
 bs:List BatM
def SegA.file (s:SegA):List UInt8:=shL s.base s.fin++s.bs.flatMap frL
def z0s (bs:List BatM):Int:=match bs.getLast? with
 | none=>0
 | some b=>b.base+zo b
def SegA.reach (s:SegA):Int:=max (max s.base s.fin) (z0s s.bs)
def z6n (x:Int) (rs:List RecM):Int:=rs.foldl (λt r=>max t r.time) x
def z3o (b:BatM):Int:=if b.rs=[] then b.time else z6n (-1) b.rs
def z1o (x:Int) (bs:List BatM):Int:=bs.foldl (λt b=>max t (z3o b)) x
def zn (l:List SegA):Int:=match l.getLast? with
 | none=>0
 | some s=>s.reach
def z19 (l:List SegA):Int:=match l with
 | []=>0
 | s::_=>s.base
def z21:Int->List BatM->Prop
 | _,[]=>True
 | n,b::bs=>z02 b=0/\b.p=b/\n<=b.base/\z21 (b.base+zo b) bs
structure SegOk (s:SegA):Prop where
 base:0<=s.base/\s.base<=1099511627776
 fin:s.fin=0\/(s.base<s.fin/\s.fin<=1099511627776)
 bs:z21 s.base s.bs
def z15:Int->List SegA->Prop
 | _,[]=>True
 | n,s::r=>n<=s.base/\SegOk s/\z15 (max s.reach (s.base+1)) r
def z6j (base:Int) (body:List UInt8):Option Int :=
 let a:=z14 (some body)
 let b:=z0n a.2
 let c:=z0n b.2
 if c.2=some []/\a.1=83/\(b.1:Int)=base/\base<=1099511627776/\c.1<=1099511627776/\(c.1=0\/base<c.1) then some c.1 else none
def z2r:Nat->Int->List UInt8->List BatM × Nat
 | 0,_,_=>([],0)
 | k+1,n,raw=>match z1c raw with
  | none=>([],0)
  | some (body,m)=>match z6r body with
   | none=>([],0)
   | some b=>if b.base<n then ([],0) else (b::(z2r k (b.base+zo b) (raw.drop m)).1,m+(z2r k (b.base+zo b) (raw.drop m)).2)
def z6l (base:Int) (raw:List UInt8):Option (SegA × Nat):=match z1c raw with
 | none=>none
 | some (body,m)=>match z6j base body with
  | none=>none
  | some fin=>some (⟨base,fin,(z2r raw.length base (raw.drop m)).1⟩,m+(z2r raw.length base (raw.drop m)).2)
theorem zbg {bs:List UInt8} (h:bs.length<=262144):(z3w bs).length=bs.length+8:=by
 unfold z3w;rw [if_neg (by omega),List.length_append,z6s];show (z47 _++_).length+4=_;rw [List.length_append,z6s];omega
theorem zko (base fin:Int):3<=(shB base fin).length/\(shB base fin).length<=21:=by
 have h1:=z1y base;have h2:=z1y fin;unfold shB;rw [List.length_cons,List.length_append];omega
theorem zkp (base fin:Int):11<=(shL base fin).length/\(shL base fin).length<=29:=by
 have h:=zko base fin;unfold shL;rw [zbg (by omega)];omega
theorem z057 {time:Int} {ahead:ByteArray} {r:RecM}:(z75 time ahead r).length<=31+r.key.size+10+r.value.size:=by
 unfold z75 z80;have h1:=zmj (r.time-time);have h2:=z1y ((z0q (bl ahead) (bl r.key):Nat):Int);have h3:=z1y (((r.key.size-z0q (bl ahead) (bl r.key):Nat)):Int);have h4:=z1y (r.value.size:Int);have h5:=z10 r.key;have h6:=z10 r.value;simp only [List.length_append,List.length_cons,List.length_drop];split
 ·simp only [List.length_nil];omega
 ·simp only [List.length_append];omega
theorem zfj {time:Int} {n:Nat}:∀ {rs:List RecM} {ahead:ByteArray},(∀ r ∈ rs,r.key.size+r.value.size<=n)->(z2w time ahead rs).length<=rs.length*(41+n)
 | [],_,_=>by simp [z2w]
 | r::rs,ahead,h=>by
  have h1:=z057 (time:=time) (ahead:=ahead) (r:=r);have h2:=zfj (time:=time) (n:=n) (rs:=rs) (ahead:=r.key) λx hx=>h x (List.mem_cons_of_mem _ hx);have h3:=h r (List.mem_cons_self ..);unfold z2w;rw [List.length_append,List.length_cons,Nat.add_mul];omega
theorem ztn {b:BatM} {n:Nat} (h:∀ r ∈ b.rs,r.key.size+r.value.size<=n):2<=(z2y b).length/\(z2y b).length<=62+b.rs.length*(41+n):=by
 have h1:=z1y b.base;have h2:=z1y b.pid;have h3:=z1y b.epoch;have h4:=z1y b.seq;have h5:=z1y b.time;have h6:=z1y (b.rs.length:Nat);have h7:=zfj (time:=b.time) (ahead:=⟨#[]⟩) h;unfold z2y;simp only [List.length_cons,List.length_append];split <;> split <;> simp only [List.length_nil,List.length_append] <;> omega
theorem z84 {b:BatM} (hv:z02 b=0):2<=(z2y b).length/\(z2y b).length<=262144:=by
 obtain ⟨h64,hrs⟩:=z2x hv
 have h:=ztn (b:=b) (n:=2048) λr hr=>by
  obtain ⟨h1,h2,-⟩:=z5t (hrs r hr);omega
 have:b.rs.length*(41+2048)<=64*(41+2048):=Nat.mul_le_mul_right _ h64;omega
theorem z68 {b:BatM} (hv:z02 b=0):10<=(frL b).length/\(frL b).length=(z2y b).length+8:=by
 have h:=z84 hv;unfold frL;rw [zbg h.2];omega
theorem zw3 {base fin:Int} (hb:0<=base/\base<=1099511627776) (hf:fin=0\/(base<fin/\fin<=1099511627776)):z6j base (shB base fin)=some fin:=by
 unfold z6j shB;have e1:z14 (some (83::(uI base++uI fin)))=(83,some (uI base++uI fin)):=rfl;have e2:z0n (some (uI base++uI fin))=(base.toNat,some (uI fin)):=z7m (by omega) _
 have e3:z0n (some (uI fin))=(fin.toNat,some []):=by
  have:=z7m (v:=fin.toNat) (by omega) []
  rwa [List.append_nil] at this
 simp only [e1,e2,e3];rw [if_pos ⟨trivial,trivial,by omega,by omega,by omega,by omega⟩]
 congr 1
 omega
theorem zlr {base fin:Int} {body:List UInt8} (h:z6j base body=some fin):(0<=base/\base<=1099511627776)/\(fin=0\/(base<fin/\fin<=1099511627776))/\body=shB base fin:=by
 unfold z6j at h;simp only at h;split at h;rotate_left
 ·cases h
 rename_i hc
 obtain ⟨h1,h2,h3,h4,h5,h6⟩:=hc;simp only [Option.some.injEq] at h;have i1:=z8l h1;have i2:=z8l i1.2;have i3:=zek i2.2;refine ⟨by omega,by omega,?_⟩;have e:=i3.2;rw [h2] at e;simp only [Option.some.injEq] at e;rw [e];unfold shB uI
 have e1:base.toNat=(z0n (z14 (some body)).2).1:=by omega
 have e2:fin.toNat=(z0n (z0n (z14 (some body)).2).2).1:=by omega
 rw [e1,e2,List.append_nil];rfl
theorem z21.mono {m n:Int} {bs:List BatM} (h:z21 n bs) (hm:m<=n):z21 m bs:=by
 cases bs with
 | nil=>trivial
 | cons b bs=>exact ⟨h.1,h.2.1,by have:=h.2.2.1;omega,h.2.2.2⟩
theorem z21.valid:∀ {n:Int} {bs:List BatM},z21 n bs->∀ b ∈ bs,z02 b=0/\b.p=b
 | _,b::bs,h,x,hx=>by
  rcases List.mem_cons.1 hx with rfl|hx
  ·exact ⟨h.1,h.2.1⟩
  ·exact h.2.2.2.valid x hx
theorem z00k:z1c []=none:=by
 rw [z00j,if_pos (by simp)]
theorem zjj:∀ {bs:List BatM} {n:Int} {k:Nat} {rest:List UInt8},z21 n bs->bs.length<=k->z1c rest=none->z2r k n (bs.flatMap frL++rest)=(bs,(bs.flatMap frL).length)
 | [],n,0,rest,_,_,_=>rfl
 | [],n,k+1,rest,_,_,hr=>by
  unfold z2r;rw [List.flatMap_nil,List.nil_append,hr];rfl
 | b::bs,n,0,rest,_,hk,_=>by simp at hk
 | b::bs,n,k+1,rest,⟨hv,hp,hn,ho⟩,hk,hr=>by
  have hl:=z84 hv;have hf:=z68 hv;unfold z2r;rw [List.flatMap_cons,List.append_assoc];have e:z1c (frL b++(bs.flatMap frL++rest))=some (z2y b,(z2y b).length+8):=zaa hl.2 _;rw [e];simp only;rw [zlb hv];simp only;rw [hp,if_neg (by omega),<- hf.2,List.drop_left,zjj ho (by simpa using hk) hr,List.length_append]
theorem zmo:∀ {k:Nat} {n:Int} {raw:List UInt8},z21 n (z2r k n raw).1/\raw.take (z2r k n raw).2=(z2r k n raw).1.flatMap frL/\(z2r k n raw).2<=raw.length
 | 0,n,raw=>⟨trivial,by simp [z2r],Nat.zero_le _⟩
 | k+1,n,raw=>by
  unfold z2r
  cases hf:z1c raw with
  | none=>exact ⟨trivial,by simp,Nat.zero_le _⟩
  | some q =>
   obtain ⟨body,m⟩:=q;simp only
   cases hd:z6r body with
   | none=>exact ⟨trivial,by simp,Nat.zero_le _⟩
   | some b =>
    simp only
    by_cases hb:b.base<n
    ·rw [if_pos hb];exact ⟨trivial,by simp,Nat.zero_le _⟩
    rw [if_neg hb];obtain ⟨i1,i2,i3⟩:=zmo (k:=k) (n:=b.base+zo b) (raw:=raw.drop m);obtain ⟨d1,d2,d3⟩:=zo0 hd;obtain ⟨f1,f2,f3,f4⟩:=z8e hf;rw [List.length_drop] at i3;refine ⟨⟨d1,d3,by omega,i1⟩,?_,by simp only;omega⟩;simp only;rw [List.take_add,f4,i2,List.flatMap_cons,<- d2];rfl
theorem zb1:∀ {n:Int} {bs:List BatM},z21 n bs->bs.length*10<=(bs.flatMap frL).length
 | _,[],_=>by simp
 | _,b::bs,⟨h1,_,_,h⟩=>by
  have:=zb1 h;have:=z68 h1;rw [List.flatMap_cons,List.length_append,List.length_cons];omega
theorem z4h (s:SegA):s.file.length=(shL s.base s.fin).length+(s.bs.flatMap frL).length:=by
 unfold SegA.file;rw [List.length_append]
theorem z01w {s:SegA} (h:SegOk s) {rest:List UInt8} (hr:z1c rest=none):z6l s.base (s.file++rest)=some (s,s.file.length):=by
 have hl:=zko s.base s.fin;unfold z6l
 have e0:s.file++rest=z3w (shB s.base s.fin)++(s.bs.flatMap frL++rest):=by
  unfold SegA.file shL;rw [List.append_assoc]
 have e:z1c (s.file++rest)=some (shB s.base s.fin,(shB s.base s.fin).length+8):=by
  rw [e0];exact zaa (by omega) _
 rw [e];simp only;rw [zw3 h.base h.fin];simp only
 have e2:(s.file++rest).drop ((shB s.base s.fin).length+8)=s.bs.flatMap frL++rest:=by
  rw [e0,<- zbg (show (shB s.base s.fin).length<=262144 by omega),List.drop_left]
 have e3:s.bs.length<=(s.file++rest).length:=by
  have:=zb1 h.bs;rw [List.length_append,z4h];omega
 rw [e2,zjj h.bs e3 hr,z4h];unfold shL;rw [zbg (by omega)]
theorem z01v {s:SegA} (h:SegOk s):z6l s.base s.file=some (s,s.file.length):=by
 have:=z01w h z00k
 rwa [List.append_nil] at this
theorem z05f {base:Int} {raw:List UInt8} {s:SegA} {m:Nat} (h:z6l base raw=some (s,m)):SegOk s/\s.base=base/\raw.take m=s.file/\m<=raw.length/\m=s.file.length:=by
 unfold z6l at h
 cases hf:z1c raw with
 | none=>rw [hf] at h;cases h
 | some q =>
  obtain ⟨body,k⟩:=q;rw [hf] at h;simp only at h
  cases hh:z6j base body with
  | none=>rw [hh] at h;cases h
  | some fin =>
   rw [hh] at h;simp only [Option.some.injEq,Prod.mk.injEq] at h;obtain ⟨rfl,rfl⟩:=h;obtain ⟨h1,h2,h3⟩:=zlr hh;obtain ⟨i1,i2,i3⟩:=zmo (k:=raw.length) (n:=base) (raw:=raw.drop k);obtain ⟨f1,f2,f3,f4⟩:=z8e hf;rw [List.length_drop] at i3
   have e:raw.take (k+(z2r raw.length base (raw.drop k)).2)=SegA.file ⟨base,fin,(z2r raw.length base (raw.drop k)).1⟩:=by
    rw [List.take_add,f4,i2,h3];rfl
   refine ⟨⟨h1,h2,i1⟩,rfl,e,by omega,?_⟩;rw [<- e,List.length_take];omega
theorem z21.take:∀ {n:Int} {bs:List BatM} (k:Nat),z21 n bs->z21 n (bs.take k)
 | _,[],k,_=>by simp [z21]
 | _,b::bs,0,_=>trivial
 | _,b::bs,k+1,⟨h1,h2,h3,h4⟩=>⟨h1,h2,h3,h4.take k⟩
theorem z25 {α:Type} (l:List α) (x:α):(l++[x]).getLast? = some x:=by simp
theorem z60 (bs:List BatM) (b:BatM):z0s (bs++[b])=b.base+zo b:=by
 unfold z0s;rw [z25]
theorem ziv (x:Int) (bs:List BatM) (b:BatM):z1o x (bs++[b])=max (z1o x bs) (z3o b):=by
 unfold z1o;rw [List.foldl_append];rfl
theorem z21.next:∀ {n:Int} {bs:List BatM},0<=n->z21 n bs->(bs≠[]->n<z0s bs)/\(bs=[]->z0s bs=0)/\z0s bs<=1099511627777
 | _,[],_,_=>⟨λh=>absurd rfl h,λ_=>rfl,by decide⟩
 | n,b::bs,hn,⟨h1,h2,h3,h4⟩=>by
  obtain ⟨s1,-,⟨-,hba,-⟩,-,s2⟩:=z1d b h1;obtain ⟨i1,i2,i3⟩:=h4.next (by omega)
  by_cases hb:bs=[]
  ·subst hb;have e:z0s [b]=b.base+zo b:=z60 [] b;rw [e];exact ⟨λ_=>by omega,(λh=>by cases h),by omega⟩
  ·have e:z0s (b::bs)=z0s bs:=by
    unfold z0s
    cases bs with
    | nil=>exact absurd rfl hb
    | cons c cs=>rfl
   rw [e];have:=i1 hb;exact ⟨λ_=>by omega,(λh=>by cases h),i3⟩
theorem z74 {s:SegA} (h:SegOk s):s.base<=s.reach/\s.fin<=s.reach/\z0s s.bs<=s.reach/\s.reach<=1099511627777/\(s.bs≠[]->s.base<z0s s.bs):=by
 obtain ⟨i1,i2,i3⟩:=h.bs.next h.base.1;have h1:=h.base;have h2:=h.fin;unfold SegA.reach;refine ⟨by omega,by omega,by omega,by omega,i1⟩
structure EntA where
 offset:Int
 place:Int
 before:Int
structure IdxA where
 offset:Int
 place:Int
 late:Int
 gap:Int
 l:List EntA
def zex (gap:Int):IdxA:=⟨-1,-1,-1,gap,[]⟩
def zdp (o p t:Int):Prop:=(0<=o/\o<=1099511627776)/\(0<=p/\p<=4194304)/\(0<=t/\t<=1099511627776)
instance (o p t:Int):Decidable (zdp o p t):=by unfold zdp;infer_instance
def z04d (x:IdxA) (p:Int):Bool:=match x.l.getLast? with
 | none=>true
 | some e=>decide (p-e.place>=x.gap)
def z54 (x:IdxA) (o p:Int):List EntA:=if z04d x p then x.l++[⟨o,p,x.late⟩] else x.l
def zc1 (x:IdxA) (o p t:Int):Int × IdxA:=if ¬ zdp o p t then (2,x) else if o<=x.offset\/p<=x.place then (21,x) else (0,⟨o,p,max x.late t,x.gap,z54 x o p⟩)
def zdg:IdxA->Int->List BatM->IdxA
 | x,_,[]=>x
 | x,q,b::bs=>zdg (zc1 x b.base q (z3o b)).2 (q+(frL b).length) bs
def SegA.idx (gap:Int) (s:SegA):IdxA:=zdg (zex gap) (shL s.base s.fin).length s.bs
def z3l (l:List EntA) (o:Int):Option EntA:=(l.filter λe=>decide (e.offset<=o)).getLast?
theorem zey:∀ (bs:List BatM) (x:IdxA) (q:Int) (b:BatM),zdg x q (bs++[b])=(zc1 (zdg x q bs) b.base (q+(bs.flatMap frL).length) (z3o b)).2
 | [],x,q,b=>by simp [zdg]
 | a::bs,x,q,b=>by
  show zdg (zc1 x a.base q (z3o a)).2 (q+(frL a).length) (bs++[b])=_;rw [zey bs];rw [show q+((frL a).length:Int)+((bs.flatMap frL).length:Nat)=q+(((a::bs).flatMap frL).length:Nat) by rw [List.flatMap_cons,List.length_append];omega];rfl
theorem zpx:∀ {rs:List RecM} {x:Int},x<=z6n x rs/\∀ r ∈ rs,r.time<=z6n x rs
 | [],x=>⟨Int.le_refl _,λ_ h=>by cases h⟩
 | r::rs,x=>by
  have h:=zpx (rs:=rs) (x:=max x r.time);have e:z6n x (r::rs)=z6n (max x r.time) rs:=rfl;rw [e];refine ⟨by omega,λy hy=>?_⟩
  rcases List.mem_cons.1 hy with rfl|hy
  ·omega
  ·exact h.2 y hy
theorem zms:∀ {rs:List RecM} {x m:Int},x<=m->(∀ r ∈ rs,r.time<=m)->z6n x rs<=m
 | [],x,m,h,_=>h
 | r::rs,x,m,h,hr=>by
  have e:z6n x (r::rs)=z6n (max x r.time) rs:=rfl;rw [e];have:=hr r (List.mem_cons_self ..);exact zms (by omega) λy hy=>hr y (List.mem_cons_of_mem _ hy)
theorem z040 {b:BatM} (h:z02 b=0):0<=z3o b/\z3o b<=1099511627776:=by
 obtain ⟨-,-,⟨-,-,-,-,-,htm⟩,-,-⟩:=z1d b h;obtain ⟨-,hrs⟩:=z2x h;unfold z3o;split
 ·exact htm
 ·rename_i hne
  obtain ⟨r,hr⟩:=List.exists_mem_of_ne_nil _ hne;have h1:=(zpx (rs:=b.rs) (x := -1)).2 r hr;have h2:=(z5t (hrs r hr)).2.2.1;refine ⟨by omega,zms (by omega) λr hr=>(z5t (hrs r hr)).2.2.1.2⟩
theorem zhs:∀ {bs:List BatM} {x:Int},x<=z1o x bs/\∀ b ∈ bs,z3o b<=z1o x bs
 | [],x=>⟨Int.le_refl _,λ_ h=>by cases h⟩
 | r::rs,x=>by
  have h:=zhs (bs:=rs) (x:=max x (z3o r));have e:z1o x (r::rs)=z1o (max x (z3o r)) rs:=rfl;rw [e];refine ⟨by omega,λy hy=>?_⟩
  rcases List.mem_cons.1 hy with rfl|hy
  ·omega
  ·exact h.2 y hy
theorem zly:∀ {bs:List BatM} {x m:Int},x<=m->(∀ b ∈ bs,z3o b<=m)->z1o x bs<=m
 | [],x,m,h,_=>h
 | r::rs,x,m,h,hr=>by
  have e:z1o x (r::rs)=z1o (max x (z3o r)) rs:=rfl;rw [e];have:=hr r (List.mem_cons_self ..);exact zly (by omega) λy hy=>hr y (List.mem_cons_of_mem _ hy)
theorem zw8 {x:Int} (bs:List BatM) (i:Nat):z1o x (bs.take i)<=z1o x bs :=
 zly zhs.1 λb hb=>zhs.2 b (List.mem_of_mem_take hb)
structure IdxOk (gap q:Int) (bs:List BatM) (x:IdxA):Prop where
 gap:x.gap=gap
 late:x.late=z1o (-1) bs
 offset:x.offset=match bs.getLast? with|none => -1|some b=>b.base
 place:x.place<q+(bs.flatMap frL).length
 lplace:∀ e ∈ x.l,e.place<=x.place
 ent:∀ e ∈ x.l,∃ i,∃ hi:i<bs.length,e=⟨bs[i].base,q+((bs.take i).flatMap frL).length,z1o (-1) (bs.take i)⟩
 first:∀ b,bs.head? = some b->x.l.head? = some ⟨b.base,q,-1⟩
 offs:x.l.Pairwise λa b=>a.offset<b.offset
 befs:x.l.Pairwise λa b=>a.before<=b.before
theorem zbz {n:Int} {bs:List BatM} {b:BatM} (h:z21 n (bs++[b])) (h0:0<=n):z02 b=0/\n<=b.base/\(∀ c,bs.getLast? = some c->c.base<b.base)/\z21 n bs/\z0s bs<=b.base:=by
 induction bs generalizing n with
 | nil=>exact ⟨h.1,h.2.2.1,by simp,trivial,by have:=h.2.2.1;show (0:Int)<=_;omega⟩
 | cons a bs ih =>
  obtain ⟨h1,h2,h3,h4⟩:=h;obtain ⟨s1,-,⟨-,hba,-⟩,-,s2⟩:=z1d a h1;obtain ⟨i1,i2,i3,i4,i5⟩:=ih h4 (by omega);refine ⟨i1,by omega,λc hc=>?_,⟨h1,h2,h3,i4⟩,?_⟩
  ·cases bs with
   | nil=>simp at hc;subst hc;omega
   | cons d ds=>exact i3 c (by simpa using hc)
  ·cases bs with
   | nil=>show a.base+zo a<=_;omega
   | cons d ds=>exact i5
theorem zoh (gap:Int):∀ (m:Nat) {n q:Int} {bs:List BatM},bs.length=m->0<=n->0<=q->z21 n bs->q+(bs.flatMap frL).length<=4194304->IdxOk gap q bs (zdg (zex gap) q bs)
 | 0,n,q,bs,hm,_,hq,_,_=>by
  have:bs=[]:=List.length_eq_zero_iff.1 hm;subst this;exact ⟨rfl,rfl,rfl,by show (-1:Int)<_;simp;omega,(λ_ h=>by cases h),(λ_ h=>by cases h),(λ_ h=>by cases h),.nil,.nil⟩
 | m+1,n,q,bs,hm,hn,hq,hb,hl=>by
  have hne:bs≠[]:=by rintro rfl;cases hm
  obtain ⟨bs,b,rfl⟩:∃ cs b,bs=cs++[b]:=⟨bs.dropLast,bs.getLast hne,(List.dropLast_concat_getLast hne).symm⟩
  rw [List.length_append] at hm;obtain ⟨hv,hnb,hlb,hb',-⟩:=zbz hb hn;have hfl:=z68 hv
  have hfl2:((bs++[b]).flatMap frL).length=(bs.flatMap frL).length+(frL b).length:=by simp
  have ih:=zoh gap m (by simpa using hm) hn hq hb' (by omega);have hlt:=z040 hv;obtain ⟨-,-,⟨-,hba,-⟩,-,-⟩:=z1d b hv;rw [zey];generalize hx:zdg (zex gap) q bs=x at ih
  have hoff:x.offset<b.base:=by
   rw [ih.offset]
   cases hc:bs.getLast? with
   | none=>show (-1:Int)<_;omega
   | some c=>exact hlb c hc
  unfold zc1;rw [if_neg (by intro h;apply h;exact ⟨by omega,by omega,by omega⟩),if_neg (by have:=ih.place;omega)]
  have hw:∀ (i:Nat) (hi:i<bs.length),(bs++[b])[i]'(by rw [List.length_append];omega)=bs[i]/\(bs++[b]).take i=bs.take i:=λi hi=>⟨List.getElem_append_left hi,by rw [List.take_append_of_le_length (by omega)]⟩
  have hmem:∀ e ∈ z54 x b.base (q+(bs.flatMap frL).length),e ∈ x.l\/e=⟨b.base,q+(bs.flatMap frL).length,x.late⟩:=λe he=>by
   unfold z54 at he;split at he
   ·rcases List.mem_append.1 he with he|he
    ·exact .inl he
    ·exact .inr (by simpa using he)
   ·exact .inl he
  have hent:∀ e ∈ x.l,e.offset<b.base/\e.before<=x.late:=λe he=>by
   obtain ⟨i,hi,rfl⟩:=ih.ent e he;refine ⟨?_,by rw [ih.late];exact zw8 bs i⟩
   have hlast:∀ {n:Int} {bs:List BatM},z21 n bs->0<=n->∀ (i:Nat) (hi:i<bs.length),bs[i].base<z0s bs:=by
    intro n bs hbs hn i hi
    have h1:z21 n (bs.take i++[bs[i]]):=by
     have:=hbs.take (i+1)
     rwa [List.take_succ_eq_append_getElem hi] at this
    have h2:=zbz h1 hn
    have h3:∀ {n:Int} {ds cs:List BatM},z21 n (ds++cs)->0<=n->z0s ds<=z0s (ds++cs):=by
     intro n ds cs h hn
     induction cs generalizing ds with
     | nil=>rw [List.append_nil];exact Int.le_refl _
     | cons c cs ih =>
      have h':z21 n ((ds++[c])++cs):=by rwa [List.append_assoc]
      have i1:=ih h';rw [List.append_assoc] at i1
      have h4:z21 n (ds++[c]):=by
       have:=h'.take (ds++[c]).length
       rwa [List.take_left] at this
      have h5:=zbz h4 hn;obtain ⟨s1,-,-,-,-⟩:=z1d c h5.1;have e:z0s (ds++[c])=c.base+zo c:=z60 ds c;have i1:z0s (ds++[c])<=z0s (ds++(c::cs)):=i1;have:=h5.2.2.2.2;omega
    have h6:=h3 (ds:=bs.take i++[bs[i]]) (cs:=bs.drop (i+1)) (by rw [<- List.take_succ_eq_append_getElem hi,List.take_append_drop];exact hbs) hn;rw [<- List.take_succ_eq_append_getElem hi,List.take_append_drop,List.take_succ_eq_append_getElem hi,z60] at h6;obtain ⟨s1,-,-,-,-⟩:=z1d _ h2.1;omega
   have h7:=hlast hb' hn i hi;have h8:=(zbz hb hn).2.2.2.2;show bs[i].base<b.base;omega
  refine ⟨ih.gap,?_,by rw [z25],?_,?_,?_,?_,?_,?_⟩
  ·rw [ziv,<- ih.late]
  ·show q+((bs.flatMap frL).length:Int)<_;omega
  ·intro e he;show e.place<=q+((bs.flatMap frL).length:Int)
   rcases hmem e he with he|rfl
   ·have:=ih.lplace e he;have:=ih.place;omega
   ·exact Int.le_refl _
  ·intro e he
   rcases hmem e he with he|rfl
   ·obtain ⟨i,hi,rfl⟩:=ih.ent e he;obtain ⟨h1,h2⟩:=hw i hi;exact ⟨i,by rw [List.length_append];omega,by rw [h1,h2]⟩
   ·refine ⟨bs.length,by simp,?_⟩;rw [List.getElem_append_right (Nat.le_refl _),List.take_left,ih.late];simp
  ·intro a ha;show (z54 x b.base (q+(bs.flatMap frL).length)).head? = _
   cases bs with
   | nil =>
    simp at ha;subst ha;subst hx;show some (⟨b.base,q+((([]:List BatM).flatMap frL).length:Int),-1⟩:EntA)=_
    congr 2
    simp
   | cons c cs =>
    have h1:=ih.first a (by simpa using ha);unfold z54;split
    ·rw [List.head?_append,h1];rfl
    ·exact h1
  ·show (z54 x b.base _).Pairwise _;unfold z54;split
   ·refine List.pairwise_append.2 ⟨ih.offs,by simp,λa ha c hc=>?_⟩;simp at hc;subst hc;exact (hent a ha).1
   ·exact ih.offs
  ·show (z54 x b.base _).Pairwise _;unfold z54;split
   ·refine List.pairwise_append.2 ⟨ih.befs,by simp,λa ha c hc=>?_⟩;simp at hc;subst hc;exact (hent a ha).2
   ·exact ih.befs
theorem zvy {α:Type} {p:α->Bool} {l:List α} {i:Nat} (hi:i<=l.length) (h1:∀ x ∈ l.take i,p x=true) (h2:∀ x ∈ l.drop i,p x=false):l.filter p=l.take i:=by
 rw [<- List.take_append_drop i l,List.filter_append,List.filter_eq_self.2 h1,List.filter_eq_nil_iff.2 λx hx=>by rw [h2 x hx];simp,List.append_nil];rw [List.take_append_drop]
theorem zjd {α:Type} {p:α->Bool} {l:List α} {i:Nat} (hi:i<=l.length) (hm:l.Pairwise λa b=>p b=true->p a=true) (h1:∀ (h:i-1<l.length),0<i->p l[i-1]=true) (h2:∀ h:i<l.length,p l[i]=false):l.filter p=l.take i:=by
 have hm':∀ (a b:Nat) (hb:b<l.length) (h:a<b),p l[b]=true->p (l[a]'(by omega))=true:=λa b hb h=>List.pairwise_iff_getElem.1 hm a b (by omega) hb h;refine zvy hi (λx hx=>?_) λx hx=>?_
 ·obtain ⟨j,hj,rfl⟩:=List.mem_iff_getElem.1 hx;rw [List.length_take] at hj;rw [List.getElem_take]
  by_cases hji:j=i-1
  ·subst hji;exact h1 (by omega) (by omega)
  ·exact hm' j (i-1) (by omega) (by omega) (h1 (by omega) (by omega))
 ·obtain ⟨j,hj,rfl⟩:=List.mem_iff_getElem.1 hx;rw [List.length_drop] at hj;rw [List.getElem_drop]
  cases hp:p (l[i+j]'(by omega)) with
  | false=>rfl
  | true =>
   have h3:=h2 (by omega)
   by_cases hj0:j=0
   ·subst hj0;simp only [Nat.add_zero] at hp;rw [hp] at h3;cases h3
   ·have:=hm' i (i+j) (by omega) (by omega) hp;rw [this] at h3;cases h3
theorem z02a {α:Type} {l:List α} {i:Nat} (hi:i<=l.length):(l.take i).getLast? = if i=0 then none else l[i-1]? := by
 cases i with
 | zero=>simp
 | succ i =>
  rw [if_neg (by omega),List.take_succ_eq_append_getElem (by omega),z25];simp
theorem zqb {α:Type} {p:α->Bool} {l:List α} {e:α} (h:(l.filter p).getLast? = some e):∃ a c,l=a++e::c/\p e=true/\∀ x ∈ c,p x=false:=by
 induction l with
 | nil=>simp at h
 | cons y r ih =>
  rw [List.filter_cons] at h
  by_cases hr:(r.filter p)=[]
  ·split at h
   ·rw [hr] at h;simp at h;subst h;exact ⟨[],r,rfl,by assumption,λx hx=>by simpa using List.filter_eq_nil_iff.1 hr x hx⟩
   ·rw [hr] at h;simp at h
  ·have h':(r.filter p).getLast? = some e:=by
    split at h
    ·cases hq:r.filter p with
     | nil=>exact absurd hq hr
     | cons z zs=>rw [hq] at h;simpa using h
    ·exact h
   obtain ⟨a,c,rfl,h1,h2⟩:=ih h';exact ⟨y::a,c,rfl,h1,h2⟩
end Go.Dec
