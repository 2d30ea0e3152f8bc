/- What the claim of this folder leans on: our own texts, joined, without what it does not use. -/
import Derived.Test.YtfnldnodhfkojaaGreatRows
import Derived.WalkKit
import Derived.ProofKit
import Derived.OpenShut
import Derived.RowKit3
import Derived.OrdersHeld
import Derived.Scope
import Derived.KernelRfl
import Derived.Laws.Sem
import Derived.Laws.StructEq
import Derived.Deep.AppendSrc
import Derived.Laws.BytesArg
import Derived.Laws.RangeString
import Derived.Maps.RangeRun
import Derived.Lib.ConvBytes
import Derived.Lib.SlBytesConst
import Derived.ChangeSlices
import Derived.ChangeMaps5
import Derived.ChangeSame
import Derived.Deep.Slices
import Derived.Deep.Fields
import Derived.Test.YtfnldnodhfkojaaGreatProg
import Derived.Laws.MakeOwn
import Derived.Sort.MapsRangeIn
import Derived.Sort.KeysCollected
import Derived.RangeFuncNested
import Derived.RangeFuncBound
import Derived.RangeFuncCalls
import Derived.RangeFuncLeaves
import Derived.RangeFuncBox
import Derived.OwnWalkIn
import Derived.TacticsInMore
import Derived.RegionIn
import Derived.LoopNIn
import Derived.LoopIn
import Derived.Maps.AppendAt
import Derived.Shelf.Abstract
import Derived.Shelf.Sort.Plain
import Derived.Shelf.Slices.In.SortNone
import Derived.Test.YtfnldnodhfkojaaGreatQForged1
import Derived.Test.YtfnldnodhfkojaaGreatQForged2
import Derived.Test.YtfnldnodhfkojaaGreatQForged3
import Derived.Test.YtfnldnodhfkojaaGreatQForged4
set_option linter.unusedVariables false
set_option linter.unusedSimpArgs false
namespace Go.Dec
theorem zti {a b:ByteArray} (h:a.data.toList=b.data.toList):a=b:=by
 cases a;cases b;exact congrArg ByteArray.mk (Array.ext' h)
theorem za7:∀ x:List UInt8,Op.bytesLess x x=false
 | []=>rfl
 | a::x=>by rw [Op.bytesLess,za7 x];simp
theorem zfw:∀ {x y z:List UInt8},Op.bytesLess x y=true->Op.bytesLess y z=true->Op.bytesLess x z=true
 | [],_,[],_,h=>by cases ‹List UInt8› <;> simp [Op.bytesLess] at h
 | [],_,_::_,_,_=>rfl
 | _::_,[],_,h,_=>by simp [Op.bytesLess] at h
 | _::_,_::_,[],_,h=>by simp [Op.bytesLess] at h
 | a::x,b::y,c::z,h1,h2=>by
  simp only [Op.bytesLess,Bool.or_eq_true,decide_eq_true_eq,Bool.and_eq_true,beq_iff_eq] at h1 h2 ⊢
  rcases h1 with h1|⟨rfl,h1⟩
  ·rcases h2 with h2|⟨rfl,h2⟩
   ·exact .inl (UInt8.lt_trans h1 h2)
   ·exact .inl h1
  ·rcases h2 with h2|⟨rfl,h2⟩
   ·exact .inl h2
   ·exact .inr ⟨rfl,zfw h1 h2⟩
theorem zg1:∀ (x y:List UInt8),Op.bytesLess x y=true\/x=y\/Op.bytesLess y x=true
 | [],[]=>.inr (.inl rfl)
 | [],_::_=>.inl rfl
 | _::_,[]=>.inr (.inr rfl)
 | a::x,b::y=>by
  simp only [Op.bytesLess,Bool.or_eq_true,decide_eq_true_eq,Bool.and_eq_true,beq_iff_eq,List.cons.injEq]
  rcases Nat.lt_trichotomy a.toNat b.toNat with h|h|h
  ·exact .inl (.inl (UInt8.lt_iff_toNat_lt.2 h))
  ·have:=UInt8.toNat_inj.1 h
   subst this
   rcases zg1 x y with h|rfl|h
   ·exact .inl (.inr ⟨rfl,h⟩)
   ·exact .inr (.inl ⟨rfl,rfl⟩)
   ·exact .inr (.inr (.inr ⟨rfl,h⟩))
  ·exact .inr (.inr (.inl (UInt8.lt_iff_toNat_lt.2 h)))
def ltS (a b:ByteArray):Bool:=Op.bytesLess (ByteArray.toList a) (ByteArray.toList b)
theorem z8l (a:ByteArray):ltS a a=false:=za7 _
theorem zih {a b c:ByteArray} (h1:ltS a b=true) (h2:ltS b c=true):ltS a c=true:=zfw h1 h2
theorem ztb (a b:ByteArray):ltS a b=true\/a=b\/ltS b a=true:=by
 rcases zg1 (ByteArray.toList a) (ByteArray.toList b) with h|h|h
 ·exact .inl h
 ·exact .inr (.inl (zci.1 h))
 ·exact .inr (.inr h)
theorem zsr {a b:ByteArray} (h:ltS a b=true):ltS b a=false:=by
 cases hb:ltS b a with
 | false=>rfl
 | true=>have:=zih h hb;rw [z8l] at this;cases this
structure FileA where
 name:ByteArray
 b:List UInt8
 kept:Nat
structure DiskA where
 room:Nat
 left:Int
 gone:Bool
 fs:List FileA
def used (fs:List FileA):Nat:=(fs.map λf=>f.b.length).sum
def DiskA.free (A:DiskA):Nat:=A.room-used A.fs
def okC (c:UInt8):Bool:=(97<=c.toNat && c.toNat<=122) || (48<=c.toNat && c.toNat<=57) || c.toNat == 46 || c.toNat == 45
def z3f (s:ByteArray):Bool:=s.data.toList.all okC && (1<=s.size && s.size<=24)
def z2k (fs:List FileA) (n:ByteArray):Bool:=fs.any λf=>decide (f.name=n)
def z32 (A:DiskA):DiskA:=if A.left>0 then { A with left:=A.left-1,gone:=decide (A.left-1=0) } else A
def z22 (n:ByteArray) (g:FileA->FileA) (f:FileA):FileA:=if f.name=n then g f else f
def z4t (x:FileA):List FileA->List FileA
 | []=>[x]
 | f::r=>if ltS x.name f.name then x::f::r else f::z4t x r
def z4p (n:ByteArray) (fs:List FileA):List FileA:=fs.filter λf=>!decide (f.name=n)
def z04 (A:DiskA) (n:ByteArray) (bs:List UInt8):Int × DiskA :=
 if A.gone then (9,A) else if z3f n=false then (2,A) else if bs.length>A.free\/(z2k A.fs n=false/\A.fs.length>=128) then (5,A) else
  (0,z32 { A with fs:=if z2k A.fs n then A.fs.map (z22 n λf=>{ f with b:=f.b++bs }) else z4t ⟨n,bs,0⟩ A.fs })
def zbg (ns:List ByteArray) (n:ByteArray):Bool:=ns.isEmpty || ns.any λm=>decide (m=n)
def z4n (ns:List ByteArray) (f:FileA):FileA:=if zbg ns f.name then { f with kept:=f.b.length } else f
def z29 (A:DiskA) (ns:List ByteArray):Int × DiskA :=
 if A.gone then (9,A) else if ns.all (z2k A.fs)=false then (3,A) else (0,z32 { A with fs:=A.fs.map (z4n ns) })
def zjv (fs:List FileA) (n:ByteArray):Nat:=match fs.find? λf=>decide (f.name=n) with
 | some f=>f.b.length
 | none=>0
def cutA' (A:DiskA) (n:ByteArray) (k:Int):Int × DiskA :=
 if A.gone then (9,A) else if z2k A.fs n=false then (3,A) else if k<0\/k>zjv A.fs n then (2,A) else
  (0,z32 { A with fs:=A.fs.map (z22 n λf=>{ f with b:=f.b.take k.toNat,kept:=min f.kept k.toNat }) })
def z0v (A:DiskA) (n:ByteArray):Int × DiskA :=
 if A.gone then (9,A) else if z2k A.fs n=false then (3,A) else (0,z32 { A with fs:=z4p n A.fs })
structure okA (A:DiskA):Prop where
 room:A.room<=4194304
 used:used A.fs<=4194304
 many:A.fs.length<=128
 left : -1<=A.left/\A.left<=9223372036854775807
 sorted:A.fs.Pairwise λa b=>ltS a.name b.name=true
 kept:∀ f ∈ A.fs,f.kept<=f.b.length
 names:∀ f ∈ A.fs,f.name.size<=24
theorem z1w (f:FileA) (fs:List FileA):used (f::fs)=f.b.length+used fs:=by simp [used]
theorem z4c {a b:List FileA} (h:a.Perm b):used a=used b:=(h.map _).sum_nat
theorem z7t:∀ {fs:List FileA} {f:FileA},f ∈ fs->f.b.length<=used fs
 | g::r,f,h=>by
  rw [z1w]
  rcases List.mem_cons.1 h with rfl|h
  ·omega
  ·have:=z7t h;omega
theorem z2j {fs:List FileA} (h:fs.Pairwise λa b=>ltS a.name b.name=true):(fs.map (·.name)).Nodup:=by
 rw [List.Nodup,List.pairwise_map]
 exact h.imp λ{a b} hab e=>by rw [e,z8l] at hab;cases hab
theorem z62 {fs:List FileA} {n:ByteArray}:z2k fs n=true↔∃ f ∈ fs,f.name=n:=by simp [z2k]
theorem z68 {fs:List FileA} {n:ByteArray}:z2k fs n=false↔∀ f ∈ fs,f.name≠n:=by simp [z2k]
instance:ByE P T.a27 T.a38:=⟨by kernel_rfl,by kernel_rfl,by kernel_rfl⟩
instance:StT P T.a32:=⟨by kernel_rfl⟩
instance:KeyT P T.a32 ekS:=zu3 (by kernel_rfl)
instance:MapT P T.a12 T.a32 (.pointer none):=⟨T.a14,by kernel_rfl,by kernel_rfl⟩
abbrev evF (b:Nat):Value:=.pointer (some ⟨b,0,none⟩)
structure FileM where
 at_:Nat
 x:Sl
 f:FileA
def z47 (t:FileM):HP:=HP.star (pt t.at_ (.cells #[t.x.v,.int .i64 t.f.kept] T.a6)) (slc T.a38 1 t.x (t.f.b.flatMap zg))
def dk (d:Nat) (A:DiskA):HP:=HP.ex λm:Nat=>HP.ex λFS:List FileM=>HP.and ((FS.map (·.f)).Perm A.fs/\okA A)
 (HP.star (pt d (.cells #[.int .i64 A.left,.bool A.gone,.int .i64 A.room,.int .i64 (used A.fs),.map (some m)] T.a5))
  (HP.star (z3w ekS evF m (FS.map λt=>(t.f.name,t.at_))) (HP.all (FS.map z47))))
section
variable {w:World} {l r:List HP}
theorem Sat.all_nil (hs:Sat w l):Sat w (HP.all []::l) :=
 ⟨⟨λ_=>none,World.env' w⟩,World.ph w,⟨(λ_ _ h=>by cases h),rfl⟩,PH.sub_refl _,(λ_=>Or.inl rfl),trivial,hs⟩
theorem Sat.all_cons {a:HP} {L:List HP} (hs:Sat w (HP.all (a::L)::l)):Sat w (a::HP.all L::l):=by
 refine Sat.star (A:=a) (B:=HP.all L) (hs.imp λp h=>?_)
 obtain ⟨p1,p2,h1,h2,hd,hA,hl⟩:=h
 exact ⟨p1,p2,h1,h2,hd,hA,hl⟩
theorem Sat.all_put {a:HP} {L:List HP} (hs:Sat w (a::HP.all L::l)):Sat w (HP.all (a::L)::l):=by
 refine (Sat.star_mk (A:=a) (B:=HP.all L) hs).imp λp h=>?_
 obtain ⟨p1,p2,h1,h2,hd,hA,hl⟩:=h
 exact ⟨p1,p2,h1,h2,hd,hA,hl⟩
theorem Sat.all_perm {L L':List HP} (hp:L.Perm L') (hs:Sat w (HP.all L::l)):Sat w (HP.all L'::l):=hs.imp λp h=>z9x hp h
theorem z2l {d:Nat} {A:DiskA} (hs:Sat w (dk d A::l)):∃ (m:Nat) (FS:List FileM),(FS.map FileM.f).Perm A.fs/\okA A /\
  Sat w (pt d (.cells #[.int .i64 A.left,.bool A.gone,.int .i64 A.room,.int .i64 (used A.fs),.map (some m)] T.a5)::z3w ekS evF m (FS.map λt=>(t.f.name,t.at_))::HP.all (FS.map z47)::l):=by
 obtain ⟨m,hs⟩:=hs.ex
 obtain ⟨FS,hs⟩:=hs.ex
 obtain ⟨⟨h1,h2⟩,hs⟩:=hs.and
 have hs:=hs.star
 have hs:=(hs.pick [1]).star
 exact ⟨m,FS,h1,h2,hs.pick [2,0,0]⟩
theorem zo1 {d:Nat} {A:DiskA} {m:Nat} {FS:List FileM} (hp:(FS.map FileM.f).Perm A.fs) (hok:okA A)
  (hs:Sat w (pt d (.cells #[.int .i64 A.left,.bool A.gone,.int .i64 A.room,.int .i64 (used A.fs:Nat),.map (some m)] T.a5)::z3w ekS evF m (FS.map λt=>(t.f.name,t.at_))::HP.all (FS.map z47)::l)):Sat w (dk d A::l):=by
 refine .ex_mk m (.ex_mk FS (.and_mk ⟨hp,hok⟩ (.star_mk ?_)))
 refine (Sat.star_mk (hs.pick [1,1])).pick [1]
theorem z2u {d:Nat} {A:DiskA} (m:Nat) {FS:List FileM} {r1 r2 r3 l':List HP} {u:Int} (hp:(FS.map FileM.f).Perm A.fs) (hok:okA A) (hs:Sat w l)
  [h1:FocB l d (.cells [.int .i64 A.left,.bool A.gone,.int .i64 A.room,.int .i64 u,.map (some m)].toArray T.a5) r1] [h2:FoM r1 m ekS evF (FS.map λt=>(t.f.name,t.at_)) r2] [h3:Foc r2 (HP.all (FS.map z47)) r3] [h4:Sub r3 l']
  (hu:u=(used A.fs:Nat):=by rfl):Sat w (dk d A::l'):=by
 subst hu
 have h5:Sat w (dk d A::r3):=zo1 hp hok (hs.perm (h1.perm.trans (.cons _ (h2.perm.trans (.cons _ h3.perm)))))
 exact h5.sub
theorem z7d {FS:List FileM} {t:FileM} (hs:Sat w l) [h:Foc l (HP.all (FS.map z47)) r] (ht:t ∈ FS):∃ FS',FS.Perm (t::FS') /\
  Sat w (pt t.at_ (.cells #[t.x.v,.int .i64 t.f.kept] T.a6)::slc T.a38 1 t.x (t.f.b.flatMap zg)::HP.all (FS'.map z47)::r):=by
 obtain ⟨s,u,rfl⟩:=List.append_of_mem ht
 have hp:(s++t::u).Perm (t::(s++u)):=List.perm_middle
 exact ⟨s++u,hp,(((hs.perm h.perm).all_perm (hp.map z47)).all_cons).star⟩
theorem z6k {FS:List FileM} (t:FileM) {r1 r2 r3:List HP} (hs:Sat w l) [h1:FocB l t.at_ (.cells [.slice t.x.a t.x.len t.x.cap,.int .i64 t.f.kept].toArray T.a6) r1] [h2:FocS r1 t.x T.a38 1 (t.f.b.flatMap zg) r2] [h3:Foc r2 (HP.all (FS.map z47)) r3] :
  Sat w (HP.all ((t::FS).map z47)::r3) :=
 Sat.all_put (Sat.star_mk (A:=pt t.at_ (.cells #[t.x.v,.int .i64 t.f.kept] T.a6)) (B:=slc T.a38 1 t.x (t.f.b.flatMap zg)) (hs.perm (h1.perm.trans (.cons _ (h2.perm.trans (.cons _ h3.perm))))))
end
section
variable {w:World} {l r:List HP} {d:Nat} {A:DiskA}
theorem zt5 (n:Nat) (hn:n<=4194304) (hs:Sat w l):Ret P F.a16 #[.int .i64 n] w λvs w'=>∃ d,vs=[.pointer (some ⟨d,0,none⟩),.int .i64 0]/\Sat w' (dk d ⟨n,-1,false,[]⟩::l) :=
 zpg n <| by
  unfold z00x
  refine z0j ?_
  refine zuf ekS evF hs λm w' hs=>?_
  refine z0b hs λd w' hs=>?_
  refine ⟨rfl,d,rfl,?_⟩
  exact zo1 (FS:=[]) (.refl _) ⟨hn,by simp [used],by simp,by simp,by simp,by simp,by simp⟩ ((hs.all_nil).pick [1,1,0])
theorem zow (c:UInt8):((!(decide ((c.toNat:Int)>=97) && decide ((c.toNat:Int)<=122)) && !(decide ((c.toNat:Int)>=48) && decide ((c.toNat:Int)<=57)) && (c.toNat:Int) != 46 && (c.toNat:Int) != 45)=true↔okC c=false):=by
 simp [okC];omega
theorem z01k (s:ByteArray) (hs:Sat w l):Ret P F.a15 #[.string s] w λvs w'=>vs=[.bool (z3f s)]/\Sat w' l :=
 zr0 s <| by
  unfold z01u
  refine zk (λh=>?_) λh=>?_
  ·refine ⟨rfl,?_,hs⟩
   have:z3f s=false:=by simp [z3f];omega
   rw [this]
  refine zkx hs λx w' hs=>?_
  have hl:=hs.slen x
  have hsz:s.data.toList.length=s.size:=by simp
  refine zx (λ_ w'=>s.data.toList.all okC=true/\Sat w' l) ?_ ?_
  ·refine z0e (λn v w=>∃ i:Nat,v=((i:Int),())/\i<=s.data.toList.length/\s.data.toList.length-i=n/\(s.data.toList.take i).all okC=true/\Sat w (slc T.a38 1 x (s.data.toList.flatMap zg)::l)) s.data.toList.length ⟨0,rfl,by omega,rfl,rfl,hs⟩ ?_
   clear hs
   rintro n _ w ⟨i,rfl,hi,hn,hall,hs⟩
   refine zt ?_
   refine zk (λhc=>?_) λhc=>?_
   ·have hil:i<s.data.toList.length:=by omega
    refine z24 hs i hil ?_
    refine wp_lt (wp_lt (wp_lt ?_))
    have htk:(s.data.toList.take (i+1)).all okC=okC s.data.toList[i]:=by
     rw [List.take_add_one,List.getElem?_eq_getElem hil,List.all_append,hall];simp
    refine zgi (λh3=>?_) λh3=>?_
    ·have h3:=(zow _).1 h3
     refine zv (zv ?_)
     refine ⟨rfl,?_,hs.tail⟩
     have:z3f s=false:=by
      have:s.data.toList.all okC=false:=by
       rw [<- List.take_append_drop (i+1) s.data.toList,List.all_append,htk,h3];rfl
      simp only [z3f,this,Bool.false_and]
     rw [this]
    ·have h3:okC s.data.toList[i]=true:=by
      cases hk:okC s.data.toList[i] with
      | true=>rfl
      | false=>have:=(zow _).2 hk;rw [this] at h3;cases h3
     refine z57 (us':=[.int .i64 ((i+1:Nat):Int)]) (by (try simp (disch:=omega) only [w64]);first|rfl|(congr;omega)) ?_
     refine z0q (s.data.toList.length-(i+1)) ?_
     exact ⟨i+1,rfl,by omega,rfl,by rw [htk,h3],hs⟩
   ·refine zv (zj ⟨?_,hs.tail⟩)
    rwa [List.take_of_length_le (by omega)] at hall
  ·rintro _ w' ⟨hall,hs⟩
   refine zt ?_
   refine ⟨rfl,?_,hs⟩
   have:z3f s=true:=by simp only [z3f,hall,Bool.true_and,Bool.and_eq_true,decide_eq_true_eq];omega
   rw [this]
theorem z03u [hf:Fo l dk d A r] (hs:Sat w l):Ret P F.a14 #[.pointer (some ⟨d,0,none⟩)] w λvs w'=>vs=[.int .i64 (if A.gone then 9 else 0)]/\Sat w' (dk d A::r) :=
 zqn _ <| by
  unfold z025
  obtain ⟨m,FS,hp,hok,hs⟩:=z2l (hs.perm hf.perm)
  refine wp_lt (z0j ?_ (by simp))
  (repeat (first|with_reducible (first|refine zt ?_|refine zy ?_|refine z0p ?_|refine zd hs ?_|refine z02 hs ?_|refine zm ?_|refine z0i hs λ_ hs=>?_|refine z05 hs λ_ _ hs=>?_|refine z0b hs λ_ _ hs=>?_|refine z0h hs λ_ hs=>?_|refine z09 hs λ_ hs=>?_)|(apply wp_must;(focus first|trivial|omega|assumption))|refine z1o ?_|refine wp_lt ?_))
  refine zk (λh=>?_) λh=>?_
  ·exact ⟨rfl,by rw [if_pos h],z2u m hp hok hs⟩
  ·exact ⟨rfl,by rw [if_neg h],z2u m hp hok hs⟩
theorem zz2 {m:Nat} {n room u:Int} (hn:n<=9223372036854775807 /\ -1<=n) [hf:FocB l d (.cells #[.int .i64 n,.bool false,.int .i64 room,.int .i64 u,.map (some m)] T.a5) r] (hs:Sat w l) :
  Ret P F.a17 #[.pointer (some (Addr.add ⟨d,0,none⟩ 0))] w λvs w'=>vs=[] /\
   Sat w' (pt d (.cells #[.int .i64 (if n>0 then n-1 else n),.bool (if n>0 then decide (n-1=0) else false),.int .i64 room,.int .i64 u,.map (some m)] T.a5)::r) :=
 zqv _ <| by
  unfold z00g
  have hs:=hs.focB d
  (repeat (first|with_reducible (first|refine zt ?_|refine zy ?_|refine z0p ?_|refine zd hs ?_|refine z02 hs ?_|refine zm ?_|refine z0i hs λ_ hs=>?_|refine z05 hs λ_ _ hs=>?_|refine z0b hs λ_ _ hs=>?_|refine z0h hs λ_ hs=>?_|refine z09 hs λ_ hs=>?_)|(apply wp_must;(focus first|trivial|omega|assumption))|refine z1o ?_|refine wp_lt ?_))
  refine zx (λ_ w'=>Sat w' (pt d (.cells #[.int .i64 (if n>0 then n-1 else n),.bool (if n>0 then decide (n-1=0) else false),.int .i64 room,.int .i64 u,.map (some m)] T.a5)::r)) ?_ ?_
  ·refine zk (λh=>?_) λh=>?_
   ·(repeat (first|with_reducible (first|refine zt ?_|refine zy ?_|refine z0p ?_|refine zd hs ?_|refine z02 hs ?_|refine zm ?_|refine z0i hs λ_ hs=>?_|refine z05 hs λ_ _ hs=>?_|refine z0b hs λ_ _ hs=>?_|refine z0h hs λ_ hs=>?_|refine z09 hs λ_ hs=>?_)|(apply wp_must;(focus first|trivial|omega|assumption))|refine z1o ?_|refine wp_lt ?_))
    refine zj ?_
    rw [if_pos h,if_pos h]
    rw [w64 (x:=n-1) (by omega) (by omega)] at hs
    exact hs
   ·refine zj ?_
    rw [if_neg h,if_neg h];exact hs
  ·rintro _ w' hs
   refine zt ?_
   exact ⟨rfl,rfl,hs⟩
theorem zve (A:DiskA) (h:A.gone=false):z32 A=⟨A.room,if A.left>0 then A.left-1 else A.left,if A.left>0 then decide (A.left-1=0) else false,A.fs⟩:=by
 unfold z32
 split
 ·rfl
 ·rw [<- h]
theorem z039 [hf:Fo l dk d A r] (hs:Sat w l):Ret P F.a5 #[.pointer (some ⟨d,0,none⟩)] w λvs w'=>vs=[.int .i64 (A.free:Nat)]/\Sat w' (dk d A::r) :=
 ztl _ <| by
  unfold zf6
  obtain ⟨m,FS,hp,hok,hs⟩:=z2l (hs.perm hf.perm)
  refine z0j ?_ (by simp)
  have h1:=hok.room
  have h2:=hok.used
  refine z0i hs λw' hs=>?_
  refine zy ?_
  refine zd hs ?_
  refine zy ?_
  refine zd hs ?_
  refine zdt (y:=(A.free:Nat)) ?_ ?_
  ·have e:IntKind.wrap .i64 ((A.room:Int)-(used A.fs:Nat))=(A.room:Int)-(used A.fs:Nat):=zv3
   rw [e]
   unfold DiskA.free
   split <;> omega
  exact zm ⟨rfl,rfl,z2u m hp hok hs⟩
theorem z00k [hf:Fo l dk d A r] (hs:Sat w l):Ret P F.a6 #[.pointer (some ⟨d,0,none⟩)] w λvs w'=>vs=[.bool A.gone]/\Sat w' (dk d A::r) :=
 zsj _ <| by
  unfold zf7
  obtain ⟨m,FS,hp,hok,hs⟩:=z2l (hs.perm hf.perm)
  (repeat (first|with_reducible (first|refine zt ?_|refine zy ?_|refine z0p ?_|refine zd hs ?_|refine z02 hs ?_|refine zm ?_|refine z0i hs λ_ hs=>?_|refine z05 hs λ_ _ hs=>?_|refine z0b hs λ_ _ hs=>?_|refine z0h hs λ_ hs=>?_|refine z09 hs λ_ hs=>?_)|(apply wp_must;(focus first|trivial|omega|assumption))|refine z1o ?_|refine wp_lt ?_))
  exact ⟨rfl,by simp,z2u m hp hok hs⟩
end
theorem za2 {fs:List FileA} {n:ByteArray} (hs:(fs.map (·.name)).Nodup) {f:FileA} (hf:f ∈ fs) (hn:f.name=n):fs.find? (λf=>decide (f.name=n))=some f:=by
 subst hn
 induction fs with
 | nil=>cases hf
 | cons g r ih =>
  rw [List.map_cons,List.nodup_cons] at hs
  rcases List.mem_cons.1 hf with rfl|hf
  ·rw [List.find?_cons_of_pos (by simp)]
  ·rw [List.find?_cons_of_neg (by simp;exact λe=>hs.1 (List.mem_map.2 ⟨f,hf,e.symm⟩))]
   exact ih hs.2 hf
theorem zix {fs:List FileA} {n:ByteArray} (h:∀ f ∈ fs,f.name≠n):fs.find? (λf=>decide (f.name=n))=none:=List.find?_eq_none.2 λf hf=>by simpa using h f hf
theorem zzu {fs:List FileA} {n:ByteArray} (hs:(fs.map (·.name)).Nodup) {f:FileA} (hf:f ∈ fs) (hn:f.name=n):zjv fs n=f.b.length:=by rw [zjv,za2 hs hf hn]
section
variable {w:World} {l r:List HP} {d:Nat} {A:DiskA}
theorem z8r {FS:List FileM} (hp:(FS.map FileM.f).Perm A.fs) {n:ByteArray} {b:Nat} (h:(n,b) ∈ FS.map λt=>(t.f.name,t.at_)):∃ t ∈ FS,t.at_=b/\t.f.name=n/\t.f ∈ A.fs:=by
 obtain ⟨t,ht,he⟩:=List.mem_map.1 h
 simp only [Prod.mk.injEq] at he
 exact ⟨t,ht,he.2,he.1,hp.mem_iff.1 (List.mem_map.2 ⟨t,ht,rfl⟩)⟩
theorem z7k {FS:List FileM} (hp:(FS.map FileM.f).Perm A.fs) {n:ByteArray} (h:∀ b,(n,b) ∉ FS.map λt=>(t.f.name,t.at_)):∀ f ∈ A.fs,f.name≠n:=λf hf e=>by
 obtain ⟨t,ht,rfl⟩:=List.mem_map.1 (hp.mem_iff.2 hf)
 exact h t.at_ (List.mem_map.2 ⟨t,ht,by rw [e]⟩)
theorem apart {FS FS':List FileM} {t:FileM} (hp:(FS.map FileM.f).Perm A.fs) (hok:okA A) (h:FS.Perm (t::FS')) :
  A.fs.Perm (t.f::FS'.map FileM.f)/\(∀ f ∈ FS'.map FileM.f,f.name≠t.f.name)/\t.f ∈ A.fs:=by
 have h1:A.fs.Perm (t.f::FS'.map FileM.f):=hp.symm.trans (h.map FileM.f)
 have h2:((t.f::FS'.map FileM.f).map (·.name)).Nodup:=(h1.map _).nodup_iff.1 (z2j hok.sorted)
 rw [List.map_cons,List.nodup_cons] at h2
 exact ⟨h1,λf hf e=>h2.1 (List.mem_map.2 ⟨f,hf,e⟩),h1.mem_iff.2 (List.mem_cons_self ..)⟩
theorem z001 (x:Sl) (bs:List UInt8) (hb:bs.length<=100000000) [hf:FocR l x 1 (bs.flatMap zg)] (hs:Sat w l):Ret P F.a0 #[x.v] w λvs w'=>∃ z:Sl,vs=[z.v]/\Sat w' (slc T.a38 1 z (bs.flatMap zg)::l) :=
 zhq x <| by
  unfold zf0
  refine zk (λh=>?_) λh=>?_
  ·have:bs=[]:=by
    obtain ⟨hlen,h0|⟨b,off,arr,T',fr,ha,-⟩⟩:=hf.rd w hs
    ·rw [z3s,h0] at hlen;exact List.length_eq_zero_iff.1 (by omega)
    ·rw [h] at ha;cases ha
   subst this
   exact ⟨rfl,⟨none,0,0⟩,rfl,hs.slc_nil⟩
  ·refine z90 hs ([]:List UInt8) (enc:=zg) bs0 λb w' hs=>?_
   refine wp_app' hs (xs:=([]:List UInt8)) (ys:=bs) (enc:=zg) (λz w' hs=>?_) (by simp;omega)
   exact ⟨rfl,z,rfl,hs⟩
theorem zjt (n:ByteArray) [hf:Fo l dk d A r] (hs:Sat w l):Ret P F.a8 #[.pointer (some ⟨d,0,none⟩),.string n] w λvs w' =>
  (∃ f ∈ A.fs,f.name=n/\∃ z:Sl,vs=[z.v,.int .i64 0]/\Sat w' (slc T.a38 1 z (f.b.flatMap zg)::dk d A::r))\/((∀ f ∈ A.fs,f.name≠n)/\vs=[.slice none 0 0,.int .i64 3]/\Sat w' (dk d A::r)) :=
 zta _ n <| by
  unfold zf8
  obtain ⟨m,FS,hp,hok,hs⟩:=z2l (hs.perm hf.perm)
  refine z0j ?_ (by simp)
  (repeat (first|with_reducible (first|refine zt ?_|refine zy ?_|refine z0p ?_|refine zd hs ?_|refine z02 hs ?_|refine zm ?_|refine z0i hs λ_ hs=>?_|refine z05 hs λ_ _ hs=>?_|refine z0b hs λ_ _ hs=>?_|refine z0h hs λ_ hs=>?_|refine z09 hs λ_ hs=>?_)|(apply wp_must;(focus first|trivial|omega|assumption))|refine z1o ?_|refine wp_lt ?_))
  refine z76 hs (λb hb=>?_) λhb=>?_
  ·obtain ⟨t,ht,rfl,rfl,hA⟩:=z8r hp hb
   obtain ⟨FS',hpm,hs⟩:=z7d hs ht
   refine z0j ?_ (by simp)
   (repeat (first|with_reducible (first|refine zt ?_|refine zy ?_|refine z0p ?_|refine zd hs ?_|refine z02 hs ?_|refine zm ?_|refine z0i hs λ_ hs=>?_|refine z05 hs λ_ _ hs=>?_|refine z0b hs λ_ _ hs=>?_|refine z0h hs λ_ hs=>?_|refine z09 hs λ_ hs=>?_)|(apply wp_must;(focus first|trivial|omega|assumption))|refine z1o ?_|refine wp_lt ?_))
   have hlen:t.f.b.length<=4194304:=Nat.le_trans (z7t hA) hok.used
   refine za (z001 t.x t.f.b (by omega) hs) λ_ _ hs=>?_
   obtain ⟨z,rfl,hs⟩:=hs
   refine ze ?_
   (repeat (first|with_reducible (first|refine zt ?_|refine zy ?_|refine z0p ?_|refine zd hs ?_|refine z02 hs ?_|refine zm ?_|refine z0i hs λ_ hs=>?_|refine z05 hs λ_ _ hs=>?_|refine z0b hs λ_ _ hs=>?_|refine z0h hs λ_ hs=>?_|refine z09 hs λ_ hs=>?_)|(apply wp_must;(focus first|trivial|omega|assumption))|refine z1o ?_|refine wp_lt ?_))
   refine ⟨rfl,.inl ⟨t.f,hA,rfl,z,rfl,?_⟩⟩
   have hs:=(z6k t hs).all_perm (hpm.symm.map z47)
   have hs:=z2u (d:=d) (A:=A) (l':=slc T.a38 1 z (t.f.b.flatMap zg)::r) m hp hok hs
   exact hs.sub
  ·refine z1b ?_ (by rfl)
   exact ⟨rfl,.inr ⟨z7k hp hb,rfl,z2u m hp hok hs⟩⟩
def z6w (fs:List FileA) (n:ByteArray):Nat × Nat:=match fs.find? λf=>decide (f.name=n) with
 | some f=>(f.b.length,f.kept)
 | none=>(0,0)
theorem z046 (n:ByteArray) [hf:Fo l dk d A r] (hs:Sat w l):Ret P F.a12 #[.pointer (some ⟨d,0,none⟩),.string n] w λvs w' =>
  ∃ x:Sl,vs=[.agg [x.v,.int .i64 (z6w A.fs n).2].toArray]/\x.len=(z6w A.fs n).1/\Sat w' (dk d A::r) :=
 zr2 _ n <| by
  unfold z023
  obtain ⟨m,FS,hp,hok,hs⟩:=z2l (hs.perm hf.perm)
  (repeat (first|with_reducible (first|refine zt ?_|refine zy ?_|refine z0p ?_|refine zd hs ?_|refine z02 hs ?_|refine zm ?_|refine z0i hs λ_ hs=>?_|refine z05 hs λ_ _ hs=>?_|refine z0b hs λ_ _ hs=>?_|refine z0h hs λ_ hs=>?_|refine z09 hs λ_ hs=>?_)|(apply wp_must;(focus first|trivial|omega|assumption))|refine z1o ?_|refine wp_lt ?_))
  refine z76 hs (λb hb=>?_) λhb=>?_
  ·obtain ⟨t,ht,rfl,rfl,hA⟩:=z8r hp hb
   refine z0j ?_ (by simp)
   (repeat (first|with_reducible (first|refine zt ?_|refine zy ?_|refine z0p ?_|refine zd hs ?_|refine z02 hs ?_|refine zm ?_|refine z0i hs λ_ hs=>?_|refine z05 hs λ_ _ hs=>?_|refine z0b hs λ_ _ hs=>?_|refine z0h hs λ_ hs=>?_|refine z09 hs λ_ hs=>?_)|(apply wp_must;(focus first|trivial|omega|assumption))|refine z1o ?_|refine wp_lt ?_))
   refine z76 hs (λb2 hb2=>?_) λhb2=>absurd hb (hb2 _)
   obtain ⟨t2,ht2,rfl,hn2,hA2⟩:=z8r hp hb2
   obtain ⟨FS',hpm,hs⟩:=z7d hs ht2
   (repeat (first|with_reducible (first|refine zt ?_|refine zy ?_|refine z0p ?_|refine zd hs ?_|refine z02 hs ?_|refine zm ?_|refine z0i hs λ_ hs=>?_|refine z05 hs λ_ _ hs=>?_|refine z0b hs λ_ _ hs=>?_|refine z0h hs λ_ hs=>?_|refine z09 hs λ_ hs=>?_)|(apply wp_must;(focus first|trivial|omega|assumption))|refine z1o ?_|refine wp_lt ?_))
   refine ⟨rfl,t2.x,?_,?_,?_⟩
   ·rw [z6w,za2 (z2j hok.sorted) hA2 hn2]
   ·rw [z6w,za2 (z2j hok.sorted) hA2 hn2];exact hs.slen t2.x
   ·have hs:=(z6k t2 hs).all_perm (hpm.symm.map z47)
    exact z2u m hp hok hs
  ·refine z1b ?_ (by simp)
   (repeat (first|with_reducible (first|refine zt ?_|refine zy ?_|refine z0p ?_|refine zd hs ?_|refine z02 hs ?_|refine zm ?_|refine z0i hs λ_ hs=>?_|refine z05 hs λ_ _ hs=>?_|refine z0b hs λ_ _ hs=>?_|refine z0h hs λ_ hs=>?_|refine z09 hs λ_ hs=>?_)|(apply wp_must;(focus first|trivial|omega|assumption))|refine z1o ?_|refine wp_lt ?_))
   refine ⟨rfl,⟨none,0,0⟩,?_,?_,z2u m hp hok hs⟩
   ·rw [z6w,zix (z7k hp hb)];rfl
   ·rw [z6w,zix (z7k hp hb)]
theorem zsu (n:ByteArray) [hf:Fo l dk d A r] (hs:Sat w l):Ret P F.a10 #[.pointer (some ⟨d,0,none⟩),.string n] w λvs w'=>vs=[.int .i64 (z6w A.fs n).1]/\Sat w' (dk d A::r) :=
 zpj _ n <| by
  unfold z00z
  refine za (z046 n hs) λ_ _ hs=>?_
  obtain ⟨x,rfl,hx,hs⟩:=hs
  refine ze ?_
  rw [hx]
  (repeat (first|with_reducible (first|refine zt ?_|refine zy ?_|refine z0p ?_|refine zd hs ?_|refine z02 hs ?_|refine zm ?_|refine z0i hs λ_ hs=>?_|refine z05 hs λ_ _ hs=>?_|refine z0b hs λ_ _ hs=>?_|refine z0h hs λ_ hs=>?_|refine z09 hs λ_ hs=>?_)|(apply wp_must;(focus first|trivial|omega|assumption))|refine z1o ?_|refine wp_lt ?_))
  exact ⟨rfl,rfl,hs⟩
end
theorem zs5 {fs fs':List FileA} {f:FileA} (hp:fs.Perm (f::fs')) (hne:∀ g ∈ fs',g.name≠f.name):(z4p f.name fs).Perm fs':=by
 have h1:=hp.filter λg=>!decide (g.name=f.name)
 rw [List.filter_cons_of_neg (by simp)] at h1
 have h2:fs'.filter (λg=>!decide (g.name=f.name))=fs':=List.filter_eq_self.2 λg hg=>by simpa using hne g hg
 rw [h2] at h1
 exact h1
theorem zrw {fs:List FileA} {n:ByteArray} (h:∀ f ∈ fs,f.name≠n):z4p n fs=fs:=List.filter_eq_self.2 λg hg=>by simpa using h g hg
theorem z6z {fs fs':List FileA} {f:FileA} {g:FileA->FileA} (hp:fs.Perm (f::fs')) (hne:∀ g ∈ fs',g.name≠f.name):(fs.map (z22 f.name g)).Perm (g f::fs'):=by
 have h1:=hp.map (z22 f.name g)
 rw [List.map_cons] at h1
 have h2:fs'.map (z22 f.name g)=fs':=by
  conv=>rhs;rw [<- List.map_id fs']
  exact List.map_congr_left λx hx=>by rw [z22,if_neg (hne x hx)];rfl
 rw [h2,z22,if_pos rfl] at h1
 exact h1
theorem z67 {n:ByteArray} {g:FileA->FileA} (hg:∀ f,(g f).name=f.name) (f:FileA):(z22 n g f).name=f.name:=by
 unfold z22;split
 ·exact hg f
 ·rfl
theorem z8q {fs:List FileA} {g:FileA->FileA} (hg:∀ f,(g f).name=f.name) (h:fs.Pairwise λa b=>ltS a.name b.name=true):(fs.map g).Pairwise λa b=>ltS a.name b.name=true:=by
 rw [List.pairwise_map]
 exact h.imp λ{a b} hab=>by rw [hg,hg];exact hab
theorem zl8 {fs:List FileA} (n:ByteArray) (h:fs.Pairwise λa b=>ltS a.name b.name=true):(z4p n fs).Pairwise λa b=>ltS a.name b.name=true:=h.filter _
theorem zin {fs:List FileA} {n:ByteArray} {f:FileA}:f ∈ z4p n fs↔f ∈ fs/\f.name≠n:=by simp [z4p,List.mem_filter]
theorem z6c (x:FileA):∀ fs:List FileA,(z4t x fs).Perm (x::fs)
 | []=>.refl _
 | f::r=>by
  rw [z4t];split
  ·exact .refl _
  ·exact (List.Perm.cons f (z6c x r)).trans (.swap _ _ _)
theorem zev {x f:FileA} {fs:List FileA}:f ∈ z4t x fs↔f=x\/f ∈ fs:=by rw [(z6c x fs).mem_iff,List.mem_cons]
theorem zea (x:FileA):∀ {fs:List FileA},(∀ f ∈ fs,f.name≠x.name)->(fs.Pairwise λa b=>ltS a.name b.name=true)->(z4t x fs).Pairwise λa b=>ltS a.name b.name=true
 | [],_,_=>by simp [z4t]
 | f::r,hne,h=>by
  rw [List.pairwise_cons] at h
  rw [z4t];split
  ·rename_i hlt
   rw [List.pairwise_cons]
   refine ⟨λg hg=>?_,by rw [List.pairwise_cons];exact h⟩
   rcases List.mem_cons.1 hg with rfl|hg
   ·exact hlt
   ·exact zih hlt (h.1 g hg)
  ·rename_i hlt
   rw [List.pairwise_cons]
   refine ⟨λg hg=>?_,zea x (λg hg=>hne g (List.mem_cons_of_mem _ hg)) h.2⟩
   rcases zev.1 hg with rfl|hg
   ·rcases ztb f.name g.name with h1|h1|h1
    ·exact h1
    ·exact absurd h1 (hne f (List.mem_cons_self ..))
    ·exact absurd h1 hlt
   ·exact h.1 g hg
theorem z92 {A:DiskA} (h:okA A):okA (z32 A):=by
 unfold z32
 split
 ·exact ⟨h.room,h.used,h.many,by have:=h.left;show -1<=A.left-1/\A.left-1<=_;omega,h.sorted,h.kept,h.names⟩
 ·exact h
theorem z3y (A:DiskA):(z32 A).fs=A.fs:=by unfold z32;split <;> rfl
theorem z8j (A:DiskA):(z32 A).room=A.room:=by unfold z32;split <;> rfl
section
variable {w:World} {l r:List HP} {d:Nat} {A:DiskA}
theorem zbh {m:Nat} {FS:List FileM} {fs':List FileA} {room left u:Int} {r1 r2 r3 l':List HP} (hg:A.gone=false) (hok':okA { A with fs:=fs' }) (hp:(FS.map FileM.f).Perm fs') (hs:Sat w l)
  [h1:FocB l d (.cells [.int .i64 left,.bool false,.int .i64 room,.int .i64 u,.map (some m)].toArray T.a5) r1] [h2:FoM r1 m ekS evF (FS.map λt=>(t.f.name,t.at_)) r2] [h3:Foc r2 (HP.all (FS.map z47)) r3] [h4:Sub r3 l']
  (hu:u=(used fs':Nat):=by rfl) (hl:left=A.left:=by rfl) (hr:room=A.room:=by rfl) :
  Ret P F.a17 #[.pointer (some (Addr.add ⟨d,0,none⟩ 0))] w λvs w'=>vs=[]/\Sat w' (dk d (z32 { A with fs:=fs' })::l'):=by
 subst hu hl hr
 have hl:=hok'.left
 refine Calls.mono (zz2 (d:=d) (m:=m) ⟨hl.2,hl.1⟩ hs) λe w' ⟨vs,he,hv,hs⟩=>⟨vs,he,hv,?_⟩
 have hd:=zve { A with fs:=fs' } hg
 rw [hd]
 have hok2:=z92 hok'
 rw [hd] at hok2
 exact z2u m (A:=⟨A.room,if A.left>0 then A.left-1 else A.left,if A.left>0 then decide (A.left-1=0) else false,fs'⟩) hp hok2 hs
theorem z037 (n:ByteArray) (m:Nat) {FS:List FileM} (hp:(FS.map FileM.f).Perm A.fs) (hok:okA A)
  (hs:Sat w (pt d (.cells #[.int .i64 A.left,.bool A.gone,.int .i64 A.room,.int .i64 (used A.fs),.map (some m)] T.a5)::z3w ekS evF m (FS.map λt=>(t.f.name,t.at_))::HP.all (FS.map z47)::r)) :
  Ret P F.a13 #[.pointer (some ⟨d,0,none⟩),.string n] w λvs w'=>vs=[]/\∃ FS':List FileM,(FS'.map FileM.f).Perm (z4p n A.fs)/\(∀ t ∈ FS',t ∈ FS/\t.f.name≠n)/\(∀ t ∈ FS,t.f.name≠n->t ∈ FS') /\
   Sat w' (pt d (.cells #[.int .i64 A.left,.bool A.gone,.int .i64 A.room,.int .i64 (used (z4p n A.fs)),.map (some m)] T.a5)::z3w ekS evF m (FS'.map λt=>(t.f.name,t.at_))::HP.all (FS'.map z47)::r) :=
 zq4 _ n <| by
  unfold z028
  (repeat (first|with_reducible (first|refine zt ?_|refine zy ?_|refine z0p ?_|refine zd hs ?_|refine z02 hs ?_|refine zm ?_|refine z0i hs λ_ hs=>?_|refine z05 hs λ_ _ hs=>?_|refine z0b hs λ_ _ hs=>?_|refine z0h hs λ_ hs=>?_|refine z09 hs λ_ hs=>?_)|(apply wp_must;(focus first|trivial|omega|assumption))|refine z1o ?_|refine wp_lt ?_))
  refine z76 hs (λb hb=>?_) λhb=>?_
  ·obtain ⟨t,ht,rfl,rfl,hA⟩:=z8r hp hb
   obtain ⟨FS',hpm,hs⟩:=z7d hs ht
   obtain ⟨h1,h2,-⟩:=apart hp hok hpm
   have hd:=zs5 h1 h2
   have hu:used A.fs=t.f.b.length+used (z4p t.f.name A.fs):=by rw [z4c h1,z1w,z4c hd]
   have h3:=hok.used
   refine z5h ?_
   refine z1b ?_ (by simp)
   refine z0i hs λw' hs=>?_
   refine zy ?_
   refine zd hs ?_
   refine zy ?_
   refine zd hs ?_
   rw [hs.slen t.x (xs:=t.f.b) (enc:=zg),zv3 (y:=(used (z4p t.f.name A.fs):Nat))]
   (repeat (first|with_reducible (first|refine zt ?_|refine zy ?_|refine z0p ?_|refine zd hs ?_|refine z02 hs ?_|refine zm ?_|refine z0i hs λ_ hs=>?_|refine z05 hs λ_ _ hs=>?_|refine z0b hs λ_ _ hs=>?_|refine z0h hs λ_ hs=>?_|refine z09 hs λ_ hs=>?_)|(apply wp_must;(focus first|trivial|omega|assumption))|refine z1o ?_|refine wp_lt ?_))
   refine zzb hs (FS'.map λt=>(t.f.name,t.at_)) (.inl ⟨t.at_,hpm.map _⟩) λw' hs=>?_
   refine z4m ?_
   refine ⟨rfl,rfl,FS',hd.symm,λt' ht'=>⟨hpm.mem_iff.2 (List.mem_cons_of_mem _ ht'),h2 _ (List.mem_map.2 ⟨t',ht',rfl⟩)⟩,λt' ht' hne=>?_,hs.sub⟩
   rcases List.mem_cons.1 (hpm.mem_iff.1 ht') with rfl|h
   ·exact absurd rfl hne
   ·exact h
  ·have hn:=z7k hp hb
   refine z5h ?_
   refine z0j ?_ (by simp)
   refine z4m ?_
   rw [zrw hn]
   exact ⟨rfl,rfl,FS,hp,λt ht=>⟨ht,hn _ (hp.mem_iff.1 (List.mem_map.2 ⟨t,ht,rfl⟩))⟩,λt ht _=>ht,hs⟩
theorem zvl {A:DiskA} (h:okA A) (n:ByteArray):okA { A with fs:=z4p n A.fs }:=by
 have hle:used (z4p n A.fs)<=used A.fs:=by
  have:∀ fs:List FileA,used (z4p n fs)<=used fs:=λfs=>by
   induction fs with
   | nil=>exact Nat.le_refl _
   | cons f r ih =>
    unfold z4p at *
    rw [z1w,List.filter_cons]
    split
    ·rw [z1w];omega
    ·omega
  exact this _
 exact ⟨h.room,Nat.le_trans hle h.used,Nat.le_trans (List.length_filter_le _ _) h.many,h.left,zl8 n h.sorted,λf hf=>h.kept f (zin.1 hf).1,λf hf=>h.names f (zin.1 hf).1⟩
theorem zg5 {k:Prog} {Q:List Value->World->Prop} (hs:Sat w l) [hf:Fo l dk d A r] (h1:A.gone=true->∀ w',Sat w' (dk d A::r)->Q [.int .i64 9] w') (h0:A.gone=false->∀ w',Sat w' (dk d A::r)->k.wp P tt w' λe vs w=>e=0/\Q vs w) :
  (Prog.call F.a14 [.pointer (some ⟨d,0,none⟩)] (sI .i64) (u1 λ(n0:Int)=>.lt (.int .i64) (n0) λ(n1:Int)=>.ite (n1 != 0) (.lt (.int .i64) (n1) λ(n2:Int)=>.done 0 [.int .i64 n2]) k)).wp P tt w λe vs w=>e=0/\Q vs w:=by
 refine za (z03u hs) λ_ _ hs=>?_
 obtain ⟨rfl,hs⟩:=hs
 refine ze ?_
 refine wp_lt ?_
 by_cases hg:A.gone=true
 ·rw [if_pos hg]
  refine z1b ?_ (by decide)
  exact wp_lt ⟨rfl,h1 hg _ hs⟩
 ·rw [if_neg hg]
  refine z0j ?_ (by decide)
  exact h0 (by simpa using hg) _ hs
theorem zby (n:ByteArray) [hf:Fo l dk d A r] (hs:Sat w l):Ret P F.a9 #[.pointer (some ⟨d,0,none⟩),.string n] w λvs w'=>vs=[.int .i64 (z0v A n).1]/\Sat w' (dk d (z0v A n).2::r) :=
 zsg _ n <| by
  unfold zf9 z0v
  refine zg5 hs (λhg w' hs=>?_) λhg w' hs=>?_
  ·rw [if_pos hg];exact ⟨rfl,hs⟩
  rw [if_neg (by rw [hg];simp)]
  obtain ⟨m,FS,hp,hok,hs⟩:=z2l hs
  (repeat (first|with_reducible (first|refine zt ?_|refine zy ?_|refine z0p ?_|refine zd hs ?_|refine z02 hs ?_|refine zm ?_|refine z0i hs λ_ hs=>?_|refine z05 hs λ_ _ hs=>?_|refine z0b hs λ_ _ hs=>?_|refine z0h hs λ_ hs=>?_|refine z09 hs λ_ hs=>?_)|(apply wp_must;(focus first|trivial|omega|assumption))|refine z1o ?_|refine wp_lt ?_))
  refine z76 hs (λb hb=>?_) λhb=>?_
  ·obtain ⟨t,ht,rfl,rfl,hA⟩:=z8r hp hb
   refine z0j ?_ (by simp)
   rw [if_neg (by rw [z62.2 ⟨_,hA,rfl⟩];simp)]
   refine za (z037 t.f.name m hp hok hs) λ_ _ hs=>?_
   obtain ⟨rfl,FS',hp',-,-,hs⟩:=hs
   refine ze ?_
   (repeat (first|with_reducible (first|refine zt ?_|refine zy ?_|refine z0p ?_|refine zd hs ?_|refine z02 hs ?_|refine zm ?_|refine z0i hs λ_ hs=>?_|refine z05 hs λ_ _ hs=>?_|refine z0b hs λ_ _ hs=>?_|refine z0h hs λ_ hs=>?_|refine z09 hs λ_ hs=>?_)|(apply wp_must;(focus first|trivial|omega|assumption))|refine z1o ?_|refine wp_lt ?_))
   rw [hg] at hs
   refine za (zbh (l':=r) hg (zvl hok t.f.name) hp' hs) λ_ _ hs=>?_
   obtain ⟨rfl,hs⟩:=hs
   refine ze ?_
   (repeat (first|with_reducible (first|refine zt ?_|refine zy ?_|refine z0p ?_|refine zd hs ?_|refine z02 hs ?_|refine zm ?_|refine z0i hs λ_ hs=>?_|refine z05 hs λ_ _ hs=>?_|refine z0b hs λ_ _ hs=>?_|refine z0h hs λ_ hs=>?_|refine z09 hs λ_ hs=>?_)|(apply wp_must;(focus first|trivial|omega|assumption))|refine z1o ?_|refine wp_lt ?_))
   exact ⟨rfl,rfl,hs⟩
  ·refine z1b ?_ (by rfl)
   rw [if_pos (z68.2 (z7k hp hb))]
   exact ⟨rfl,rfl,z2u m hp hok hs⟩
theorem zc5 {fs fs':List FileA} {f:FileA} {g:FileA->FileA} (hp:fs.Perm (f::fs')) (hne:∀ g ∈ fs',g.name≠f.name):used (fs.map (z22 f.name g))=(g f).b.length+used fs':=by
 rw [z4c (z6z hp hne),z1w]
theorem z03r (n:ByteArray) (k:Int) [hf:Fo l dk d A r] (hs:Sat w l):Ret P F.a4 #[.pointer (some ⟨d,0,none⟩),.string n,.int .i64 k] w λvs w'=>vs=[.int .i64 (cutA' A n k).1]/\Sat w' (dk d (cutA' A n k).2::r) :=
 zss _ n k <| by
  unfold zf5 cutA'
  refine zg5 hs (λhg w' hs=>?_) λhg w' hs=>?_
  ·rw [if_pos hg];exact ⟨rfl,hs⟩
  rw [if_neg (by rw [hg];simp)]
  obtain ⟨m,FS,hp,hok,hs⟩:=z2l hs
  (repeat (first|with_reducible (first|refine zt ?_|refine zy ?_|refine z0p ?_|refine zd hs ?_|refine z02 hs ?_|refine zm ?_|refine z0i hs λ_ hs=>?_|refine z05 hs λ_ _ hs=>?_|refine z0b hs λ_ _ hs=>?_|refine z0h hs λ_ hs=>?_|refine z09 hs λ_ hs=>?_)|(apply wp_must;(focus first|trivial|omega|assumption))|refine z1o ?_|refine wp_lt ?_))
  refine z76 hs (λb hb=>?_) λhb=>?_
  ·obtain ⟨t,ht,rfl,rfl,hA⟩:=z8r hp hb
   refine wp_lt ?_
   refine z0j ?_ (by simp)
   rw [if_neg (by rw [z62.2 ⟨_,hA,rfl⟩];simp),zzu (z2j hok.sorted) hA rfl]
   obtain ⟨FS',hpm,hs⟩:=z7d hs ht
   obtain ⟨h1,h2,-⟩:=apart hp hok hpm
   have hlen:=hs.slen t.x (xs:=t.f.b) (enc:=zg)
   have hcap:=(hs.focS t.x).slc_cap
   (repeat (first|with_reducible (first|refine zt ?_|refine zy ?_|refine z0p ?_|refine zd hs ?_|refine z02 hs ?_|refine zm ?_|refine z0i hs λ_ hs=>?_|refine z05 hs λ_ _ hs=>?_|refine z0b hs λ_ _ hs=>?_|refine z0h hs λ_ hs=>?_|refine z09 hs λ_ hs=>?_)|(apply wp_must;(focus first|trivial|omega|assumption))|refine z1o ?_|refine wp_lt ?_))
   refine zk (λh=>?_) λh=>?_
   ·rw [if_pos (by omega)]
    have hs:=(z6k t hs).all_perm (hpm.symm.map z47)
    exact ⟨rfl,rfl,z2u m hp hok hs⟩
   ·rw [if_neg (by omega)]
    obtain ⟨k,rfl⟩:∃ j:Nat,k=j:=⟨k.toNat,by omega⟩
    rw [Int.toNat_natCast]
    have hk:k<=t.f.b.length:=by omega
    have hu0:used A.fs=t.f.b.length+used (FS'.map FileM.f):=by rw [z4c h1,z1w]
    have hu1:=zc5 (g:=λf=>{ f with b:=f.b.take k,kept:=min f.kept k }) h1 h2
    have hu2:used (A.fs.map (z22 t.f.name λf=>{ f with b:=f.b.take k,kept:=min f.kept k }))=k+used (FS'.map FileM.f):=by
     rw [hu1];show (t.f.b.take k).length+_=_;rw [List.length_take,Nat.min_eq_left hk]
    have hou:=hok.used
    refine z0i hs λw' hs=>?_
    refine zy ?_
    refine zd hs ?_
    refine zy ?_
    refine zd hs ?_
    have e1:IntKind.wrap .i64 ((used A.fs:Nat)-IntKind.wrap .i64 (((t.x.len:Nat):Int)-(k:Int)))=(used (A.fs.map (z22 t.f.name λf=>{ f with b:=f.b.take k,kept:=min f.kept k })):Nat):=by
     rw [w64 (x:=((t.x.len:Nat):Int)-(k:Int)) (by omega) (by omega),w64 (by omega) (by omega)];omega
    rw [e1]
    (repeat (first|with_reducible (first|refine zt ?_|refine zy ?_|refine z0p ?_|refine zd hs ?_|refine z02 hs ?_|refine zm ?_|refine z0i hs λ_ hs=>?_|refine z05 hs λ_ _ hs=>?_|refine z0b hs λ_ _ hs=>?_|refine z0h hs λ_ hs=>?_|refine z09 hs λ_ hs=>?_)|(apply wp_must;(focus first|trivial|omega|assumption))|refine z1o ?_|refine wp_lt ?_))
    have hs:=(hs.focS t.x).slc_cut (n:=k) (by omega)
    rw [za3] at hs
    have e2:(if (k:Int)<((t.f.kept:Nat):Int) then (k:Int) else ((t.f.kept:Nat):Int))=((min t.f.kept k:Nat):Int):=by split <;> omega
    rw [e2] at hs
    have hs:=z6k (FS:=FS') ⟨t.at_,⟨t.x.a,k,k⟩,⟨t.f.name,t.f.b.take k,min t.f.kept k⟩⟩ hs
    have hp':(((⟨t.at_,⟨t.x.a,k,k⟩,⟨t.f.name,t.f.b.take k,min t.f.kept k⟩⟩:FileM)::FS').map FileM.f).Perm (A.fs.map (z22 t.f.name λf=>{ f with b:=f.b.take k,kept:=min f.kept k })) :=
     (z6z (g:=λf=>{ f with b:=f.b.take k,kept:=min f.kept k }) h1 h2).symm
    have hok':okA { A with fs:=A.fs.map (z22 t.f.name λf=>{ f with b:=f.b.take k,kept:=min f.kept k }) }:=by
     refine ⟨hok.room,by show used (A.fs.map _)<=_;omega,by show (A.fs.map _).length<=_;rw [List.length_map];exact hok.many,hok.left,z8q (z67 λ_=>rfl) hok.sorted,λf hf=>?_,λf hf=>?_⟩
     rotate_left
     ·obtain ⟨g,hg,rfl⟩:=List.mem_map.1 hf
      rw [z67 (by intro _;rfl)];exact hok.names g hg
     obtain ⟨g,hg,rfl⟩:=List.mem_map.1 hf
     have:=hok.kept g hg
     unfold z22
     split
     ·show min g.kept k<=(g.b.take k).length;rw [List.length_take];omega
     ·exact this
    have hs:Sat _ (z3w ekS evF m (((⟨t.at_,⟨t.x.a,k,k⟩,⟨t.f.name,t.f.b.take k,min t.f.kept k⟩⟩:FileM)::FS').map λt=>(t.f.name,t.at_))::_):=(hs.pick [2]).mapPerm (hpm.map λt=>(t.f.name,t.at_))
    rw [hg] at hs
    refine za (zbh (l':=r) hg hok' hp' hs) λ_ _ hs=>?_
    obtain ⟨rfl,hs⟩:=hs
    refine ze ?_
    (repeat (first|with_reducible (first|refine zt ?_|refine zy ?_|refine z0p ?_|refine zd hs ?_|refine z02 hs ?_|refine zm ?_|refine z0i hs λ_ hs=>?_|refine z05 hs λ_ _ hs=>?_|refine z0b hs λ_ _ hs=>?_|refine z0h hs λ_ hs=>?_|refine z09 hs λ_ hs=>?_)|(apply wp_must;(focus first|trivial|omega|assumption))|refine z1o ?_|refine wp_lt ?_))
    exact ⟨rfl,rfl,hs⟩
  ·refine wp_lt ?_
   refine z1b ?_ (by rfl)
   rw [if_pos (z68.2 (z7k hp hb))]
   exact ⟨rfl,rfl,z2u m hp hok hs⟩
end
section
variable {w:World} {l r:List HP} {d:Nat} {A:DiskA}
theorem zr7 {s:ByteArray} (h:z3f s=true):s.size<=24:=by
 simp only [z3f,Bool.and_eq_true,decide_eq_true_eq] at h;exact h.2.2
theorem zt6 (n:ByteArray) (fs:List FileA):(z4p n fs).length<=fs.length:=List.length_filter_le _ _
end
def z48 (n:Nat):UInt8:=if n<10 then UInt8.ofNat (48+n) else UInt8.ofNat (87+n)
def z6f (c:UInt8):Option Nat:=if 48<=c.toNat/\c.toNat<=57 then some (c.toNat-48) else if 97<=c.toNat/\c.toNat<=102 then some (c.toNat-87) else none
theorem z03b {n:Nat} (h:n<16):z6f (z48 n)=some n:=by
 unfold z48 z6f
 split
 ·rw [UInt8.toNat_ofNat',if_pos (by omega)]
  congr 1;omega
 ·rw [UInt8.toNat_ofNat',if_neg (by omega),if_pos (by omega)]
  congr 1;omega
theorem z02u {c:UInt8} {n:Nat} (h:z6f c=some n):z48 n=c/\n<16:=by
 unfold z6f at h
 unfold z48
 split at h
 ·simp only [Option.some.injEq] at h
  subst h
  rw [if_pos (by omega)]
  exact ⟨UInt8.toNat_inj.1 (by rw [UInt8.toNat_ofNat'];omega),by omega⟩
 ·split at h
  ·simp only [Option.some.injEq] at h
   subst h
   rw [if_neg (by omega)]
   exact ⟨UInt8.toNat_inj.1 (by rw [UInt8.toNat_ofNat'];omega),by omega⟩
  ·cases h
def z1q:Nat->Nat->List UInt8
 | 0,_=>[]
 | k+1,n=>z1q k (n / 16)++[z48 (n % 16)]
def z4b (x:Nat):List UInt8->Option Nat
 | []=>some x
 | c::r=>match z6f c with
  | none=>none
  | some d=>z4b (16*x+d) r
theorem z3g:∀ (k n:Nat),(z1q k n).length=k
 | 0,_=>rfl
 | k+1,n=>by unfold z1q;rw [List.length_append,z3g k];rfl
theorem zfj (x:Nat) (a b:List UInt8):z4b x (a++b)=(z4b x a).bind λy=>z4b y b:=by
 induction a generalizing x with
 | nil=>rfl
 | cons c r ih =>
  rw [List.cons_append]
  cases hd:z6f c with
  | none=>simp only [z4b,hd];rfl
  | some d=>simp only [z4b,hd];exact ih _
theorem zb0:∀ (k n x:Nat),z4b x (z1q k n)=some (x*16 ^ k+n % 16 ^ k)
 | 0,n,x=>by simp [z1q,z4b,Nat.mod_one]
 | k+1,n,x=>by
  unfold z1q
  rw [zfj,zb0 k]
  show z4b _ [z48 (n % 16)]=_
  unfold z4b
  rw [z03b (Nat.mod_lt _ (by omega))]
  show some _=some _
  congr 1
  have h1:n % 16 ^ (k+1)=16*(n / 16 % 16 ^ k)+n % 16:=by
   rw [Nat.pow_succ,Nat.mul_comm (16 ^ k) 16,Nat.mod_mul];omega
  have h2:x*16 ^ (k+1)=16*(x*16 ^ k):=by rw [Nat.pow_succ];ac_rfl
  omega
def zu:List UInt8:=[46,108,111,103]
def z1u:List UInt8:=[46,110,101,119]
def zi (pre:ByteArray) (base:Int) (x:List UInt8):ByteArray:=⟨(bl pre++(45::(z1q 11 base.toNat++x))).toArray⟩
def z1j (pre n:ByteArray) (x:List UInt8):Option Nat :=
 if (bl n).length=(bl pre).length+1+11+x.length/\(bl n).drop ((bl pre).length+1+11)=x then z4b 0 (((bl n).drop ((bl pre).length+1)).take 11) else none
def z13 (pre:ByteArray):ByteArray:=⟨(bl pre++[45]).toArray⟩
def zka (pre n:ByteArray) (x:List UInt8):Option Nat:=if (bl (z13 pre)).isPrefixOf (bl n) then z1j pre n x else none
theorem z4i (pre:ByteArray) (base:Int) (x:List UInt8):bl (zi pre base x)=bl pre++(45::(z1q 11 base.toNat++x)):=z7n _
theorem zh2 (pre:ByteArray):bl (z13 pre)=bl pre++[45]:=z7n _
theorem z1m (pre:ByteArray) (base:Int) (x:List UInt8):(bl (z13 pre)).isPrefixOf (bl (zi pre base x))=true:=by
 rw [z4i,zh2,List.isPrefixOf_iff_prefix]
 exact ⟨z1q 11 base.toNat++x,by simp⟩
theorem z5y (pre:ByteArray) {base:Int} (h:0<=base/\base<17592186044416) (x:List UInt8):z1j pre (zi pre base x) x=some base.toNat:=by
 have hl:=z3g 11 base.toNat
 have e1:(bl (zi pre base x)).drop ((bl pre).length+1)=z1q 11 base.toNat++x:=by
  rw [z4i,<- List.drop_drop,List.drop_left]
  rfl
 have e2:(bl (zi pre base x)).drop ((bl pre).length+1+11)=x:=by
  rw [<- List.drop_drop,e1]
  exact List.drop_left' hl
 unfold z1j
 rw [e1,e2,if_pos ⟨by rw [z4i];simp [hl];omega,rfl⟩,List.take_left' hl,zb0,Nat.zero_mul,Nat.zero_add,Nat.mod_eq_of_lt (by omega)]
theorem z9v {pre n:ByteArray} {x y:List UInt8} {v:Nat} (h:z1j pre n x=some v) (hxy:x≠y):z1j pre n y=none:=by
 unfold z1j at h ⊢
 split at h
 ·rename_i h1
  rw [if_neg]
  rintro ⟨h2,h3⟩
  exact hxy (h1.2.symm.trans h3)
 ·cases h
theorem zbd (pre:ByteArray) {base:Int} (h:0<=base/\base<17592186044416) (x:List UInt8):zka pre (zi pre base x) x=some base.toNat:=by
 unfold zka
 rw [if_pos (z1m _ _ _),z5y pre h]
theorem zud {pre n:ByteArray} {x y:List UInt8} {v:Nat} (h:zka pre n x=some v) (hxy:x≠y):zka pre n y=none:=by
 unfold zka at h ⊢
 split at h
 ·rename_i hp;rw [if_pos hp];exact z9v h hxy
 ·cases h
theorem z5l {pre:ByteArray} {a b:Int} {x y:List UInt8} (ha:0<=a/\a<17592186044416) (hb:0<=b/\b<17592186044416) (h:zi pre a x=zi pre b y):a=b/\x=y:=by
 have h1:=zbd pre ha x
 rw [h] at h1
 by_cases hxy:x=y
 ·subst hxy
  rw [zbd pre hb] at h1
  simp only [Option.some.injEq] at h1
  exact ⟨by omega,rfl⟩
 ·rw [zud (zbd pre hb y) (λe=>hxy e.symm)] at h1
  cases h1
def z5a (pre:ByteArray):Bool:=decide (1<=pre.size/\pre.size<=8) && (bl pre).all λc=>(97<=c.toNat && c.toNat<=122) || (48<=c.toNat && c.toNat<=57)
theorem zz0 {n:Nat} (h:n<16):okC (z48 n)=true:=by
 unfold z48 okC
 split <;> rw [UInt8.toNat_ofNat'] <;> simp <;> omega
theorem zom:∀ (k n:Nat),(z1q k n).all okC=true
 | 0,_=>rfl
 | k+1,n=>by
  unfold z1q
  rw [List.all_append,zom k]
  simp [zz0 (Nat.mod_lt n (by omega:(16:Nat)>0))]
theorem zlj {pre:ByteArray} (h:z5a pre=true) (base:Int) {x:List UInt8} (hx:x.length=4) (hxo:x.all okC=true):z3f (zi pre base x)=true:=by
 unfold z5a at h
 rw [Bool.and_eq_true,decide_eq_true_eq] at h
 have hall:(bl pre).all okC=true:=by
  rw [List.all_eq_true] at h ⊢
  intro c hc
  have:=h.2 c hc
  unfold okC
  rw [this]
  rfl
 have hsz:(zi pre base x).size=pre.size+16:=by
  rw [<- z14,z4i,<- z14]
  simp [z3g,hx]
 unfold z3f
 rw [hsz,show (zi pre base x).data.toList=_ from z4i pre base x]
 simp [List.all_append,hall,zom,hxo]
 exact ⟨by decide,by omega⟩
theorem zv9 {p q n:ByteArray} (hp:z5a p=true) (hq:z5a q=true) (h1:(bl (z13 p)).isPrefixOf (bl n)=true) (h2:(bl (z13 q)).isPrefixOf (bl n)=true):p=q:=by
 have key:∀ (a b:List UInt8),(∀ c ∈ a,c≠45)->(∀ c ∈ b,c≠45)->∀ s t:List UInt8,a++45::s=b++45::t->a=b:=by
  intro a
  induction a with
  | nil =>
   intro b _ hb s t h
   cases b with
   | nil=>rfl
   | cons c cs=>simp at h;exact absurd h.1.symm (hb c (List.mem_cons_self ..))
  | cons c cs ih =>
   intro b ha hb s t h
   cases b with
   | nil=>simp at h;exact absurd h.1 (ha c (List.mem_cons_self ..))
   | cons d ds =>
    simp at h
    rw [h.1,ih ds (λx hx=>ha x (List.mem_cons_of_mem _ hx)) (λx hx=>hb x (List.mem_cons_of_mem _ hx)) s t h.2]
 have no:∀ {p:ByteArray},z5a p=true->∀ c ∈ bl p,c≠45:=λ{p} hp c hc e=>by
  unfold z5a at hp
  rw [Bool.and_eq_true,List.all_eq_true] at hp
  have:=hp.2 c hc
  subst e
  revert this
  decide
 rw [List.isPrefixOf_iff_prefix,zh2] at h1 h2
 obtain ⟨s,hs⟩:=h1
 obtain ⟨t,ht⟩:=h2
 refine z9j (key _ _ (no hp) (no hq) s t ?_)
 rw [<- ht] at hs
 simpa using hs
theorem z9b:∀ (a x y:List UInt8),Op.bytesLess (a++x) (a++y)=Op.bytesLess x y
 | [],x,y=>rfl
 | c::a,x,y=>by
  rw [List.cons_append,List.cons_append,Op.bytesLess,z9b a]
  simp
theorem za0:∀ (a b x y:List UInt8),a.length=b.length->(Op.bytesLess (a++x) (b++y)=true↔Op.bytesLess a b=true\/(a=b/\Op.bytesLess x y=true))
 | [],[],x,y,_=>by simp [Op.bytesLess]
 | c::a,d::b,x,y,h=>by
  rw [List.cons_append,List.cons_append,Op.bytesLess,Op.bytesLess]
  have ih:=za0 a b x y (by simpa using h)
  simp only [Bool.or_eq_true,decide_eq_true_eq,Bool.and_eq_true,beq_iff_eq,List.cons.injEq]
  rw [ih]
  constructor
  ·rintro (h|⟨h,h2|⟨h2,h3⟩⟩)
   ·exact .inl (.inl h)
   ·exact .inl (.inr ⟨h,h2⟩)
   ·exact .inr ⟨⟨h,h2⟩,h3⟩
  ·rintro ((h|⟨h,h2⟩)|⟨⟨h,h2⟩,h3⟩)
   ·exact .inl h
   ·exact .inr ⟨h,.inl h2⟩
   ·exact .inr ⟨h,.inr ⟨h2,h3⟩⟩
theorem zyw {a b:Nat} (ha:a<16) (hb:b<16):(z48 a<z48 b)↔a<b:=by
 rw [UInt8.lt_iff_toNat_lt]
 unfold z48
 split <;> split <;> rw [UInt8.toNat_ofNat',UInt8.toNat_ofNat'] <;> omega
theorem zdb:∀ (k a b:Nat),a<16 ^ k->b<16 ^ k->(Op.bytesLess (z1q k a) (z1q k b)=true↔a<b)
 | 0,a,b,ha,hb=>by simp at ha hb;subst ha hb;simp [z1q,Op.bytesLess]
 | k+1,a,b,ha,hb=>by
  have h1:a / 16<16 ^ k:=by rw [Nat.pow_succ] at ha;omega
  have h2:b / 16<16 ^ k:=by rw [Nat.pow_succ] at hb;omega
  unfold z1q
  rw [za0 _ _ _ _ (by rw [z3g,z3g]),zdb k _ _ h1 h2]
  have h3:Op.bytesLess [z48 (a % 16)] [z48 (b % 16)]=true↔a % 16<b % 16:=by
   simp only [Op.bytesLess,Bool.or_eq_true,decide_eq_true_eq,Bool.and_eq_true,Bool.false_eq_true,and_false,or_false]
   exact zyw (Nat.mod_lt _ (by omega)) (Nat.mod_lt _ (by omega))
  rw [h3]
  have h4:z1q k (a / 16)=z1q k (b / 16)->a / 16=b / 16:=λh=>by
   have e1:=zb0 k (a / 16) 0
   rw [h,zb0] at e1
   simp only [Option.some.injEq] at e1
   rw [Nat.mod_eq_of_lt h1,Nat.mod_eq_of_lt h2] at e1
   omega
  constructor
  ·rintro (h|⟨h,h5⟩)
   ·omega
   ·have:=h4 h;omega
  ·intro h
   by_cases h5:a / 16=b / 16
   ·right;exact ⟨by rw [h5],by omega⟩
   ·left;omega
theorem zie (pre:ByteArray) {a b:Int} (ha:0<=a/\a<17592186044416) (hb:0<=b/\b<17592186044416) (x:List UInt8):ltS (zi pre a x) (zi pre b x)=true↔a<b:=by
 have e:∀ s:ByteArray,ByteArray.toList s=bl s:=λs=>by rw [ByteArray.toList_eq]
 unfold ltS
 rw [e,e,z4i,z4i,z9b]
 have e2:∀ y z:List UInt8,Op.bytesLess (45::y) (45::z)=Op.bytesLess y z:=z9b [45]
 rw [e2,za0 _ _ _ _ (by rw [z3g,z3g]),zdb 11 _ _ (by omega) (by omega),za7]
 constructor
 ·rintro (h|⟨-,h⟩)
  ·omega
  ·cases h
 ·intro h;left;omega
end Go.Dec
namespace Go.Proofs.YtfnldnodhfkojaaGreat
open Go.RowKit Go.Maps Go.Sort Go.Proofs
set_option maxRecDepth 100000 in
set_option maxHeartbeats 1000000 in
theorem zuj {H:Type} (F:Fence) (n:Nat) (h10:F.fn 143) (hro:F.round=none) (hn:1<=n) (l Bm b nn:Nat) (D0:DataW H) {R:Value->Option (DataW H × List MemPlace)} (J Jx:List (List UInt8)->World->Prop)
  (hY:∀ pre x W,J pre W->pre.length<Maps.size D0->YieldAt F (n-1) Tryz.prog l #[encStr x] W λe W'=>(e=.returned (.bool true)/\J (pre++[x]) W'/\KeepsWalks W W')\/(e=.returned (.bool false)/\Jx (pre++[x]) W'))
  (W:World) (hJ:AbidesFrom W.heap.size J) (hm:W.cell? ⟨Bm,0,none⟩=some (.map (some b))) (hown:W.ownsMap Tryz.prog 9 R b nn D0) (h0:J [] W) :
  CallsIn F n Tryz.prog 143 #[.func (.yield l) #[] #[],.pointer (some ⟨Bm,0,none⟩)] W λe W'=>(∃ v,e=.returned v)/\((∃ ss:List (List UInt8),ss.Perm (strKeys D0)/\J ss W')\/(∃ pre,True/\Jx pre W')):=by
 refine callsIn_of_wp Tryz.func143 rfl h10 ?_ hro
 simp only [Tryz.ntmps143,List.size_toArray,List.length_cons,List.length_nil,Nat.reduceAdd,Nat.reduceSub,Array.replicate_succ,Array.replicate_zero,List.push_toArray,List.append_toArray,List.nil_append,List.cons_append]
 gi_wp2_with (first
  | (gi_at_range;refine wpListIn_range_own _ rfl _ 110 rfl 9 157 (string_keyed Tryz.underlying9) Tryz.underlying110 _ b nn _ rfl hown ?_;intro w0 hrg0 hg0 hs0)
  | gi_in)
 go_frame
 gi_loopw [3] (λ_ wr=>∃ (left:Lit->Bool) (cnt:Nat) (ss:List (List UInt8)),wr.ranges Tryz.prog 9 R b W.heap.size nn D0 left cnt/\ss.length+cnt<=Maps.size D0/\Collected D0 left ss/\J ss wr)
  (λ_ wr=>wr.rangeLeft b W.heap.size)
 case atStart =>
  exact ⟨_,_,[],hrg0,by simp,Collected.start D0,hJ [] W w0 none h0 hg0 (λr e=>by cases e)⟩
 case round =>
  obtain ⟨left,cnt,ss,hrg,hcs,hC,hJs⟩:=hrel
  gi_wp2_with (first
   | (gi_at_next;refine wpListIn_next_ranges _ rfl _ rfl 9 (string_keyed Tryz.underlying9) R encStr id (λkey kl hk=>by obtain ⟨x,hx,_⟩:=Maps.keyOf_str Tryz.underlying9 hk;exact ⟨x,hx⟩) (λv _ _=>⟨v,rfl⟩) b W.heap.size nn _ _ _ rfl hrg ?_ ?_)
   | gi_in)
  ·intro hc0 hl0
   gi_wp2
   go_end0
   exact ⟨⟨_,rfl⟩,.inl ⟨ss,hC.perm hown (string_keyed Tryz.underlying9) Tryz.underlying9 hl0,hJs⟩⟩
  ·intro x c kl yd yp w2 cnt2 hkey hlk hv hat hrg2 hlt hg2 hs2 hen
   obtain ⟨x',ex,rfl,_⟩:=Maps.keyOf_str Tryz.underlying9 hkey
   obtain rfl:x=x':=encStr_inj ex
   have hJ2:J ss w2:=hJ ss wr w2 (some W.heap.size) hJs hg2 (λr e=>by cases e;exact ⟨Nat.le_refl _,hrg.iter_walk⟩)
   obtain ⟨fn,tmps,assign,body,hy,hR⟩:=hY ss x w2 hJ2 (by omega)
   clear hs2
   gi_wp2
   refine hR.mono ?_
   rintro e W3 (⟨rfl,hJ3,hk3⟩|⟨rfl,hJx3⟩)
   ·gi_wp2
    have hrg3:=hrg2.of_walks hk3
    go_roundw
    case rel=>exact ⟨_,cnt2,ss++[x],hrg3,by simp;omega,hC.step hlk hat,hJ3⟩
    case measure=>rw [hrg3.left_eq,hrg.left_eq];exact hlt
   ·gi_wp2
    refine bodyPost_ret (results_none rfl _ _ _) rfl ?_
    exact ⟨⟨_,rfl⟩,.inr ⟨ss++[x],trivial,hJx3⟩⟩
theorem zy8 (mb:Option Nat) (w:World) :
  Calls Tryz.prog 97 #[.map mb] w λe w'=>e=.returned (.func (.func 143) #[] #[.pointer (some ⟨w.heap.size,0,none⟩)])/\w'=w.alloc (.cells #[.map mb] 110):=by
 refine Calls.mono (Dec.zf36_calls mb (w:=w) (R:=λvs w'=>vs=[.func (.func 143) #[] #[.pointer (some ⟨w.heap.size,0,none⟩)]]/\w'=w.alloc (.cells #[.map mb] 110)) ?_) λe w' ⟨vs,he,hv,hw⟩=>⟨by rw [he,hv];rfl,hw⟩
 unfold Dec.zf36
 refine ⟨(⟨w.heap.size,0,none⟩,()),w.alloc (.cells #[.map mb] 110),?_,trivial,?_⟩
 ·simp only [Instr.box,Sem.run_bind,Dec.run_newVar,Result.andThen_ok,Sem.run_pure];rfl
 ·exact ⟨rfl,rfl,rfl⟩
def preF (p s:ByteArray):Bool:=p.toList.isPrefixOf s.toList
theorem z01y (s p:ByteArray):(decide (((ByteArray.size s:Nat):Int)>=((ByteArray.size p:Nat):Int)) && ByteArray.toList (ByteArray.extract s 0 (Int.toNat (((ByteArray.size p:Nat):Int)))) == ByteArray.toList p)=preF p s:=by
 unfold preF
 rw [Int.toNat_natCast,ByteArray.toList_eq,ByteArray.toList_eq,ByteArray.toList_eq]
 have e1:(ByteArray.extract s 0 p.size).data.toList=s.data.toList.take p.size:=by simp [ByteArray.data_extract]
 have e2:p.size=p.data.toList.length:=by simp
 rw [e1,Bool.eq_iff_iff,Bool.and_eq_true,decide_eq_true_eq,beq_iff_eq,List.isPrefixOf_iff_prefix]
 constructor
 ·rintro ⟨-,h⟩
  rw [<- h];exact List.take_prefix _ _
 ·intro h
  have hl:=h.length_le
  refine ⟨?_,?_⟩
  ·have:s.size=s.data.toList.length:=by simp
   omega
  ·rw [e2];exact (List.prefix_iff_eq_take.1 h).symm
theorem zv6 (s p:ByteArray) (w:World):Calls Tryz.prog 98 #[.string s,.string p] w λe w'=>e=.returned (.bool (preF p s))/\w'=w:=by
 refine Calls.mono (Dec.zf106_calls s p (w:=w) (R:=λvs w'=>vs=[.bool (preF p s)]/\w'=w) ?_) λe w' ⟨vs,he,hv,hw⟩=>⟨by rw [he,hv];rfl,hw⟩
 unfold Dec.zf106
 refine Dec.wp_callS (preF p s,()) (Dec.zf32_calls s p (R:=λvs w'=>vs=[.bool (preF p s)]/\w'=w) ?_) rfl λw' hw=>⟨trivial,?_⟩
 ·unfold Dec.zf32
  refine Dec.wp_must (λh=>?_) (Dec.wp_lt ⟨rfl,by rw [z01y],rfl⟩)
  have h:=of_decide_eq_true h
  omega
 ·exact Dec.wp_lt ⟨rfl,rfl,hw⟩
end Go.Proofs.YtfnldnodhfkojaaGreat
namespace Go.Proofs.YtfnldnodhfkojaaGreat
open Go.RowKit Go.Maps Go.Sort Go.Proofs Go.Shelf
attribute [local go_sem] Oper.semAt_some
def z5i (p:ByteArray) (ss:List (List UInt8)):List (List UInt8):=ss.filter λx=>preF p ⟨x.toArray⟩
theorem zyv (p:ByteArray) (pre:List (List UInt8)) {x:List UInt8} (h:preF p ⟨x.toArray⟩=true):z5i p (pre++[x])=z5i p pre++[x]:=by simp [z5i,h]
theorem zu4 (p:ByteArray) (pre:List (List UInt8)) {x:List UInt8} (h:¬ preF p ⟨x.toArray⟩=true):z5i p (pre++[x])=z5i p pre:=by simp [z5i,h]
theorem z03s:(Tryz.prog.info? 9).map (λi=>(i.zero,i.size,i.bytes))=some (some (.string ByteArray.empty),1,16):=by kernel_rfl
set_option maxRecDepth 100000 in
set_option maxHeartbeats 2000000 in
theorem zvf      {H : Type} (n : Nat) (hn : 3 ≤ n) (d b nn : Nat) (p : ByteArray) (w : World) (D0 : DataW H) {R : Value → Option (DataW H × List MemPlace)} (hown : w.ownsMap Tryz.prog 9 R b nn D0) (hd : d < w.heap.size)
    (hc : w.cell? ⟨d, 4, none⟩ = some (.map (some b))) (hmax : Maps.size D0 ≤ 1000) (fin : Value → World → Prop)
    (hsort : ∀ (D : Nat) (ss : List (List UInt8)) (v : Value) (W : World), w.heap.size + 2 ≤ D → ss.Perm (strKeys D0) → Boxed W (w.heap.size + 1) 68 v → W.ownsRow (w.heap.size + 1) 9 1 v (z5i  p ss).length ((z5i  p ss).map encStr) → Below w.heap.size w W →
      W.heap[D]? = some (.deferred (some [])) → CallsIn Fence.wide (n - 1) Tryz.prog 99 #[v] W fun e W' => e = .returned (.tuple #[]) ∧ W'.cell? ⟨w.heap.size + 1, 0, none⟩ = some v ∧ W'.heap[D]? = some (.deferred (some [])) ∧ fin v (W'.putObj D (.deferred none))) :
    CallsIn Fence.wide n Tryz.prog 33 #[.pointer (some ⟨d, 0, none⟩), .string p] w fun e W' => ∃ v, e = .returned v ∧ fin v W' := by
  have h1 : 1 ≤ n := by omega
  obtain ⟨i0, hi, hz0, hz1, hz2⟩ := info_parts z03s 
  have hbl := hown.lt
  have hc2 : ((w.alloc (.cells #[.string p] 9)).alloc (.cells #[.slice none 0 0] 68)).cell? ⟨d, 4, none⟩ = some (.map (some b)) := by
    rw [World.cell?_alloc_past _ _ _ (by simp; omega), World.cell?_alloc_past _ _ _ hd]; exact hc
  refine callsIn_of_wp_marks Tryz.func33 rfl trivial ?_ rfl
  simp only [Tryz.ntmps33, List.size_toArray, List.length_cons, List.length_nil, Nat.reduceAdd, Nat.reduceSub, Array.replicate_succ, Array.replicate_zero, List.push_toArray, List.append_toArray, List.nil_append, List.cons_append]
  gi_wp2_with (refine ⟨trivial, ?_⟩; gi_at_call 97; refine (callsIn_wide.2 (zy8     _ _)).mono ?_; rintro e w' ⟨rfl, rfl⟩)
  have bP := Boxed.new w 9 (.string p)
  have bO := Boxed.new (w.alloc (.cells #[.string p] 9)) 68 (.slice none 0 0)
  have bM := Boxed.new ((w.alloc (.cells #[.string p] 9)).alloc (.cells #[.slice none 0 0] 68)) 110 (.map (some b))
  rw [World.size_alloc] at bO bM
  rw [World.size_alloc] at bM
  have hB0 : Below w.heap.size w (((w.alloc (.cells #[.string p] 9)).alloc (.cells #[.slice none 0 0] 68)).alloc (.cells #[.map (some b)] 110)) := (((Below.refl _ w).alloc (Nat.le_refl _) _).alloc (by simp) _).alloc (by simp; omega) _
  have hown0 : (((w.alloc (.cells #[.string p] 9)).alloc (.cells #[.slice none 0 0] 68)).alloc (.cells #[.map (some b)] 110)).ownsMap Tryz.prog 9 R b nn D0 := by
    obtain ⟨es, clock, hb, Ft, hs, hD⟩ := hown
    exact ⟨es, clock, (hB0.block b hbl).trans hb, Ft, hs, hD⟩
  have hseq : SeqStops Fence.wide (n - 1) Tryz.prog 143 #[.pointer (some ⟨w.heap.size + 1 + 1, 0, none⟩)] encStr (fun ss => ss.Perm (strKeys D0)) (fun _ => True) (Maps.size D0) (((w.alloc (.cells #[.string p] 9)).alloc (.cells #[.slice none 0 0] 68)).alloc (.cells #[.map (some b)] 110)) := fun l J Jx W hW hJ hJx hY h0 => by
    have hown' : W.ownsMap Tryz.prog 9 R b nn D0 := by
      obtain ⟨es, clock, hb, Ft, hs, hD⟩ := hown0
      exact ⟨es, clock, (hW.block b (by simp; omega)).trans hb, Ft, hs, hD⟩
    exact zuj      Fence.wide (n - 1) trivial rfl (by omega) l (w.heap.size + 1 + 1) b nn D0 J Jx hY W hJ ((hW.cell (p := ⟨w.heap.size + 1 + 1, 0, none⟩) (by simp)).trans bM.cell) hown' h0
  refine wpIn_rangeFunc_ownG rfl h1 (gf := 143) (lb := #[.pointer (some ⟨w.heap.size + 1 + 1, 0, none⟩)]) rfl trivial (enters_of Tryz.func143 (by kernel_rfl) rfl)
    (encs := fun x => #[encStr x]) (Kp := KeepsWalks) (S := fun ss => ss.Perm (strKeys D0)) (Sp := fun _ => True) (N := Maps.size D0) hseq walksK_t (fun W l o o' _ h _ hw => KeepsWalks.putObj _ h hw) (Below.refl _ _) (fun _ => rfl)
    (fun pre W => ((∃ v, Boxed W (w.heap.size + 1) 68 v ∧ W.ownsRow (w.heap.size + 1) 9 1 v (z5i  p pre).length ((z5i  p pre).map encStr) ∧ True) ∧ Boxed W w.heap.size 9 (.string p)) ∧ Below w.heap.size w W)
    (fun _ _ _ => False)
    (OwnFrom.and (OwnFrom.and (Own.from (holdsRow_own (w.heap.size + 1) (w.heap.size + 1) 68 9 1 (fun pre => (z5i  p pre).length) (fun pre => (z5i  p pre).map encStr) (fun _ _ => True)) _) (Own.from (boxed_own w.heap.size 9 (fun _ => .string p)) _)) (ownFrom_below (Nat.le_refl _) (by simp; omega)))
    (fun _ _ _ _ _ hs _ _ => hs)
    ⟨⟨⟨_, bO.alloc _, World.ownsRow_nil _ _ _ _, trivial⟩, (bP.alloc _).alloc _⟩, hB0⟩
    (fun x => { tmps := #[Value.pointer (some { block := d, off := 0 }), Value.string p, undef,
                Value.pointer (some { block := w.heap.size, off := 0 }), Value.slice none 0 0,
                Value.pointer (some { block := w.heap.size + 1, off := 0 }), encStr x,
                Value.pointer (some { block := d, off := 0 }), Value.bool false,
                Value.pointer (some { block := d, off := 0 }), Value.pointer (some { block := d, off := 0 }),
                Value.pointer (some { block := d, off := 4 }), Value.map (some b), .func (.func 143) #[] #[.pointer (some ⟨w.heap.size + 1 + 1, 0, none⟩)], encStr x, undef, undef, undef, undef, undef,
                undef, undef, undef, undef, undef], defers := [] }) ?assign ?body ?done ?stop
  case assign =>
    intro l x W K hK
    gi_wp2
    exact hK
  case body =>
    rintro l pre x W ⟨⟨⟨v, hv, hrow, -⟩, hbp⟩, hB⟩ hlt
    have hcv := hv.cell
    have hcp := hbp.cell
    have hpl : (z5i  p pre).length ≤ pre.length := List.length_filter_le _ _
    have hml : 1000 ≤ maxLen := by decide
    have hvl := hv.lt
    gi_wp2_with (first
      | (refine ⟨trivial, fun _ => by omega, ?_⟩; gi_at_call 98; refine (CallsIn.inRound l (callsIn_wide.2 (zv6      ⟨x.toArray⟩ p W))).mono ?_; rintro e w' ⟨rfl, he⟩; have he := he.symm; subst he)
      | (gi_at_builtin; refine wpListIn_append_own _ rfl _ _ 68 rfl (w.heap.size + 1) 9 i0 (.string ByteArray.empty) 1 16 Tryz.underlying68 hi hz0 hz1 hz2 rfl (by decide) _ _ _ rfl (hrow.alloc _) ⟨W.heap.size, 0, none⟩ 1 1 [encStr x] rfl rfl (cell_one_new _ _ _) (by simp [Value.oneCell', encStr]) (by omega) (by omega) (by simp; omega) ?_; intro v' w1 hown' hgrow _; obtain ⟨g', cap', rfl⟩ := ownsRow_succ hown'; obtain ⟨hv1, hv2, hr2, hk2, hb2⟩ := hv.appended (by decide) hrow (by omega) (by omega) hown' hgrow; have hc1 := hv1.cell; have hf1 := hv1.frozen))
    · have hx : preF p ⟨x.toArray⟩ = true := by assumption
      exact ⟨hk2.from _, hk2.walks, ⟨⟨⟨_, hv2, by rw [zyv     p pre hx]; simpa using hr2, trivial⟩, (hb2.block w.heap.size (by omega)).trans hbp⟩, hB.trans (hb2.mono (by omega))⟩⟩
    · have hx : ¬ preF p ⟨x.toArray⟩ = true := by rename_i hx; rw [hx]; simp
      exact ⟨KeepsFrom.refl _ _, (KeepsOthers.refl _).walks, ⟨⟨⟨v, hv, by rw [zu4      p pre hx]; exact hrow, trivial⟩, hbp⟩, hB⟩⟩
  case done =>
    rintro D ys W hD hS ⟨⟨⟨v, hv, hrow, -⟩, hbp⟩, hB⟩ hK
    have hcv := hv.cell
    have hvl := hv.lt
    have hD2 : w.heap.size + 2 ≤ D := by simp at hD; omega
    gi_wp2_with (refine ⟨trivial, ?_⟩; gi_at_call 99; refine (hsort D ys v W hD2 hS hv hrow hB hK).mono ?_; rintro e w' ⟨rfl, hc1, hK1, hfin⟩)
    refine ⟨by simp, .inl ⟨_, _, rfl, run_takeDeferred hK1, ?_⟩⟩
    exact ⟨_, results_tmp rfl _ _ _, v, rfl, hfin⟩
  case stop =>
    rintro D c pre W _ _ h _
    exact h.elim
end Go.Proofs.YtfnldnodhfkojaaGreat
namespace Go.Dec
open Go.Shelf Go.Proofs
def z045:Ren:=⟨fun|190=>99|125=>146|258=>145|128=>186|129=>187|302=>177|303=>178|304=>179|305=>180|306=>181|307=>182|308=>183|309=>184|310=>185|333=>198|329=>199|330=>200|334=>201|335=>202|336=>203|344=>205|n=>n,fun|31=>68|9=>9|3=>3|46=>187|0=>0|51=>201|53=>173|4=>4|183=>234|182=>233|131=>238|5=>5|218=>251|222=>254|228=>257|229=>258|n=>n,λn=>n⟩
theorem zxi:Lays.n190 P z045 where
 mixed:=by kernel_rfl
 f125:=Tryz.func146.trans (congrArg some (by kernel_rfl))
 f128:=Tryz.func186.trans (congrArg some (by kernel_rfl))
 f129:=Tryz.func187.trans (congrArg some (by kernel_rfl))
 f190:=Tryz.func99.trans (congrArg some (by kernel_rfl))
 f258:=Tryz.func145.trans (congrArg some (by kernel_rfl))
 f302:=Tryz.func177.trans (congrArg some (by kernel_rfl))
 f303:=Tryz.func178.trans (congrArg some (by kernel_rfl))
 f304:=Tryz.func179.trans (congrArg some (by kernel_rfl))
 f305:=Tryz.func180.trans (congrArg some (by kernel_rfl))
 f306:=Tryz.func181.trans (congrArg some (by kernel_rfl))
 f307:=Tryz.func182.trans (congrArg some (by kernel_rfl))
 f308:=Tryz.func183.trans (congrArg some (by kernel_rfl))
 f309:=Tryz.func184.trans (congrArg some (by kernel_rfl))
 f310:=Tryz.func185.trans (congrArg some (by kernel_rfl))
 f329:=Tryz.func199.trans (congrArg some (by kernel_rfl))
 f330:=Tryz.func200.trans (congrArg some (by kernel_rfl))
 f333:=Tryz.func198.trans (congrArg some (by kernel_rfl))
 f334:=Tryz.func201.trans (congrArg some (by kernel_rfl))
 f335:=Tryz.func202.trans (congrArg some (by kernel_rfl))
 f336:=Tryz.func203.trans (congrArg some (by kernel_rfl))
 f344:=Tryz.func205.trans (congrArg some (by kernel_rfl))
 t0:=Tryz.underlying0
 a0:=Tryz.isAgg0
 z0:=Tryz.sizeOf0
 v0:=Tryz.zeroValue0
 t3:=Tryz.underlying3
 a3:=Tryz.isAgg3
 z3:=Tryz.sizeOf3
 v3:=Tryz.zeroValue3
 t4:=Tryz.underlying4
 a4:=Tryz.isAgg4
 z4:=Tryz.sizeOf4
 v4:=Tryz.zeroValue4
 t5:=Tryz.underlying5
 a5:=Tryz.isAgg5
 z5:=Tryz.sizeOf5
 v5:=Tryz.zeroValue5
 t9:=Tryz.underlying9
 a9:=Tryz.isAgg9
 z9:=Tryz.sizeOf9
 v9:=Tryz.zeroValue9
 t31:=Tryz.underlying68
 a31:=Tryz.isAgg68
 z31:=Tryz.sizeOf68
 v31:=Tryz.zeroValue68
 t46:=Tryz.underlying187
 a46:=Tryz.isAgg187
 z46:=Tryz.sizeOf187
 v46:=Tryz.zeroValue187
 t51:=Tryz.underlying201
 a51:=Tryz.isAgg201
 z51:=Tryz.sizeOf201
 v51:=Tryz.zeroValue201
 t53:=Tryz.underlying173
 a53:=Tryz.isAgg173
 z53:=Tryz.sizeOf173
 v53:=Tryz.zeroValue173
 t131:=Tryz.underlying238
 a131:=Tryz.isAgg238
 z131:=Tryz.sizeOf238
 v131:=Tryz.zeroValue238
 t182:=Tryz.underlying233
 a182:=Tryz.isAgg233
 z182:=Tryz.sizeOf233
 v182:=Tryz.zeroValue233
 t183:=Tryz.underlying234
 a183:=Tryz.isAgg234
 z183:=Tryz.sizeOf234
 v183:=Tryz.zeroValue234
 t218:=Tryz.underlying251
 a218:=Tryz.isAgg251
 z218:=Tryz.sizeOf251
 v218:=Tryz.zeroValue251
 t222:=Tryz.underlying254
 a222:=Tryz.isAgg254
 z222:=Tryz.sizeOf254
 v222:=Tryz.zeroValue254
 t228:=Tryz.underlying257
 a228:=Tryz.isAgg257
 z228:=Tryz.sizeOf257
 v228:=Tryz.zeroValue257
 t229:=Tryz.underlying258
 a229:=Tryz.isAgg258
 z229:=Tryz.sizeOf258
 v229:=Tryz.zeroValue258
theorem znw:∀ x y:List UInt8,Op.bytesLess x y=true↔x<y
 | [],[]=>by simp [Op.bytesLess]
 | [],y::ys=>by simp [Op.bytesLess]
 | x::xs,[]=>by simp [Op.bytesLess]
 | x::xs,y::ys=>by
  rw [Op.bytesLess,List.cons_lt_cons_iff,<- znw xs ys]
  simp
def toK (s:ByteArray):List UInt8:=s.data.toList
def ofK (x:List UInt8):ByteArray:=⟨x.toArray⟩
theorem z02w (s:ByteArray):ofK (toK s)=s:=by unfold ofK toK;simp
theorem zk3 (s:ByteArray):ByteArray.toList s=toK s:=ByteArray.toList_eq s
theorem zzs (s:ByteArray):encStr (toK s)=.string s:=by unfold encStr toK;simp
section
variable {w:World} {l:List HP}
theorem zuq {w':World} {os:Array Obj} (h:Sat w l) (he:w'.heap=w.heap++os) (h2:w'.os=w.os) (h3:w'.output=w.output):Sat w' l:=by
 refine z9h ⟨λb o hb=>?_,?_⟩ h
 ·have hb:w.heap[b]? = some o:=hb
  show w'.heap[b]? = some o
  rw [he,Array.getElem?_append_left (Array.getElem?_eq_some_iff.1 hb).1]
  exact hb
 ·show World.env' w=World.env' w'
  unfold World.env';rw [h2,h3]
theorem ziz (x:Sl) (xs:List ByteArray) (h63:xs.length<4611686018427387904) (hs:Sat w (slc T.a32 1 x (xs.flatMap z2o)::l)) :
  Ret P F.a79 #[x.v] w λvs w'=>vs=[]/\∃ ys:List ByteArray,ys.Perm xs/\ys.Pairwise (λa b=>Op.bytesLess (ByteArray.toList b) (ByteArray.toList a)=false)/\Sat w' (slc T.a32 1 x (ys.flatMap z2o)::l):=by
 have hl:x.len=xs.length:=hs.rd.len (enc:=z2o) (λ_=>rfl) (by decide)
 obtain ⟨xa,xl,xc⟩:=x
 simp only at hl
 subst hl
 by_cases h0:xs.length=0
 ·have e:xs=[]:=List.length_eq_zero_iff.1 h0
  subst e
  refine Calls.mono (Any.slices_Sort_string_none zxi xa xc w) λe w' h=>?_
  obtain ⟨he,hw⟩:=h
  subst hw
  exact ⟨[],he,rfl,[],.refl _,.nil,hs⟩
 have hnd:=hs
 obtain ⟨p1,p2,h1,h2,hd,hA,hl⟩:=hnd
 rcases hA with ⟨ha,hl0,hc0,-⟩|⟨b,off,arr,fr,ha,hb,hlen,hle,hsz,hcs,hf⟩
 ·exact absurd hl0 h0
 have ha:xa=some ⟨b,off,none⟩:=ha
 subst ha
 have hle:xs.length<=xc:=hle
 have hsz:off+xc*1<=arr.size:=hsz
 have hP:Sat w (pt b (.cells arr T.a32 fr)::l):=⟨p1,p2,h1,h2,hd,hb,hl⟩
 have z5q:=hP.get
 have hblt:b<w.heap.size:=(Array.getElem?_eq_some_iff.1 z5q).1
 have henc:∀ (zs:List ByteArray) (i:Nat),(zs.flatMap z2o)[i]? = (zs[i]?).map λs=>.string s:=λzs i=>by
  have:zs.flatMap z2o=zs.map λs=>Value.string s:=by
   induction zs with
   | nil=>rfl
   | cons z zs ih=>rw [List.flatMap_cons,List.map_cons,ih];rfl
  rw [this,List.getElem?_map]
 have hH:Go.Sort.Holds encStr w b off (xs.map toK).toArray:=λj hj=>by
  have hj:j<xs.length:=by simpa using hj
  have h3:=hcs j (by rw [hlen];show j<xs.length*1;omega)
  rw [henc,List.getElem?_eq_getElem hj] at h3
  have h4:((xs.map toK).toArray)[j]! = toK xs[j]:=by
   rw [getElem!_pos _ j (by simpa using hj)];simp
  refine ⟨?_,?_⟩
  ·rw [h4,zzs]
   unfold World.cell?
   rw [z5q]
   exact h3
  ·rw [zd5,z5q]
   have:=hf (off+j) (by omega) (by show off+j<off+xc*1;omega)
   simp only [zqc]
   rw [Bool.and_eq_false_iff]
   by_cases hq:fr.1<=off+j
   ·right;exact decide_eq_false λh=>this ⟨hq,h⟩
   ·left;exact decide_eq_false hq
 have hll:(xs.map toK).length=xs.length:=List.length_map ..
 have hc:=Any.slices_Sort_string zxi b off xc (xs.map toK) w hH hblt (by rw [hll];exact h63)
 rw [hll] at hc
 refine Calls.mono hc λe w' h=>?_
 obtain ⟨he,n,os,hw⟩:=h
 generalize hmq:(xs.map toK).mergeSort (λx y=>decide (x<=y))=ms at hw
 have hperm:ms.Perm (xs.map toK):=by rw [<- hmq];exact List.mergeSort_perm _ _
 have hpw:ms.Pairwise λx y=>decide (x<=y)=true:=by
  rw [<- hmq]
  refine List.pairwise_mergeSort (λa b c h1 h2=>?_) (λa b=>?_) _
  ·simp only [decide_eq_true_eq] at *;exact List.le_trans h1 h2
  ·simp only [Bool.or_eq_true,decide_eq_true_eq];exact List.le_total a b
 have hml:ms.length=xs.length:=by rw [hperm.length_eq,hll]
 have hofK:(xs.map toK).map ofK=xs:=by
  rw [List.map_map]
  conv=>rhs;rw [<- List.map_id xs]
  exact List.map_congr_left λs _=>z02w s
 refine ⟨[],he,rfl,ms.map ofK,?_,?_,?_⟩
 ·have:=hperm.map ofK
  rwa [hofK] at this
 ·rw [List.pairwise_map]
  refine hpw.imp λ{a c} h=>?_
  have h:a<=c:=of_decide_eq_true h
  rw [zk3,zk3]
  have e:∀ z,toK (ofK z)=z:=λz=>by unfold toK ofK;simp
  rw [e,e]
  cases hq:Op.bytesLess c a with
  | false=>rfl
  | true=>exact absurd h (List.not_le.2 ((znw c a).1 hq))
 ·have hset:=hP.set (o':=.cells (Go.Sort.putCells encStr off ms.toArray arr) T.a32 fr)
  have hheap:w'.heap=(z3h w b (.cells (Go.Sort.putCells encStr off ms.toArray arr) T.a32 fr)).heap++os:=by
   rw [hw]
   show (w.heap.modify b (Go.Sort.onCells _))++os=w.heap.setIfInBounds b _++os
   congr 1
   apply Array.ext_getElem?
   intro i
   rw [Array.getElem?_modify,Array.getElem?_setIfInBounds]
   by_cases hib:b=i
   ·subst hib
    rw [if_pos rfl,if_pos rfl,z5q,if_pos hblt]
    rfl
   ·rw [if_neg hib,if_neg hib]
  have hs2:=zuq hset hheap (by rw [hw];rfl) (by rw [hw];rfl)
  refine hs2.imp λq hq=>.inr ⟨b,off,_,fr,rfl,hq,?_,hle,?_,λi hi=>?_,hf⟩
  ·show ((ms.map ofK).flatMap z2o).length=xs.length*1
   have:∀ zs:List ByteArray,(zs.flatMap z2o).length=zs.length:=λzs=>by
    induction zs with
    | nil=>rfl
    | cons z zs ih=>rw [List.flatMap_cons,List.length_append,ih];simp [z2o];omega
   rw [this,List.length_map,hml];omega
  ·show off+xc*1<=(Go.Sort.putCells encStr off ms.toArray arr).size
   unfold Go.Sort.putCells
   rw [Array.size_mapIdx];exact hsz
  ·have him:i<ms.length:=by
    have:∀ zs:List ByteArray,(zs.flatMap z2o).length=zs.length:=λzs=>by
     induction zs with
     | nil=>rfl
     | cons z zs ih=>rw [List.flatMap_cons,List.length_append,ih];simp [z2o];omega
    rw [this,List.length_map] at hi;exact hi
   rw [henc,List.getElem?_map,List.getElem?_eq_getElem him]
   unfold Go.Sort.putCells
   rw [Array.getElem?_mapIdx]
   have ha2:off+i<arr.size:=by omega
   rw [Array.getElem?_eq_getElem ha2]
   simp only [Option.map_some]
   rw [if_pos ⟨by omega,by rw [List.size_toArray];omega⟩]
   congr 1
   rw [Nat.add_sub_cancel_left,getElem!_pos _ i (by simpa using him)]
   simp [encStr,ofK]
end
open Go.Proofs Go.Proofs.YtfnldnodhfkojaaGreat
def z12 (p:ByteArray) (fs:List FileA):List ByteArray:=(fs.map (·.name)).filter (preF p)
def zdl (W:World) (X:Nat->Bool):PH:=⟨λb=>if X b then W.heap[b]? else none,World.env' W⟩
section
variable {w W:World} {l:List HP} {X:Nat->Bool}
theorem zuz (hs:Sat w l) (hB:RowKit.Below w.heap.size w W):z72 l (zdl W λb=>decide (b<w.heap.size)):=by
 refine z9h ⟨λb o h=>?_,?_⟩ hs
 ·have h:w.heap[b]? = some o:=h
  have hlt:b<w.heap.size:=(Array.getElem?_eq_some_iff.1 h).1
  show (if decide (b<w.heap.size)=true then W.heap[b]? else none)=some o
  rw [if_pos (decide_eq_true hlt),hB.block b hlt,h]
 ·show World.env' w=World.env' W
  unfold World.env'
  rw [hB.os,hB.output]
theorem zep {b:Nat} {o:Obj} (hs:z72 l (zdl W X)) (hX:X b=false) (hb:W.heap[b]? = some o):z72 (pt b o::l) (zdl W λc=>X c || decide (c=b)):=by
 refine ⟨⟨λc=>if c=b then some o else none,World.env' W⟩,zdl W X,⟨λc u h=>?_,rfl⟩,⟨λc u h=>?_,rfl⟩,λc=>?_,by simp [pt],hs⟩
 ·simp only at h
  split at h
  ·rename_i hc;subst hc
   obtain rfl:=Option.some.inj h
   show (if (X c || decide (c=c))=true then W.heap[c]? else none)=some o
   rw [if_pos (by simp),hb]
  ·cases h
 ·have h:(if X c=true then W.heap[c]? else none)=some u:=h
  split at h
  ·rename_i hc
   show (if (X c || decide (c=b))=true then W.heap[c]? else none)=some u
   rw [if_pos (by rw [hc];rfl),h]
  ·cases h
 ·by_cases hc:c=b
  ·subst hc;right
   show (if X c=true then W.heap[c]? else none)=none
   rw [if_neg (by rw [hX];simp)]
  ·left;simp [hc]
theorem zi8 (hs:z72 l (zdl W X)):Sat W l:=by
 refine z9h (p:=zdl W X) ⟨λb o h=>?_,rfl⟩ hs
 have h:(if X b=true then W.heap[b]? else none)=some o:=h
 split at h
 ·exact h
 ·cases h
end
theorem zc9:∀ {a b:List ByteArray},a.Perm b->(a.Pairwise λx y=>ltS y x=false)->(b.Pairwise λx y=>ltS x y=true)->a=b
 | a,[],hp,_,_=>hp.eq_nil
 | [],y::b,hp,_,_=>absurd hp.symm.eq_nil (by simp)
 | x::a,y::b,hp,ha,hb=>by
  rw [List.pairwise_cons] at ha hb
  have hxy:x=y:=by
   by_cases h:x=y
   ·exact h
   ·have hx:x ∈ b:=(List.mem_cons.1 (hp.mem_iff.1 (List.mem_cons_self ..))).resolve_left h
    have hy:y ∈ a:=(List.mem_cons.1 (hp.mem_iff.2 (List.mem_cons_self ..))).resolve_left (λe=>h e.symm)
    have h1:=hb.1 x hx
    rw [ha.1 y hy] at h1;cases h1
  subst hxy
  rw [zc9 (List.Perm.cons_inv hp) ha.2 hb.2]
def z4v (x:List UInt8):ByteArray:=⟨x.toArray⟩
theorem zsk (xs:List ByteArray):xs.flatMap z2o=xs.map Value.string:=by
 induction xs with
 | nil=>rfl
 | cons x r ih=>rw [List.flatMap_cons,ih];rfl
theorem zh0 {fs:List FileA} (h:fs.Pairwise λa b=>ltS a.name b.name=true) (p:ByteArray):(z12 p fs).Pairwise λx y=>ltS x y=true:=by
 unfold z12
 refine List.Pairwise.filter _ ?_
 rw [List.pairwise_map];exact h
theorem zzq {w:World} {m:Nat} {es:List (ByteArray × Nat)} {l:List HP} (hs:Sat w (z3w ekS evF m es::l)) (hlen:es.length<=1000) (hn:∀ x ∈ es,x.1.size<=24) :
  ∃ D0:DataW Unit,w.ownsMap Tryz.prog 9 (λ_=>some (.lit (.bool true),[])) m 1000 D0/\Maps.size D0<=1000/\((strKeys D0).map z4v).Perm (es.map Prod.fst):=by
 obtain ⟨E,c,hm,hs⟩:=hs.mapOpen
 have hsz:=hm.size
 obtain ⟨xs,h1,h2,h3,h4,h5⟩:=hm
 have hE:E.size<=1000:=by omega
 have hml:1000<=maxLen:=by decide
 have hkeys:∀ e ∈ E.toList,∃ x ∈ xs,e.key=.string x.1:=λe he=>by
  have:(e.key,e.val) ∈ E.toList.map (λe=>(e.key,e.val)):=List.mem_map.2 ⟨e,he,rfl⟩
  rw [h3] at this
  obtain ⟨x,hx,hxe⟩:=List.mem_map.1 this
  exact ⟨x,hx,(Prod.mk.inj hxe).1.symm⟩
 have hrd:∀ e ∈ E.toList,∀ s,e.key=.string s->WideElems.rd (H:=Unit) Tryz.prog 9 (λ_=>some (.lit (.bool true),[])) e=some (.string s.data.toList,.lit (.bool true)):=λe he s hk=>by
  obtain ⟨x,hx,hxe⟩:=hkeys e he
  rw [hk] at hxe
  obtain rfl:s=x.1:=by cases hxe;rfl
  have h24:=hn x (h1.mem_iff.1 hx)
  have:keyOf Tryz.prog 9 (.string x.1)=some (.string x.1.data.toList):=WideMaps.keyOf_string_mk (by kernel_rfl) (by omega)
  unfold WideElems.rd
  rw [hk,this];rfl
 refine ⟨.map ((E.toList.map (WideElems.rg Tryz.prog 9 λ_=>some (.lit (.bool true),[]))).foldr DataW.insert []),⟨E,c,hs.get,⟨by omega,⟨h5,?_,?_⟩,λe he=>?_⟩,hE,rfl⟩,?_,?_⟩
 ·rw [List.Nodup,List.pairwise_map]
  exact h4.imp λh=>Nat.ne_of_lt h
 ·have hk:E.toList.map (·.key)=xs.map λx=>Value.string x.1:=by
   have:=congrArg (List.map Prod.fst) h3
   rw [List.map_map,List.map_map] at this
   exact this
  rw [hk,List.Nodup,List.pairwise_map]
  rw [List.Nodup,List.pairwise_map] at h2
  exact h2.imp λh e=>h (Value.string.inj e)
 ·obtain ⟨x,hx,hxe⟩:=hkeys e he
  exact ⟨_,hrd e he x.1 hxe⟩
 ·show ((E.toList.map _).foldr DataW.insert []).length<=1000
  rw [length_sorted,List.length_map,Array.length_toList];exact hE
 ·have hp:=(WideShapes.sorted_perm (E.toList.map (WideElems.rg (H:=Unit) Tryz.prog 9 λ_=>some (.lit (.bool true),[])))).map (λp:Lit × DataW Unit=>z4v (Go.strOf p.1))
  have e1:(strKeys (DataW.map ((E.toList.map (WideElems.rg (H:=Unit) Tryz.prog 9 λ_=>some (.lit (.bool true),[]))).foldr DataW.insert []))).map z4v=((E.toList.map (WideElems.rg (H:=Unit) Tryz.prog 9 λ_=>some (.lit (.bool true),[]))).foldr DataW.insert []).map (λp:Lit × DataW Unit=>z4v (Go.strOf p.1)):=by
   simp only [strKeys,List.map_map];rfl
  rw [e1]
  refine hp.trans ?_
  rw [List.map_map]
  have e2:E.toList.map ((λp:Lit × DataW Unit=>z4v (Go.strOf p.1))∘WideElems.rg Tryz.prog 9 λ_=>some (.lit (.bool true),[]))=xs.map Prod.fst:=by
   have h6:E.toList.map (λe=>match e.key with | .string s=>s|_=>⟨#[]⟩)=xs.map Prod.fst:=by
    have:=congrArg (List.map λx:Value × Value=>match x.1 with | .string s=>s|_=>⟨#[]⟩) h3
    rw [List.map_map,List.map_map] at this
    exact this
   rw [<- h6]
   refine List.map_congr_left λe he=>?_
   obtain ⟨x,hx,hxe⟩:=hkeys e he
   show z4v (Go.strOf (WideElems.rg (H:=Unit) Tryz.prog 9 (λ_=>some (.lit (.bool true),[])) e).1)=_
   rw [WideElems.rg_of (hrd e he x.1 hxe),hxe]
   show z4v x.1.data.toList=x.1
   exact zti rfl
  rw [e2]
  exact h1.map _
section
variable {w:World} {l r:List HP} {d:Nat} {A:DiskA}
theorem zh6 (p:ByteArray) [hf:Fo l dk d A r] (hs:Sat w l):Ret P F.a7 #[.pointer (some ⟨d,0,none⟩),.string p] w λvs w'=>∃ x:Sl,vs=[x.v]/\Sat w' (slc T.a32 1 x ((z12 p A.fs).flatMap z2o)::dk d A::r):=by
 have hs0:=hs.perm hf.perm
 obtain ⟨m,FS,hp,hok,hs1⟩:=z2l hs0
 have hkv:(FS.map λt=>(t.f.name,t.at_)).map Prod.fst=(FS.map FileM.f).map (·.name):=by rw [List.map_map,List.map_map];rfl
 have hlen:(FS.map λt=>(t.f.name,t.at_)).length<=1000:=by
  have:=hp.length_eq;have:=hok.many;simp at *;omega
 obtain ⟨D0,hown,hsz,hkeys⟩:=zzq (hs1.pick [1]) hlen λx hx=>by
  obtain ⟨t,ht,rfl⟩:=List.mem_map.1 hx
  exact hok.names _ (hp.mem_iff.1 (List.mem_map.2 ⟨t,ht,rfl⟩))
 rw [hkv] at hkeys
 have hkeys:=hkeys.trans (hp.map (·.name))
 have hb:=hs1.get
 have hd:d<w.heap.size:=(Array.getElem?_eq_some_iff.1 hb).1
 have hc:w.cell? ⟨d,4,none⟩=some (.map (some m)):=by rw [z5f hb];rfl
 have hfin:=callsIn_wide.1 (zvf (n:=3) (Nat.le_refl _) d m 1000 p w D0 hown hd hc hsz (λv W=>∃ x:Sl,v=x.v/\Sat W (slc T.a32 1 x ((z12 p A.fs).flatMap z2o)::dk d A::r)) ?_)
 ·exact Calls.mono hfin λe w' ⟨v,he,x,hv,hs⟩=>⟨[x.v],by rw [he,hv];rfl,x,rfl,hs⟩
 intro D ss v W hD hS hbox hrow hB hK
 have hsR:=zuz hs0 hB
 have hsR:=zep hsR (b:=w.heap.size+1) (by simp) hbox
 have hDB:D≠w.heap.size+1:=by omega
 have hsR:=zep hsR (b:=D) (by simp;omega) hK
 have hpS:((z5i p ss).map z4v).Perm (z12 p A.fs):=by
  have h1:=((hS.map z4v).trans hkeys).filter (preF p)
  rw [List.filter_map] at h1
  exact h1
 have hflat:((z5i p ss).map z4v).flatMap z2o=(z5i p ss).map encStr:=by
  rw [zsk,List.map_map];rfl
 have hlen2:((z5i p ss).map z4v).length<576460752303423488:=by
  rw [hpS.length_eq]
  have h1:(z12 p A.fs).length<=A.fs.length:=by unfold z12;exact Nat.le_trans (List.length_filter_le _ _) (by simp)
  have:=hok.many
  omega
 obtain ⟨x,rfl,hsx⟩:∃ x:Sl,v=x.v/\Sat W (slc T.a32 1 x (((z5i p ss).map z4v).flatMap z2o)::pt D (.deferred (some []))::pt (w.heap.size+1) (.cells #[v] 68)::dk d A::r):=by
  rw [hflat]
  obtain ⟨hxl,h|⟨g,cap,cur,rfl,hg,hgb,hcap,-,hcur,htk⟩⟩:=hrow
  ·obtain ⟨rfl,hn0⟩:=h
   have:z5i p ss=[]:=List.length_eq_zero_iff.1 hn0
   rw [this]
   exact ⟨⟨none,0,0⟩,rfl,(zi8 hsR).slc_nil⟩
  ·have hgB:g≠w.heap.size+1:=λe=>by
    subst e
    have hbox:W.heap[w.heap.size+1]? = some (.cells #[_] 68 (0,0)):=hbox
    rw [hbox] at hgb
    cases hgb
   have hgD:g≠D:=λe=>by subst e;rw [hK] at hgb;cases hgb
   have hsR:=zi8 (zep hsR (b:=g) (by simp;omega) hgb)
   refine ⟨⟨some ⟨g,0,none⟩,(z5i p ss).length,cap⟩,rfl,hsR.imp λq hq=>.inr ⟨g,0,cur,(0,0),rfl,hq,by simp,hcap,by simp [hcur],λi hi=>?_,z2z _ _⟩⟩
   rw [<- htk,List.length_take] at hi
   rw [<- htk,Nat.zero_add,List.getElem?_take,if_pos (by omega)]
   simp
 refine callsIn_wide.2 (Calls.mono (ziz x _ (Nat.lt_trans hlen2 (by omega)) hsx) ?_)
 rintro e w' ⟨vs,rfl,rfl,ys,hys,hso,hs'⟩
 have hB1:=(hs'.pick [2]).get
 have hD1:=(hs'.pick [1]).get
 refine ⟨rfl,by rw [z5f hB1];rfl,hD1,x,rfl,?_⟩
 have hset:Sat (z3h w' D (.deferred none)) _:=(hs'.pick [1]).set (o':=.deferred none)
 rw [zc9 (hys.trans hpS) hso (zh0 hok.sorted p)] at hset
 exact hset.sub
end
def z6q (x:Sl):List Value:=[x.v]
instance:Enc1 z6q .slc (λx=>x):=⟨λ_=>rfl⟩
instance:EncN z6q 1:=⟨λ_=>rfl,by decide,by simp [z6q,Value.oneCell']⟩
def z9q (l:List HP):List Sl->List (List UInt8)->Prop
 | [],[]=>True
 | x::xs,b::bs=>(∀ w,Sat w l->Rd w 1 x (b.flatMap zg))/\z9q l xs bs
 | _,_=>False
theorem z9q.length {l:List HP}:∀ {xs:List Sl} {bs:List (List UInt8)},z9q l xs bs->xs.length=bs.length
 | [],[],_=>rfl
 | _::_,_::_,h=>by rw [List.length_cons,List.length_cons,h.2.length]
theorem z9q.get {l:List HP}:∀ {xs:List Sl} {bs:List (List UInt8)} (h:z9q l xs bs) (i:Nat) (h1:i<xs.length) (h2:i<bs.length),∀ w,Sat w l->Rd w 1 xs[i] (bs[i].flatMap zg)
 | _::_,_::_,h,0,_,_=>h.1
 | _::_,_::_,h,i+1,h1,h2=>h.2.get i (by simpa using h1) (by simpa using h2)
theorem z3z {bs:List (List UInt8)} {i:Nat} (hi:i<bs.length):(bs.take (i+1)).flatten=(bs.take i).flatten++bs[i]:=by
 rw [List.take_add_one,List.getElem?_eq_getElem hi,List.flatten_append];simp
section
variable {w:World} {l r r0:List HP} {d:Nat} {A:DiskA}
theorem zfm (hok:okA A) {n:ByteArray} (hn:z3f n=true) {bs:List UInt8} (hb:bs.length<=A.free) (hm:¬ (z2k A.fs n=false/\A.fs.length>=128)) :
  okA { A with fs:=if z2k A.fs n then A.fs.map (z22 n λf=>{ f with b:=f.b++bs }) else z4t ⟨n,bs,0⟩ A.fs }:=by
 have hr:=hok.room
 have hu:=hok.used
 unfold DiskA.free at hb
 by_cases h:z2k A.fs n=true
 ·rw [if_pos h]
  obtain ⟨f,hf,rfl⟩:=z62.1 h
  obtain ⟨s,u,hsu⟩:=List.append_of_mem hf
  have hpm:A.fs.Perm (f::(s++u)):=by rw [hsu];exact List.perm_middle
  have hnd:=(hpm.map (·.name)).nodup_iff.1 (z2j hok.sorted)
  rw [List.map_cons,List.nodup_cons] at hnd
  have hne:∀ g ∈ s++u,g.name≠f.name:=λg hg e=>hnd.1 (List.mem_map.2 ⟨g,hg,e⟩)
  have h1:=zc5 (g:=λf=>{ f with b:=f.b++bs }) hpm hne
  have h2:used A.fs=f.b.length+used (s++u):=by rw [z4c hpm,z1w]
  refine ⟨hok.room,?_,by show (A.fs.map _).length<=_;rw [List.length_map];exact hok.many,hok.left,z8q (z67 λ_=>rfl) hok.sorted,λg hg=>?_,λg hg=>?_⟩
  ·show used (A.fs.map _)<=_
   rw [h1]
   show (f.b++bs).length+_<=_
   rw [List.length_append];omega
  ·obtain ⟨g,hg',rfl⟩:=List.mem_map.1 hg
   have:=hok.kept g hg'
   unfold z22
   split
   ·show g.kept<=(g.b++bs).length;rw [List.length_append];omega
   ·exact this
  ·obtain ⟨g,hg',rfl⟩:=List.mem_map.1 hg
   rw [z67 (by intro _;rfl)];exact hok.names g hg'
 ·have h:z2k A.fs n=false:=by simpa using h
  rw [if_neg (by rw [h];simp)]
  have hne:=z68.1 h
  have hp:=z6c ⟨n,bs,0⟩ A.fs
  refine ⟨hok.room,?_,?_,hok.left,zea _ hne hok.sorted,λg hg=>?_,λg hg=>?_⟩
  ·show used (z4t _ _)<=_
   rw [z4c hp,z1w];show bs.length+_<=_;omega
  ·show (z4t _ _).length<=_
   rw [hp.length_eq,List.length_cons]
   have:=hok.many
   have:A.fs.length≠128:=λe=>hm ⟨h,by omega⟩
   omega
  ·rcases zev.1 hg with rfl|hg
   ·exact Nat.zero_le _
   ·exact hok.kept g hg
  ·rcases zev.1 hg with rfl|hg
   ·exact zr7 hn
   ·exact hok.names g hg
theorem zjj (x:FileA) (g:FileA->FileA) (hg:(g x).name=x.name):∀ {fs:List FileA},(∀ f ∈ fs,f.name≠x.name)->(z4t x fs).map (z22 x.name g)=z4t (g x) fs
 | [],_=>by simp [z4t,z22]
 | f::r,h=>by
  have hf:z22 x.name g f=f:=by rw [z22,if_neg (h f (List.mem_cons_self ..))]
  have hr:r.map (z22 x.name g)=r:=by
   conv=>rhs;rw [<- List.map_id r]
   exact List.map_congr_left λy hy=>by rw [z22,if_neg (h y (List.mem_cons_of_mem _ hy))];rfl
  rw [z4t,z4t,hg]
  split
  ·rw [List.map_cons,List.map_cons,hf,hr,z22,if_pos rfl]
  ·rw [List.map_cons,hf,zjj x g hg λy hy=>h y (List.mem_cons_of_mem _ hy)]
theorem z9m (n:ByteArray) (ps:Sl) (xs:List Sl) (bs:List (List UInt8)) [hps:FocR r ps 1 (xs.flatMap z6q)] (hbs:z9q r xs bs) (hlen:bs.length<=1000) (hsum:∀ b ∈ bs,b.length<=100000000) [hf:Fo l dk d A r] (hs:Sat w l) :
  Ret P F.a3 #[.pointer (some ⟨d,0,none⟩),.string n,ps.v] w λvs w'=>vs=[.int .i64 (z04 A n bs.flatten).1]/\Sat w' (dk d (z04 A n bs.flatten).2::r) :=
 ztt _ n ps <| by
  unfold zf4 z04
  have hxl:=hbs.length
  have hok0:okA A:=by obtain ⟨m,FS,hp,hok,hs⟩:=z2l (hs.perm hf.perm);exact hok
  have hfr:A.free<=4194304:=by have:=hok0.room;unfold DiskA.free;omega
  refine zg5 hs (λhg w' hs=>?_) λhg w' hs=>?_
  ·rw [if_pos hg];exact ⟨rfl,hs⟩
  rw [if_neg (by rw [hg];simp)]
  have hpl:=hs.slen ps (xs:=xs) (enc:=z6q)
  refine za (z01k n hs) λ_ _ hs=>?_
  obtain ⟨rfl,hs⟩:=hs
  refine ze ?_
  refine zk (λh=>?_) λh=>?_
  ·have h:z3f n=false:=by simpa using h
   rw [if_pos h];exact ⟨rfl,rfl,hs⟩
  have hn:z3f n=true:=by simpa using h
  rw [if_neg (by rw [hn];simp)]
  refine zx (λv w'=>bs.flatten.length<=A.free/\v=(((bs.flatten.length:Nat):Int),())/\Sat w' (dk d A::r)) ?_ ?_
  ·refine z0e (λk v w=>∃ i:Nat,v=((((bs.take i).flatten.length:Nat):Int),(i:Int),())/\i<=xs.length/\xs.length-i=k/\(bs.take i).flatten.length<=A.free/\Sat w (dk d A::r)) xs.length ⟨0,rfl,by omega,rfl,by simp,hs⟩ ?_
   clear hs
   rintro k _ w ⟨i,rfl,hi,hk,hsm,hs⟩
   refine zt ?_
   refine zk (λhc=>?_) λhc=>?_
   ·have hil:i<xs.length:=by omega
    have hib:i<bs.length:=by omega
    refine z24 hs i hil ?_
    have hrl:xs[i].len=bs[i].length:=(hbs.get i hil hib _ hs.tail).len (enc:=zg) (λ_=>rfl) (by decide)
    have hbi:=hsum _ (List.getElem_mem hib)
    refine za (z039 hs) λ_ _ hs=>?_
    obtain ⟨rfl,hs⟩:=hs
    refine ze ?_
    have ew:IntKind.wrap .i64 ((A.free:Int)-((bs.take i).flatten.length:Nat))=(A.free:Int)-((bs.take i).flatten.length:Nat):=zv3
    rw [ew]
    refine zk (λh3=>?_) λh3=>?_
    ·refine zv (zv ?_)
     rw [if_pos]
     ·exact ⟨rfl,rfl,hs⟩
     ·left
      have h4:(bs.take (i+1)).flatten.length<=bs.flatten.length:=by
       have:=congrArg (λl:List (List UInt8)=>l.flatten.length) (List.take_append_drop (i+1) bs)
       simp only [List.flatten_append,List.length_append] at this
       omega
      rw [z3z hib,List.length_append] at h4
      omega
    ·refine z1l (y:=(((bs.take (i+1)).flatten.length:Nat):Int)) ?_ ?_
     ·refine z57 (us':=[.int .i64 (((bs.take (i+1)).flatten.length:Nat):Int),.int .i64 ((i+1:Nat):Int)]) (by (try simp (disch:=omega) only [w64]);first|rfl|(congr;omega)) ?_
      refine z0q (xs.length-(i+1)) ?_
      refine ⟨i+1,rfl,by omega,rfl,?_,hs⟩
      rw [z3z hib,List.length_append];omega
     ·rw [z3z hib,List.length_append,w64 (by omega) (by omega)];omega
   ·refine zv (zj ?_)
    rw [List.take_of_length_le (by omega)] at hsm ⊢
    exact ⟨hsm,rfl,hs⟩
  clear hs
  rintro _ w ⟨hfit,rfl,hs⟩
  refine zt ?_
  obtain ⟨m,FS,hp,hok,hs⟩:=z2l hs
  have hou:=hok.used
  have hor:=hok.room
  have hfit':=hfit
  unfold DiskA.free at hfit'
  (repeat (first|with_reducible (first|refine zt ?_|refine zy ?_|refine z0p ?_|refine zd hs ?_|refine z02 hs ?_|refine zm ?_|refine z0i hs λ_ hs=>?_|refine z05 hs λ_ _ hs=>?_|refine z0b hs λ_ _ hs=>?_|refine z0h hs λ_ hs=>?_|refine z09 hs λ_ hs=>?_)|(apply wp_must;(focus first|trivial|omega|assumption))|refine z1o ?_|refine wp_lt ?_))
  have hnot:∀ (g:Bool),z2k A.fs n=g->¬ (g=false/\A.fs.length>=128)->(if bs.flatten.length>A.free\/(z2k A.fs n=false/\A.fs.length>=128) then ((5:Int),A) else
    (0,z32 { A with fs:=if z2k A.fs n then A.fs.map (z22 n λf=>{ f with b:=f.b++bs.flatten }) else z4t ⟨n,bs.flatten,0⟩ A.fs })) =
    (0,z32 { A with fs:=if z2k A.fs n then A.fs.map (z22 n λf=>{ f with b:=f.b++bs.flatten }) else z4t ⟨n,bs.flatten,0⟩ A.fs }):=λg hg h=>by
   rw [if_neg]
   rintro (h1|⟨h1,h2⟩)
   ·omega
   ·exact h ⟨by rw [<- hg,h1],h2⟩
  refine zsh hs (λb hb=>?_) λhb=>?_
  all_goals refine wp_lt ?_
  all_goals refine zx (λv w'=>∃ (t:FileM) (FS':List FileM) (fs1:List FileA),v=(some ⟨t.at_,0,none⟩,())/\t.f.name=n/\fs1.Perm (t.f::FS'.map FileM.f)/\(∀ g ∈ FS'.map FileM.f,g.name≠t.f.name)/\used fs1=used A.fs/\¬ (z2k A.fs n=false/\A.fs.length>=128) /\
    fs1.map (z22 n λf=>{ f with b:=f.b++bs.flatten })=(if z2k A.fs n then A.fs.map (z22 n λf=>{ f with b:=f.b++bs.flatten }) else z4t ⟨n,bs.flatten,0⟩ A.fs) /\
    Sat w' (pt t.at_ (.cells #[t.x.v,.int .i64 t.f.kept] T.a6)::slc T.a38 1 t.x (t.f.b.flatMap zg)::HP.all (FS'.map z47)::pt d (.cells #[.int .i64 A.left,.bool A.gone,.int .i64 A.room,.int .i64 (used A.fs),.map (some m)] T.a5)::z3w ekS evF m ((t::FS').map λt=>(t.f.name,t.at_))::r)) ?_ ?_
  ·obtain ⟨t,ht,rfl,rfl,hA⟩:=z8r hp hb
   have hhas:z2k A.fs t.f.name=true:=z62.2 ⟨_,hA,rfl⟩
   refine z0j ?_ (by simp)
   obtain ⟨FS',hpm,hs⟩:=z7d hs ht
   obtain ⟨h1,h2,-⟩:=apart hp hok hpm
   refine zj ?_
   refine ⟨t,FS',A.fs,rfl,rfl,h1,h2,rfl,by rw [hhas];simp,by rw [if_pos hhas],?_⟩
   have hs:=(hs.pick [4]).mapPerm (hpm.map λt=>(t.f.name,t.at_))
   exact hs.sub
  rotate_left
  ·have hno:=z7k hp hb
   have hhas:=z68.2 hno
   refine z1b ?_ (by simp)
   (repeat (first|with_reducible (first|refine zt ?_|refine zy ?_|refine z0p ?_|refine zd hs ?_|refine z02 hs ?_|refine zm ?_|refine z0i hs λ_ hs=>?_|refine z05 hs λ_ _ hs=>?_|refine z0b hs λ_ _ hs=>?_|refine z0h hs λ_ hs=>?_|refine z09 hs λ_ hs=>?_)|(apply wp_must;(focus first|trivial|omega|assumption))|refine z1o ?_|refine wp_lt ?_))
   refine zz5 hs ?_
   have hml:(FS.map λt=>(t.f.name,t.at_)).length=A.fs.length:=by rw [List.length_map,<- hp.length_eq,List.length_map]
   rw [hml]
   refine zk (λh3=>?_) λh3=>?_
   ·refine zv ?_
    rw [if_pos (.inr ⟨hhas,by omega⟩)]
    exact ⟨rfl,rfl,z2u m hp hok hs⟩
   refine z0b hs λa w' hs=>?_
   (repeat (first|with_reducible (first|refine zt ?_|refine zy ?_|refine z0p ?_|refine zd hs ?_|refine z02 hs ?_|refine zm ?_|refine z0i hs λ_ hs=>?_|refine z05 hs λ_ _ hs=>?_|refine z0b hs λ_ _ hs=>?_|refine z0h hs λ_ hs=>?_|refine z09 hs λ_ hs=>?_)|(apply wp_must;(focus first|trivial|omega|assumption))|refine z1o ?_|refine wp_lt ?_))
   refine zza hs (FS.map λt=>(t.f.name,t.at_)) (.inr ⟨hb,rfl⟩) a λw' hs=>?_
   refine zj ?_
   refine ⟨⟨a,⟨none,0,0⟩,⟨n,[],0⟩⟩,FS,z4t ⟨n,[],0⟩ A.fs,rfl,rfl,(z6c _ _).trans (.cons _ hp.symm),λg hg=>hno g (hp.mem_iff.1 hg),?_,by omega,?_,?_⟩
   ·rw [z4c (z6c _ _),z1w];exact Nat.zero_add _
   ·rw [if_neg (by rw [hhas];simp)]
    exact zjj ⟨n,[],0⟩ (λf=>{ f with b:=f.b++bs.flatten }) rfl hno
   ·exact (hs.slc_nil (T:=T.a38) (sz:=1)).pick [2,0,2,1,0]
  all_goals clear hs
  all_goals rintro _ w ⟨t,FS',fs1,rfl,htn,h1,h2,hus,hno,hfin,hs⟩
  all_goals refine zt ?_
  all_goals rw [hnot _ rfl hno,<- hfin]
  all_goals subst htn
  all_goals refine zx (λ_ w'=>∃ x1:Sl,Sat w' (pt t.at_ (.cells #[x1.v,.int .i64 t.f.kept] T.a6)::slc T.a38 1 x1 ((t.f.b++bs.flatten).flatMap zg)::HP.all (FS'.map z47)::pt d (.cells #[.int .i64 A.left,.bool A.gone,.int .i64 A.room,.int .i64 (used A.fs),.map (some m)] T.a5)::z3w ekS evF m ((t::FS').map λt=>(t.f.name,t.at_))::r)) ?_ ?_
  ·refine z0e (λk v w=>∃ (i:Nat) (x1:Sl),v=((i:Int),())/\i<=xs.length/\xs.length-i=k/\Sat w (pt t.at_ (.cells #[x1.v,.int .i64 t.f.kept] T.a6)::slc T.a38 1 x1 ((t.f.b++(bs.take i).flatten).flatMap zg)::HP.all (FS'.map z47)::pt d (.cells #[.int .i64 A.left,.bool A.gone,.int .i64 A.room,.int .i64 (used A.fs),.map (some m)] T.a5)::z3w ekS evF m ((t::FS').map λt=>(t.f.name,t.at_))::r)) xs.length ⟨0,t.x,rfl,by omega,rfl,by simpa using hs⟩ ?_
   clear hs
   rintro k _ w ⟨i,x1,rfl,hi,hk,hs⟩
   refine zt ?_
   refine zk (λhc=>?_) λhc=>?_
   ·have hil:i<xs.length:=by omega
    have hib:i<bs.length:=by omega
    refine z24 hs i hil ?_
    have hrd:FocR r xs[i] 1 (bs[i].flatMap zg):=⟨hbs.get i hil hib⟩
    have hbi:=hsum _ (List.getElem_mem hib)
    have hsm:(bs.take i).flatten.length<=bs.flatten.length:=by
     have:=congrArg (λl:List (List UInt8)=>l.flatten.length) (List.take_append_drop i bs)
     simp only [List.flatten_append,List.length_append] at this
     omega
    have htb:t.f.b.length<=used fs1:=z7t (h1.mem_iff.2 (List.mem_cons_self ..))
    (repeat (first|with_reducible (first|refine zt ?_|refine zy ?_|refine z0p ?_|refine zd hs ?_|refine z02 hs ?_|refine zm ?_|refine z0i hs λ_ hs=>?_|refine z05 hs λ_ _ hs=>?_|refine z0b hs λ_ _ hs=>?_|refine z0h hs λ_ hs=>?_|refine z09 hs λ_ hs=>?_)|(apply wp_must;(focus first|trivial|omega|assumption))|refine z1o ?_|refine wp_lt ?_))
    refine wp_app' hs (xs:=t.f.b++(bs.take i).flatten) (ys:=bs[i]) (enc:=zg) (λz w' hs=>?_) (by rw [List.length_append];omega)
    (repeat (first|with_reducible (first|refine zt ?_|refine zy ?_|refine z0p ?_|refine zd hs ?_|refine z02 hs ?_|refine zm ?_|refine z0i hs λ_ hs=>?_|refine z05 hs λ_ _ hs=>?_|refine z0b hs λ_ _ hs=>?_|refine z0h hs λ_ hs=>?_|refine z09 hs λ_ hs=>?_)|(apply wp_must;(focus first|trivial|omega|assumption))|refine z1o ?_|refine wp_lt ?_))
    refine z57 (us':=[.int .i64 ((i+1:Nat):Int)]) (by (try simp (disch:=omega) only [w64]);first|rfl|(congr;omega)) ?_
    refine z0q (xs.length-(i+1)) ?_
    refine ⟨i+1,z,rfl,by omega,rfl,?_⟩
    rw [z3z hib,<- List.append_assoc]
    exact hs.sub
   ·refine zv (zj ⟨x1,?_⟩)
    rwa [List.take_of_length_le (l:=bs) (by omega)] at hs
  rotate_left
  ·refine z0e (λk v w=>∃ (i:Nat) (x1:Sl),v=((i:Int),())/\i<=xs.length/\xs.length-i=k/\Sat w (pt t.at_ (.cells #[x1.v,.int .i64 t.f.kept] T.a6)::slc T.a38 1 x1 ((t.f.b++(bs.take i).flatten).flatMap zg)::HP.all (FS'.map z47)::pt d (.cells #[.int .i64 A.left,.bool A.gone,.int .i64 A.room,.int .i64 (used A.fs),.map (some m)] T.a5)::z3w ekS evF m ((t::FS').map λt=>(t.f.name,t.at_))::r)) xs.length ⟨0,t.x,rfl,by omega,rfl,by simpa using hs⟩ ?_
   clear hs
   rintro k _ w ⟨i,x1,rfl,hi,hk,hs⟩
   refine zt ?_
   refine zk (λhc=>?_) λhc=>?_
   ·have hil:i<xs.length:=by omega
    have hib:i<bs.length:=by omega
    refine z24 hs i hil ?_
    have hrd:FocR r xs[i] 1 (bs[i].flatMap zg):=⟨hbs.get i hil hib⟩
    have hbi:=hsum _ (List.getElem_mem hib)
    have hsm:(bs.take i).flatten.length<=bs.flatten.length:=by
     have:=congrArg (λl:List (List UInt8)=>l.flatten.length) (List.take_append_drop i bs)
     simp only [List.flatten_append,List.length_append] at this
     omega
    have htb:t.f.b.length<=used fs1:=z7t (h1.mem_iff.2 (List.mem_cons_self ..))
    (repeat (first|with_reducible (first|refine zt ?_|refine zy ?_|refine z0p ?_|refine zd hs ?_|refine z02 hs ?_|refine zm ?_|refine z0i hs λ_ hs=>?_|refine z05 hs λ_ _ hs=>?_|refine z0b hs λ_ _ hs=>?_|refine z0h hs λ_ hs=>?_|refine z09 hs λ_ hs=>?_)|(apply wp_must;(focus first|trivial|omega|assumption))|refine z1o ?_|refine wp_lt ?_))
    refine wp_app' hs (xs:=t.f.b++(bs.take i).flatten) (ys:=bs[i]) (enc:=zg) (λz w' hs=>?_) (by rw [List.length_append];omega)
    (repeat (first|with_reducible (first|refine zt ?_|refine zy ?_|refine z0p ?_|refine zd hs ?_|refine z02 hs ?_|refine zm ?_|refine z0i hs λ_ hs=>?_|refine z05 hs λ_ _ hs=>?_|refine z0b hs λ_ _ hs=>?_|refine z0h hs λ_ hs=>?_|refine z09 hs λ_ hs=>?_)|(apply wp_must;(focus first|trivial|omega|assumption))|refine z1o ?_|refine wp_lt ?_))
    refine z57 (us':=[.int .i64 ((i+1:Nat):Int)]) (by (try simp (disch:=omega) only [w64]);first|rfl|(congr;omega)) ?_
    refine z0q (xs.length-(i+1)) ?_
    refine ⟨i+1,z,rfl,by omega,rfl,?_⟩
    rw [z3z hib,<- List.append_assoc]
    exact hs.sub
   ·refine zv (zj ⟨x1,?_⟩)
    rwa [List.take_of_length_le (l:=bs) (by omega)] at hs
  all_goals clear hs
  all_goals rintro _ w ⟨x1,hs⟩
  all_goals refine zt ?_
  all_goals have hu3:=zc5 (g:=λf=>{ f with b:=f.b++bs.flatten }) h1 h2
  all_goals have hu4:used fs1=t.f.b.length+used (FS'.map FileM.f):=by rw [z4c h1,z1w]
  all_goals have hu5:used (fs1.map (z22 t.f.name λf=>{ f with b:=f.b++bs.flatten }))=used A.fs+bs.flatten.length:=by (rw [hu3];show (t.f.b++bs.flatten).length+_=_;rw [List.length_append];omega)
  all_goals have ew:IntKind.wrap .i64 (((used A.fs:Nat):Int)+((bs.flatten.length:Nat):Int))=((used (fs1.map (z22 t.f.name λf=>{ f with b:=f.b++bs.flatten })):Nat):Int):=by rw [hu5,w64 (by omega) (by omega)];omega
  all_goals refine zy ?_
  all_goals refine zd hs ?_
  all_goals rw [ew]
  all_goals (repeat (first|with_reducible (first|refine zt ?_|refine zy ?_|refine z0p ?_|refine zd hs ?_|refine z02 hs ?_|refine zm ?_|refine z0i hs λ_ hs=>?_|refine z05 hs λ_ _ hs=>?_|refine z0b hs λ_ _ hs=>?_|refine z0h hs λ_ hs=>?_|refine z09 hs λ_ hs=>?_)|(apply wp_must;(focus first|trivial|omega|assumption))|refine z1o ?_|refine wp_lt ?_))
  all_goals have hs:=z6k (FS:=FS') ⟨t.at_,x1,{ t.f with b:=t.f.b++bs.flatten }⟩ hs
  all_goals have hp':(((⟨t.at_,x1,{ t.f with b:=t.f.b++bs.flatten }⟩:FileM)::FS').map FileM.f).Perm (fs1.map (z22 t.f.name λf=>{ f with b:=f.b++bs.flatten })):=(z6z (g:=λf=>{ f with b:=f.b++bs.flatten }) h1 h2).symm
  all_goals have hok':=zfm hok hn hfit hno
  all_goals rw [<- hfin] at hok'
  all_goals have hs:Sat _ (z3w ekS evF m (((⟨t.at_,x1,{ t.f with b:=t.f.b++bs.flatten }⟩:FileM)::FS').map λt=>(t.f.name,t.at_))::_):=hs.pick [2]
  all_goals rw [hg] at hs
  all_goals refine za (zbh (l':=r) hg hok' hp' hs) λ_ _ hs=>?_
  all_goals obtain ⟨rfl,hs⟩:=hs
  all_goals refine ze ?_
  all_goals exact ⟨rfl,rfl,hs⟩
end
theorem zbq {fs:List FileA} {g:FileA->FileA} (hb:∀ f,(g f).b=f.b):used (fs.map g)=used fs:=by
 unfold used
 rw [List.map_map]
 congr 1
 exact List.map_congr_left λf _=>by show (g f).b.length=_;rw [hb]
theorem znx {A:DiskA} (hok:okA A) {g:FileA->FileA} (hn:∀ f,(g f).name=f.name) (hb:∀ f,(g f).b=f.b) (hk:∀ f,f.kept<=f.b.length->(g f).kept<=f.b.length):okA { A with fs:=A.fs.map g }:=by
 refine ⟨hok.room,by show used (A.fs.map g)<=_;rw [zbq hb];exact hok.used,by show (A.fs.map g).length<=_;rw [List.length_map];exact hok.many,hok.left,z8q hn hok.sorted,λf hf=>?_,λf hf=>?_⟩
 ·obtain ⟨f,hf',rfl⟩:=List.mem_map.1 hf
  rw [hb];exact hk f (hok.kept f hf')
 ·obtain ⟨f,hf',rfl⟩:=List.mem_map.1 hf
  rw [hn];exact hok.names f hf'
def z84 (f:FileA):FileA:={ f with kept:=f.b.length }
def z38 (ns:List ByteArray) (f:FileA):FileA:=if ns.any (λm=>decide (m=f.name)) then z84 f else f
theorem zbe (ns:List ByteArray) (f:FileA):(z38 ns f).name=f.name:=by unfold z38;split <;> rfl
theorem zh8 (ns:List ByteArray) (f:FileA):(z38 ns f).b=f.b:=by unfold z38;split <;> rfl
theorem zrn (ns:List ByteArray) (f:FileA) (h:f.kept<=f.b.length):(z38 ns f).kept<=f.b.length:=by
 unfold z38;split
 ·exact Nat.le_refl _
 ·exact h
theorem zsp:z38 []=id:=by funext f;simp [z38]
theorem zql (ns:List ByteArray) (n:ByteArray) (f:FileA):z22 n z84 (z38 ns f)=z38 (ns++[n]) f:=by
 unfold z22
 rw [zbe]
 unfold z38
 rw [List.any_append]
 by_cases h1:f.name=n
 ·rw [if_pos h1]
  have:(ns.any (λm=>decide (m=f.name)) || [n].any (λm=>decide (m=f.name)))=true:=by simp [h1]
  rw [if_pos this]
  split <;> rfl
 ·rw [if_neg h1]
  have:(ns.any (λm=>decide (m=f.name)) || [n].any (λm=>decide (m=f.name)))=ns.any (λm=>decide (m=f.name)):=by simp [Ne.symm h1]
  rw [this]
theorem zu2 (s:ByteArray):Go.Proofs.YtfnldnodhfkojaaGreat.preF (ByteArray.mk #[]) s=true:=by
 unfold Go.Proofs.YtfnldnodhfkojaaGreat.preF
 rw [show (ByteArray.mk #[]).toList=[] from by rw [ByteArray.toList_eq]]
 rfl
theorem zc0 (fs:List FileA):z12 (ByteArray.mk #[]) fs=fs.map (·.name):=List.filter_eq_self.2 λs _=>zu2 s
theorem zup (fs:List FileA):fs.map (z38 (fs.map (·.name)))=fs.map (z4n []):=by
 refine List.map_congr_left λf hf=>?_
 unfold z38 z4n
 rw [if_pos (show ((fs.map (·.name)).any λm=>decide (m=f.name))=true by simp;exact ⟨f,hf,rfl⟩),if_pos (show zbg [] f.name=true from rfl)]
 rfl
theorem zu0 {ns:List ByteArray} (h:ns≠[]) (fs:List FileA):fs.map (z38 ns)=fs.map (z4n ns):=by
 refine List.map_congr_left λf hf=>?_
 have e:zbg ns f.name=ns.any (λm=>decide (m=f.name)):=by
  unfold zbg
  cases ns with
  | nil=>exact absurd rfl h
  | cons _ _=>rfl
 unfold z38 z4n
 rw [e];rfl
theorem zu5 {fs:List FileA} {g:FileA->FileA} (hn:∀ f,(g f).name=f.name) (n:ByteArray):z2k (fs.map g) n=z2k fs n:=by
 unfold z2k
 rw [List.any_map]
 congr 1
 funext f
 show decide ((g f).name=n)=_
 rw [hn]
section
variable {w:World} {l r r0:List HP} {d:Nat} {A:DiskA}
theorem z00l (nx:Sl) (ns:List ByteArray) [hns:FocR r nx 1 (ns.flatMap z2o)] (hlen:ns.length<=100000) [hf:Fo l dk d A r] (hs:Sat w l) :
  Ret P F.a11 #[.pointer (some ⟨d,0,none⟩),nx.v] w λvs w'=>vs=[.int .i64 (z29 A ns).1]/\Sat w' (dk d (z29 A ns).2::r) :=
 zp4 _ nx <| by
  unfold z008 z29
  refine zg5 hs (λhg w' hs=>?_) λhg w' hs=>?_
  ·rw [if_pos hg];exact ⟨rfl,hs⟩
  rw [if_neg (by rw [hg];simp)]
  have hpl:=hs.slen nx (xs:=ns) (enc:=z2o)
  have hok0:okA A:=by obtain ⟨m,FS,hp,hok,hs⟩:=z2l hs;exact hok
  refine zx (λv w'=>ns.all (z2k A.fs)=true/\Sat w' (dk d A::r)) ?_ ?_
  ·refine z0e (λk v w=>∃ i:Nat,v=((i:Int),())/\i<=ns.length/\ns.length-i=k/\(ns.take i).all (z2k A.fs)=true/\Sat w (dk d A::r)) ns.length ⟨0,rfl,by omega,rfl,rfl,hs⟩ ?_
   clear hs
   rintro k _ w ⟨i,rfl,hi,hk,hall,hs⟩
   refine zt ?_
   refine zk (λhc=>?_) λhc=>?_
   ·have hil:i<ns.length:=by omega
    refine z24 hs i hil ?_
    have htk:(ns.take (i+1)).all (z2k A.fs)=z2k A.fs ns[i]:=by
     rw [List.take_add_one,List.getElem?_eq_getElem hil,List.all_append,hall];simp
    obtain ⟨m,FS,hp,hok,hs⟩:=z2l hs
    (repeat (first|with_reducible (first|refine zt ?_|refine zy ?_|refine z0p ?_|refine zd hs ?_|refine z02 hs ?_|refine zm ?_|refine z0i hs λ_ hs=>?_|refine z05 hs λ_ _ hs=>?_|refine z0b hs λ_ _ hs=>?_|refine z0h hs λ_ hs=>?_|refine z09 hs λ_ hs=>?_)|(apply wp_must;(focus first|trivial|omega|assumption))|refine z1o ?_|refine wp_lt ?_))
    refine z76 hs (λb hb=>?_) λhb=>?_
    ·obtain ⟨t,ht,rfl,hnm,hA⟩:=z8r hp hb
     refine z0j ?_ (by simp)
     refine z57 (us':=[.int .i64 ((i+1:Nat):Int)]) (by (try simp (disch:=omega) only [w64]);first|rfl|(congr;omega)) ?_
     refine z0q (ns.length-(i+1)) ?_
     exact ⟨i+1,rfl,by omega,rfl,by rw [htk];exact z62.2 ⟨_,hA,hnm⟩,z2u m hp hok hs⟩
    ·refine z1b ?_ (by rfl)
     refine zv (zv ?_)
     have:ns.all (z2k A.fs)=false:=by
      rw [<- List.take_append_drop (i+1) ns,List.all_append,htk,z68.2 (z7k hp hb)];rfl
     rw [if_pos this]
     exact ⟨rfl,rfl,z2u m hp hok hs⟩
   ·refine zv (zj ⟨?_,hs⟩)
    rwa [List.take_of_length_le (by omega)] at hall
  clear hs
  rintro _ w ⟨hall,hs⟩
  refine zt ?_
  rw [if_neg (by rw [hall];simp)]
  refine zx (λv w'=>∃ (nx1:Sl) (ns1:List ByteArray) (r1:List HP),v=(nx1,())/\ns1.length<=100000/\ns1.all (z2k A.fs)=true/\A.fs.map (z38 ns1)=A.fs.map (z4n ns)/\(∃ h:FocR (slc T.a32 1 nx1 (ns1.flatMap z2o)::r) nx1 1 (ns1.flatMap z2o),True) /\
    (Sat w' (dk d A::r1))/\(r1=r/\(∃ _h:FocR r nx1 1 (ns1.flatMap z2o),True)\/r1=slc T.a32 1 nx1 (ns1.flatMap z2o)::r)) ?_ ?_
  ·refine zk (λh=>?_) λh=>?_
   ·have hnil:ns=[]:=List.length_eq_zero_iff.1 (by omega)
    subst hnil
    refine za (zh6 (ByteArray.mk #[]) hs) λ_ _ hs=>?_
    obtain ⟨x,rfl,hs⟩:=hs
    refine ze ?_
    refine zj ?_
    refine ⟨x,z12 (ByteArray.mk #[]) A.fs,_,rfl,?_,?_,?_,⟨inferInstance,trivial⟩,(hs.pick [1]),.inr rfl⟩
    ·rw [zc0,List.length_map];have:=hok0.many;omega
    ·rw [zc0,List.all_map,List.all_eq_true]
     exact λf hf=>z62.2 ⟨f,hf,rfl⟩
    ·rw [zc0];exact zup A.fs
   ·refine zj ?_
    refine ⟨nx,ns,r,rfl,hlen,hall,zu0 (λe=>by subst e;simp at hpl;omega) A.fs,⟨inferInstance,trivial⟩,hs,.inl ⟨rfl,hns,trivial⟩⟩
  clear hs
  rintro _ w ⟨nx1,ns1,r1,rfl,hlen1,hall1,hmark,-,hs,hr1⟩
  refine zt ?_
  have hR1:FocR r1 nx1 1 (ns1.flatMap z2o):=by
   rcases hr1 with ⟨rfl,h,-⟩|rfl
   ·exact h
   ·infer_instance
  have hsub:∀ {H:HP} {w:World},Sat w (H::r1)->Sat w (H::r):=λ{H w} h=>by
   rcases hr1 with ⟨rfl,-⟩|rfl
   ·exact h
   ·exact h.sub
  have hpl1:=hs.slen nx1 (xs:=ns1) (enc:=z2o)
  refine zx (λv w'=>Sat w' (dk d { A with fs:=A.fs.map (z38 ns1) }::r1)) ?_ ?_
  ·refine z0e (λk v w=>∃ i:Nat,v=((i:Int),())/\i<=ns1.length/\ns1.length-i=k/\Sat w (dk d { A with fs:=A.fs.map (z38 (ns1.take i)) }::r1)) ns1.length ⟨0,rfl,by omega,rfl,by rw [List.take_zero,zsp,List.map_id];exact hs⟩ ?_
   clear hs
   rintro k _ w ⟨i,rfl,hi,hk,hs⟩
   refine zt ?_
   refine zk (λhc=>?_) λhc=>?_
   ·have hil:i<ns1.length:=by omega
    refine z24 hs i hil ?_
    obtain ⟨m,FS,hp,hok,hs⟩:=z2l hs
    (repeat (first|with_reducible (first|refine zt ?_|refine zy ?_|refine z0p ?_|refine zd hs ?_|refine z02 hs ?_|refine zm ?_|refine z0i hs λ_ hs=>?_|refine z05 hs λ_ _ hs=>?_|refine z0b hs λ_ _ hs=>?_|refine z0h hs λ_ hs=>?_|refine z09 hs λ_ hs=>?_)|(apply wp_must;(focus first|trivial|omega|assumption))|refine z1o ?_|refine wp_lt ?_))
    refine z76 hs (λb hb=>?_) λhb=>?_
    ·obtain ⟨t,ht,rfl,hnm,hA⟩:=z8r hp hb
     obtain ⟨FS',hpm,hs⟩:=z7d hs ht
     obtain ⟨h1,h2,-⟩:=apart hp hok hpm
     (repeat (first|with_reducible (first|refine zt ?_|refine zy ?_|refine z0p ?_|refine zd hs ?_|refine z02 hs ?_|refine zm ?_|refine z0i hs λ_ hs=>?_|refine z05 hs λ_ _ hs=>?_|refine z0b hs λ_ _ hs=>?_|refine z0h hs λ_ hs=>?_|refine z09 hs λ_ hs=>?_)|(apply wp_must;(focus first|trivial|omega|assumption))|refine z1o ?_|refine wp_lt ?_))
     rw [hs.slen t.x (xs:=t.f.b) (enc:=zg)] at hs
     have hs:=z6k (FS:=FS') ⟨t.at_,t.x,z84 t.f⟩ hs
     have hs:Sat _ (z3w ekS evF m (((⟨t.at_,t.x,z84 t.f⟩:FileM)::FS').map λt=>(t.f.name,t.at_))::_):=(hs.pick [2]).mapPerm (hpm.map λt=>(t.f.name,t.at_))
     have hstep:(A.fs.map (z38 (ns1.take i))).map (z22 t.f.name z84)=A.fs.map (z38 (ns1.take (i+1))):=by
      rw [List.map_map,List.take_add_one,List.getElem?_eq_getElem hil]
      refine List.map_congr_left λf _=>?_
      show z22 t.f.name z84 (z38 _ f)=_
      rw [zql,hnm];rfl
     have hp':(((⟨t.at_,t.x,z84 t.f⟩:FileM)::FS').map FileM.f).Perm (A.fs.map (z38 (ns1.take (i+1)))):=by
      rw [<- hstep]
      exact (z6z (g:=z84) h1 h2).symm
     refine z57 (us':=[.int .i64 ((i+1:Nat):Int)]) (by (try simp (disch:=omega) only [w64]);first|rfl|(congr;omega)) ?_
     refine z0q (ns1.length-(i+1)) ?_
     refine ⟨i+1,rfl,by omega,rfl,?_⟩
     exact z2u m (A:={ A with fs:=A.fs.map (z38 (ns1.take (i+1))) }) hp' (znx hok0 (zbe _) (zh8 _) (zrn _)) hs (by rw [zbq (zh8 _),zbq (zh8 _)])
    ·exfalso
     have h3:=z68.2 (z7k hp hb)
     have h4:z2k A.fs ns1[i]=true:=List.all_eq_true.1 hall1 _ (List.getElem_mem hil)
     rw [zu5 (zbe _),h4] at h3
     cases h3
   ·refine zv (zj ?_)
    rwa [List.take_of_length_le (by omega)] at hs
  clear hs
  rintro _ w hs
  refine zt ?_
  rw [hmark] at hs
  obtain ⟨m,FS,hp,hok,hs⟩:=z2l (hsub hs)
  have hs:Sat w (pt d (.cells #[.int .i64 A.left,.bool A.gone,.int .i64 A.room,.int .i64 (used (A.fs.map (z4n ns))),.map (some m)] T.a5)::_):=hs
  (repeat (first|with_reducible (first|refine zt ?_|refine zy ?_|refine z0p ?_|refine zd hs ?_|refine z02 hs ?_|refine zm ?_|refine z0i hs λ_ hs=>?_|refine z05 hs λ_ _ hs=>?_|refine z0b hs λ_ _ hs=>?_|refine z0h hs λ_ hs=>?_|refine z09 hs λ_ hs=>?_)|(apply wp_must;(focus first|trivial|omega|assumption))|refine z1o ?_|refine wp_lt ?_))
  rw [hg] at hs
  refine za (zbh (l':=r) (A:=A) hg hok hp hs) λ_ _ hs=>?_
  obtain ⟨rfl,hs⟩:=hs
  refine ze ?_
  exact ⟨rfl,rfl,hs⟩
end
theorem zfc {a b:List FileA} (h:a.Sublist b):used a<=used b:=by
 induction h with
 | slnil=>exact Nat.le_refl _
 | cons x _ ih=>rw [z1w];omega
 | cons_cons x _ ih=>rw [z1w,z1w];omega
theorem zzh {A:DiskA} (hok:okA A) {fs:List FileA} (h:fs.Sublist A.fs):okA { A with fs:=fs } :=
 ⟨hok.room,Nat.le_trans (zfc h) hok.used,Nat.le_trans h.length_le hok.many,hok.left,hok.sorted.sublist h,λf hf=>hok.kept f (h.mem hf),λf hf=>hok.names f (h.mem hf)⟩
def z06 (fs:List FileA) (n:ByteArray):Option (List UInt8 × Nat):=(fs.find? λf=>decide (f.name=n)).map λf=>(f.b,f.kept)
theorem zi4 (n:ByteArray):z06 [] n=none:=rfl
theorem z30 (f:FileA) (fs:List FileA) (n:ByteArray):z06 (f::fs) n=if f.name=n then some (f.b,f.kept) else z06 fs n:=by
 unfold z06
 rw [List.find?_cons]
 by_cases h:f.name=n
 ·simp [h]
 ·simp [h]
theorem z8o {fs:List FileA} {n:ByteArray}:z06 fs n=none↔∀ f ∈ fs,f.name≠n:=by
 unfold z06
 rw [Option.map_eq_none_iff,List.find?_eq_none]
 simp
theorem z7h {fs:List FileA} {f:FileA} (hn:(fs.map (·.name)).Nodup) (h:f ∈ fs):z06 fs f.name=some (f.b,f.kept):=by
 unfold z06
 rw [za2 hn h rfl]
 rfl
theorem zrq {fs:List FileA} {n:ByteArray} {p:List UInt8 × Nat} (h:z06 fs n=some p):(⟨n,p.1,p.2⟩:FileA) ∈ fs:=by
 unfold z06 at h
 rw [Option.map_eq_some_iff] at h
 obtain ⟨f,hf,rfl⟩:=h
 have h1:=List.mem_of_find?_eq_some hf
 have h2:=List.find?_some hf
 have h2:f.name=n:=by simpa using h2
 subst h2
 exact h1
theorem z41 {fs:List FileA} {n:ByteArray}:z2k fs n=(z06 fs n).isSome:=by
 unfold z2k z06
 rw [Option.isSome_map,Bool.eq_iff_iff,List.any_eq_true,List.find?_isSome]
theorem zrb {fs:List FileA} {n:ByteArray} {p:List UInt8 × Nat} (h:z06 fs n=some p):zjv fs n=p.1.length:=by
 unfold z06 at h
 unfold zjv
 cases hf:fs.find? λf=>decide (f.name=n) with
 | none=>rw [hf] at h;cases h
 | some f=>rw [hf] at h;simp only [Option.map_some,Option.some.injEq] at h;subst h;rfl
theorem zcv (n:ByteArray) (g:FileA->FileA) (hg:∀ f,(g f).name=f.name) (m:ByteArray):∀ fs:List FileA,
  z06 (fs.map (z22 n g)) m=if m=n then (z06 fs n).map λp=>((g ⟨n,p.1,p.2⟩).b,(g ⟨n,p.1,p.2⟩).kept) else z06 fs m
 | []=>by simp [zi4]
 | f::fs=>by
  rw [List.map_cons,z30,zcv n g hg m fs,z30,z30,z67 hg]
  by_cases h1:m=n
  ·subst h1
   rw [if_pos rfl,if_pos rfl]
   by_cases h2:f.name=m
   ·rw [if_pos h2,if_pos h2]
    subst h2
    unfold z22
    rw [if_pos rfl]
    rfl
   ·rw [if_neg h2,if_neg h2]
  ·rw [if_neg h1,if_neg h1]
   by_cases h2:f.name=m
   ·rw [if_pos h2,if_pos h2]
    unfold z22
    rw [if_neg (by rw [h2];exact h1)]
   ·rw [if_neg h2,if_neg h2]
theorem zid (x:FileA) (m:ByteArray):∀ {fs:List FileA},(∀ f ∈ fs,f.name≠x.name)->z06 (z4t x fs) m=if m=x.name then some (x.b,x.kept) else z06 fs m
 | [],_=>by
  show z06 [x] m=_
  rw [z30]
  by_cases h:m=x.name
  ·rw [if_pos h.symm,if_pos h]
  ·rw [if_neg h,if_neg λe=>h e.symm]
 | f::fs,h=>by
  have hf:=h f (List.mem_cons_self ..)
  have ih:=zid x m (fs:=fs) λg hg=>h g (List.mem_cons_of_mem _ hg)
  unfold z4t
  split
  ·rw [z30]
   by_cases h:m=x.name
   ·rw [if_pos h.symm,if_pos h]
   ·rw [if_neg h,if_neg λe=>h e.symm]
  ·rw [z30,ih,z30]
   by_cases h:m=x.name
   ·subst h;simp [hf]
   ·rw [if_neg h,if_neg h]
theorem zg2 (n m:ByteArray):∀ fs:List FileA,z06 (z4p n fs) m=if m=n then none else z06 fs m
 | []=>by simp [z4p,zi4]
 | f::fs=>by
  have ih:=zg2 n m fs
  unfold z4p at ih ⊢
  rw [List.filter_cons]
  by_cases h:f.name=n
  ·rw [if_neg (by simp [h]),ih,z30]
   by_cases h2:m=n
   ·rw [if_pos h2,if_pos h2]
   ·rw [if_neg h2,if_neg h2,if_neg (by rw [h];exact λe=>h2 e.symm)]
  ·rw [if_pos (by simp [h]),z30,ih,z30]
   by_cases h2:m=n
   ·subst h2;simp [h]
   ·rw [if_neg h2,if_neg h2]
theorem zfu (ns:List ByteArray) (m:ByteArray):∀ fs:List FileA,z06 (fs.map (z4n ns)) m=(z06 fs m).map λp=>if zbg ns m then (p.1,p.1.length) else p
 | []=>rfl
 | f::fs=>by
  have hn:(z4n ns f).name=f.name:=by unfold z4n;split <;> rfl
  rw [List.map_cons,z30,zfu ns m fs,z30,hn]
  by_cases h:f.name=m
  ·subst h
   rw [if_pos rfl,if_pos rfl]
   unfold z4n
   split
   ·rename_i h;simp [h]
   ·rename_i h;simp [h]
  ·rw [if_neg h,if_neg h]
theorem z8m {A:DiskA} {n:ByteArray} {bs:List UInt8} (h:(z04 A n bs).1≠0):(z04 A n bs).2=A:=by
 unfold z04 at h ⊢
 split
 ·rfl
 ·split
  ·rfl
  ·split
   ·rfl
   ·rename_i h1 h2 h3
    rw [if_neg h1,if_neg h2,if_neg h3] at h
    exact absurd rfl h
theorem z6b {A:DiskA} {n:ByteArray} {bs:List UInt8} (hok:okA A) (h:(z04 A n bs).1=0):A.gone=false/\z3f n=true/\bs.length<=A.free/\okA (z04 A n bs).2 /\
  (z04 A n bs).2.room=A.room/\used (z04 A n bs).2.fs=used A.fs+bs.length /\
  ∀ m,z06 (z04 A n bs).2.fs m=if m=n then some (((z06 A.fs n).map Prod.fst).getD []++bs,((z06 A.fs n).map Prod.snd).getD 0) else z06 A.fs m:=by
 unfold z04 at h ⊢
 split at h
 ·cases h
 rename_i h1
 split at h
 ·cases h
 rename_i h2
 split at h
 ·cases h
 rename_i h3
 rw [if_neg h1,if_neg h2,if_neg h3]
 have hn:z3f n=true:=by simpa using h2
 have h4:=zfm hok hn (bs:=bs) (by omega) (λhh=>h3 (.inr hh))
 refine ⟨by simpa using h1,hn,by omega,z92 h4,by rw [z8j],?_,λm=>?_⟩
 ·rw [z3y]
  show used (if z2k A.fs n=true then _ else _)=_
  have hnd:=z2j hok.sorted
  split
  ·rename_i hh
   obtain ⟨f,hf,rfl⟩:=z62.1 hh
   obtain ⟨s,u,hsu⟩:=List.append_of_mem hf
   have hp:A.fs.Perm (f::(s++u)):=by rw [hsu];exact List.perm_middle
   have hne:∀ g ∈ s++u,g.name≠f.name:=λg hg e=>by
    have h5:=(hp.map (·.name)).nodup_iff.1 hnd
    rw [List.map_cons,List.nodup_cons] at h5
    exact h5.1 (List.mem_map.2 ⟨g,hg,e⟩)
   rw [zc5 hp hne,z4c hp,z1w,List.length_append]
   omega
  ·rw [z4c (z6c _ _),z1w]
   show bs.length+_=_
   omega
 ·rw [z3y]
  show z06 (if z2k A.fs n=true then _ else _) m=_
  split
  ·rename_i hh
   rw [zcv n (λf=>{ f with b:=f.b++bs }) (λf=>rfl)]
   by_cases hm:m=n
   ·rw [if_pos hm,if_pos hm]
    rw [z41] at hh
    obtain ⟨p,hp⟩:=Option.isSome_iff_exists.1 hh
    rw [hp]
    rfl
   ·rw [if_neg hm,if_neg hm]
  ·rename_i hh
   have hh:z2k A.fs n=false:=by simpa using hh
   rw [zid _ _ (z68.1 hh)]
   by_cases hm:m=n
   ·rw [if_pos hm,if_pos hm,z8o.2 (z68.1 hh)]
    rfl
   ·rw [if_neg hm,if_neg hm]
theorem z6u {A:DiskA} {n:ByteArray} {bs:List UInt8} (hg:A.gone=false) (hn:z3f n=true) (hb:bs.length<=A.free) (hf:z06 A.fs n≠none\/A.fs.length<128):(z04 A n bs).1=0:=by
 unfold z04
 rw [if_neg (by rw [hg];simp),if_neg (by rw [hn];simp),if_neg]
 rintro (h|⟨h1,h2⟩)
 ·omega
 ·rcases hf with hf|hf
  ·rw [z41] at h1
   cases hq:z06 A.fs n with
   | none=>exact hf hq
   | some q=>rw [hq] at h1;cases h1
  ·omega
theorem zeg {A:DiskA} {n:ByteArray} {bs:List UInt8} (hn:z3f n=true):(z04 A n bs).1=0\/((z04 A n bs).1=9/\A.gone=true)\/((z04 A n bs).1=5/\A.gone=false):=by
 unfold z04
 split
 ·exact .inr (.inl ⟨rfl,by assumption⟩)
 ·rename_i h
  rw [if_neg (by rw [hn];simp)]
  split
  ·exact .inr (.inr ⟨rfl,by simpa using h⟩)
  ·exact .inl rfl
theorem zei {A:DiskA} {n:ByteArray}:((z29 A [n]).1=0/\A.gone=false/\(z06 A.fs n).isSome=true/\(z29 A [n]).2=z32 { A with fs:=A.fs.map (z4n [n]) })\/((z29 A [n]).1=9/\A.gone=true/\(z29 A [n]).2=A)\/((z29 A [n]).1=3/\A.gone=false/\z06 A.fs n=none/\(z29 A [n]).2=A):=by
 unfold z29
 split
 ·exact .inr (.inl ⟨rfl,by assumption,rfl⟩)
 ·rename_i h
  have hg:A.gone=false:=by simpa using h
  split
  ·rename_i h2
   refine .inr (.inr ⟨rfl,hg,?_,rfl⟩)
   simp only [List.all_cons,List.all_nil,Bool.and_true] at h2
   rw [z41] at h2
   cases hq:z06 A.fs n with
   | none=>rfl
   | some q=>rw [hq] at h2;cases h2
  ·rename_i h2
   refine .inl ⟨rfl,hg,?_,rfl⟩
   simp only [List.all_cons,List.all_nil,Bool.and_true] at h2
   rw [z41] at h2
   cases hq:z06 A.fs n with
   | none=>rw [hq] at h2;exact absurd rfl h2
   | some q=>rfl
theorem zvz {A:DiskA} (hok:okA A) (ns:List ByteArray):okA { A with fs:=A.fs.map (z4n ns) } :=
 znx hok (λf=>by unfold z4n;split <;> rfl) (λf=>by unfold z4n;split <;> rfl) (λf h=>by unfold z4n;split;exact Nat.le_refl _;exact h)
theorem ztz (n m:ByteArray):zbg [n] m=decide (n=m):=by
 unfold zbg
 simp
theorem zoc {A:DiskA} {n:ByteArray} (hok:okA A) (h:(z29 A [n]).1=0):A.gone=false/\okA (z29 A [n]).2/\(z29 A [n]).2.room=A.room/\used (z29 A [n]).2.fs=used A.fs/\(z29 A [n]).2.fs.length=A.fs.length /\
  ∀ m,z06 (z29 A [n]).2.fs m=(z06 A.fs m).map λp=>if n=m then (p.1,p.1.length) else p:=by
 rcases zei (A:=A) (n:=n) with ⟨h1,h2,h3,h4⟩|⟨h1,-,-⟩|⟨h1,-,-,-⟩
 ·rw [h4]
  refine ⟨h2,z92 (zvz hok _),by rw [z8j],?_,?_,λm=>?_⟩
  ·rw [z3y]
   exact zbq λf=>by unfold z4n;split <;> rfl
  ·rw [z3y]
   exact List.length_map ..
  ·rw [z3y]
   show z06 (A.fs.map (z4n [n])) m=_
   rw [zfu]
   congr 1
   funext p
   rw [ztz]
   by_cases hm:n=m <;> simp [hm]
 ·rw [h1] at h;cases h
 ·rw [h1] at h;cases h
theorem zda {A:DiskA} {n:ByteArray} (hok:okA A) (h:(z0v A n).1=0):A.gone=false/\okA (z0v A n).2/\(z0v A n).2.room=A.room/\used (z0v A n).2.fs<=used A.fs/\(z0v A n).2.fs.length<=A.fs.length/\(z06 A.fs n).isSome=true /\
  ∀ m,z06 (z0v A n).2.fs m=if m=n then none else z06 A.fs m:=by
 unfold z0v at h ⊢
 split at h
 ·cases h
 rename_i h1
 split at h
 ·cases h
 rename_i h2
 rw [if_neg h1,if_neg h2]
 refine ⟨by simpa using h1,z92 (zzh hok (List.filter_sublist ..)),by rw [z8j],?_,?_,?_,λm=>?_⟩
 ·rw [z3y];exact zfc (List.filter_sublist ..)
 ·rw [z3y];exact zt6 _ _
 ·rw [<- z41];simpa using h2
 ·rw [z3y];exact zg2 n m A.fs
theorem z85 {A:DiskA} {n:ByteArray} (hf:(z06 A.fs n).isSome=true):((z0v A n).1=0/\A.gone=false)\/((z0v A n).1=9/\A.gone=true/\(z0v A n).2=A):=by
 unfold z0v
 split
 ·exact .inr ⟨rfl,by assumption,rfl⟩
 ·rename_i h
  rw [if_neg (by rw [z41,hf];simp)]
  exact .inl ⟨rfl,by simpa using h⟩
theorem zt8 {A:DiskA} {n:ByteArray} {k:Int} (hok:okA A) (h:(cutA' A n k).1=0):A.gone=false/\okA (cutA' A n k).2/\(cutA' A n k).2.room=A.room/\(cutA' A n k).2.fs.length=A.fs.length /\
  ∀ m,z06 (cutA' A n k).2.fs m=if m=n then (z06 A.fs n).map (λp=>(p.1.take k.toNat,min p.2 k.toNat)) else z06 A.fs m:=by
 unfold cutA' at h ⊢
 split at h
 ·cases h
 rename_i h1
 split at h
 ·cases h
 rename_i h2
 split at h
 ·cases h
 rename_i h3
 rw [if_neg h1,if_neg h2,if_neg h3]
 have hnd:=z2j hok.sorted
 have hup:okA { A with fs:=A.fs.map (z22 n λf=>{ f with b:=f.b.take k.toNat,kept:=min f.kept k.toNat }) }:=by
  refine ⟨hok.room,?_,?_,hok.left,z8q (λf=>z67 (g:=λf=>{ f with b:=f.b.take k.toNat,kept:=min f.kept k.toNat }) (λ_=>rfl) f) hok.sorted,λf hf=>?_,λf hf=>?_⟩
  ·refine Nat.le_trans ?_ hok.used
   show used (A.fs.map _)<=used A.fs
   generalize A.fs=fs
   induction fs with
   | nil=>exact Nat.le_refl _
   | cons f fs ih =>
    rw [List.map_cons,z1w,z1w]
    have:(z22 n (λf=>{ f with b:=f.b.take k.toNat,kept:=min f.kept k.toNat }) f).b.length<=f.b.length:=by
     unfold z22
     split
     ·show (f.b.take _).length<=_;rw [List.length_take];omega
     ·exact Nat.le_refl _
    omega
  ·show (A.fs.map _).length<=_;rw [List.length_map];exact hok.many
  ·obtain ⟨g,hg,rfl⟩:=List.mem_map.1 hf
   have:=hok.kept g hg
   unfold z22
   split
   ·show min g.kept _<=(g.b.take _).length;rw [List.length_take];omega
   ·exact this
  ·obtain ⟨g,hg,rfl⟩:=List.mem_map.1 hf
   rw [z67 (g:=λf=>{ f with b:=f.b.take k.toNat,kept:=min f.kept k.toNat }) (λ_=>rfl)]
   exact hok.names g hg
 refine ⟨by simpa using h1,z92 hup,by rw [z8j],by rw [z3y];exact List.length_map ..,λm=>?_⟩
 rw [z3y]
 show z06 (A.fs.map _) m=_
 rw [zcv n (λf=>{ f with b:=f.b.take k.toNat,kept:=min f.kept k.toNat }) (λf=>rfl)]
theorem ziy {A:DiskA} {n:ByteArray} {k:Int} {p:List UInt8 × Nat} (hf:z06 A.fs n=some p) (hk:0<=k/\k<=p.1.length):((cutA' A n k).1=0/\A.gone=false)\/((cutA' A n k).1=9/\A.gone=true/\(cutA' A n k).2=A):=by
 unfold cutA'
 split
 ·exact .inr ⟨rfl,by assumption,rfl⟩
 ·rename_i h
  rw [if_neg (by rw [z41,hf];simp),if_neg (by rw [zrb hf];omega)]
  exact .inl ⟨rfl,by simpa using h⟩
structure EntA where
 offset:Int
 place:Int
 before:Int
structure IdxA where
 offset:Int
 place:Int
 late:Int
 gap:Int
 l:List EntA
def zcy (gap:Int):IdxA:=⟨-1,-1,-1,gap,[]⟩
def zbs (o p t:Int):Prop:=(0<=o/\o<=1099511627776)/\(0<=p/\p<=4194304)/\(0<=t/\t<=1099511627776)
instance (o p t:Int):Decidable (zbs o p t):=by unfold zbs;infer_instance
def zvh (x:IdxA) (p:Int):Bool:=match x.l.getLast? with
 | none=>true
 | some e=>decide (p-e.place>=x.gap)
def z4x (x:IdxA) (o p:Int):List EntA:=if zvh x p then x.l++[⟨o,p,x.late⟩] else x.l
def z9t (x:IdxA) (o p t:Int):Int × IdxA:=if ¬ zbs o p t then (2,x) else if o<=x.offset\/p<=x.place then (21,x) else (0,⟨o,p,max x.late t,x.gap,z4x x o p⟩)
def zbu:IdxA->Int->List BatM->IdxA
 | x,_,[]=>x
 | x,q,b::bs=>zbu (z9t x b.base q (z3i b)).2 (q+(frL b).length) bs
def SegA.idx (gap:Int) (s:SegA):IdxA:=zbu (zcy gap) (shL s.base s.fin).length s.bs
def z3j (l:List EntA) (o:Int):Option EntA:=(l.filter λe=>decide (e.offset<=o)).getLast?
theorem zdj:∀ (bs:List BatM) (x:IdxA) (q:Int) (b:BatM),zbu x q (bs++[b])=(z9t (zbu x q bs) b.base (q+(bs.flatMap frL).length) (z3i b)).2
 | [],x,q,b=>by simp [zbu]
 | a::bs,x,q,b=>by
  show zbu (z9t x a.base q (z3i a)).2 (q+(frL a).length) (bs++[b])=_
  rw [zdj bs]
  rw [show q+((frL a).length:Int)+((bs.flatMap frL).length:Nat)=q+(((a::bs).flatMap frL).length:Nat) by rw [List.flatMap_cons,List.length_append];omega]
  rfl
theorem zjg:∀ {rs:List RecM} {x:Int},x<=z5z x rs/\∀ r ∈ rs,r.time<=z5z x rs
 | [],x=>⟨Int.le_refl _,λ_ h=>by cases h⟩
 | r::rs,x=>by
  have h:=zjg (rs:=rs) (x:=max x r.time)
  have e:z5z x (r::rs)=z5z (max x r.time) rs:=rfl
  rw [e]
  refine ⟨by omega,λy hy=>?_⟩
  rcases List.mem_cons.1 hy with rfl|hy
  ·omega
  ·exact h.2 y hy
theorem zio:∀ {rs:List RecM} {x m:Int},x<=m->(∀ r ∈ rs,r.time<=m)->z5z x rs<=m
 | [],x,m,h,_=>h
 | r::rs,x,m,h,hr=>by
  have e:z5z x (r::rs)=z5z (max x r.time) rs:=rfl
  rw [e]
  have:=hr r (List.mem_cons_self ..)
  exact zio (by omega) λy hy=>hr y (List.mem_cons_of_mem _ hy)
theorem zw1 {b:BatM} (h:z0c b=0):0<=z3i b/\z3i b<=1099511627776:=by
 obtain ⟨-,-,⟨-,-,-,-,-,htm⟩,-,-⟩:=z1e b h
 obtain ⟨-,hrs⟩:=z2p h
 unfold z3i
 split
 ·exact htm
 ·rename_i hne
  obtain ⟨r,hr⟩:=List.exists_mem_of_ne_nil _ hne
  have h1:=(zjg (rs:=b.rs) (x := -1)).2 r hr
  have h2:=(z3c (hrs r hr)).2.2.1
  refine ⟨by omega,zio (by omega) λr hr=>(z3c (hrs r hr)).2.2.1.2⟩
theorem zez:∀ {bs:List BatM} {x:Int},x<=z1t x bs/\∀ b ∈ bs,z3i b<=z1t x bs
 | [],x=>⟨Int.le_refl _,λ_ h=>by cases h⟩
 | r::rs,x=>by
  have h:=zez (bs:=rs) (x:=max x (z3i r))
  have e:z1t x (r::rs)=z1t (max x (z3i r)) rs:=rfl
  rw [e]
  refine ⟨by omega,λy hy=>?_⟩
  rcases List.mem_cons.1 hy with rfl|hy
  ·omega
  ·exact h.2 y hy
theorem zim:∀ {bs:List BatM} {x m:Int},x<=m->(∀ b ∈ bs,z3i b<=m)->z1t x bs<=m
 | [],x,m,h,_=>h
 | r::rs,x,m,h,hr=>by
  have e:z1t x (r::rs)=z1t (max x (z3i r)) rs:=rfl
  rw [e]
  have:=hr r (List.mem_cons_self ..)
  exact zim (by omega) λy hy=>hr y (List.mem_cons_of_mem _ hy)
theorem zrm {x:Int} (bs:List BatM) (i:Nat):z1t x (bs.take i)<=z1t x bs :=
 zim zez.1 λb hb=>zez.2 b (List.mem_of_mem_take hb)
structure IdxOk (gap q:Int) (bs:List BatM) (x:IdxA):Prop where
 gap:x.gap=gap
 late:x.late=z1t (-1) bs
 offset:x.offset=match bs.getLast? with|none => -1|some b=>b.base
 place:x.place<q+(bs.flatMap frL).length
 lplace:∀ e ∈ x.l,e.place<=x.place
 ent:∀ e ∈ x.l,∃ i,∃ hi:i<bs.length,e=⟨bs[i].base,q+((bs.take i).flatMap frL).length,z1t (-1) (bs.take i)⟩
 first:∀ b,bs.head? = some b->x.l.head? = some ⟨b.base,q,-1⟩
 offs:x.l.Pairwise λa b=>a.offset<b.offset
 befs:x.l.Pairwise λa b=>a.before<=b.before
theorem z9s {n:Int} {bs:List BatM} {b:BatM} (h:z25 n (bs++[b])) (h0:0<=n):z0c b=0/\n<=b.base/\(∀ c,bs.getLast? = some c->c.base<b.base)/\z25 n bs/\z0n bs<=b.base:=by
 induction bs generalizing n with
 | nil=>exact ⟨h.1,h.2.2.1,by simp,trivial,by have:=h.2.2.1;show (0:Int)<=_;omega⟩
 | cons a bs ih =>
  obtain ⟨h1,h2,h3,h4⟩:=h
  obtain ⟨s1,-,⟨-,hba,-⟩,-,s2⟩:=z1e a h1
  obtain ⟨i1,i2,i3,i4,i5⟩:=ih h4 (by omega)
  refine ⟨i1,by omega,λc hc=>?_,⟨h1,h2,h3,i4⟩,?_⟩
  ·cases bs with
   | nil=>simp at hc;subst hc;omega
   | cons d ds=>exact i3 c (by simpa using hc)
  ·cases bs with
   | nil=>show a.base+z0d a<=_;omega
   | cons d ds=>exact i5
theorem zjl (gap:Int):∀ (m:Nat) {n q:Int} {bs:List BatM},bs.length=m->0<=n->0<=q->z25 n bs->q+(bs.flatMap frL).length<=4194304->IdxOk gap q bs (zbu (zcy gap) q bs)
 | 0,n,q,bs,hm,_,hq,_,_=>by
  have:bs=[]:=List.length_eq_zero_iff.1 hm
  subst this
  exact ⟨rfl,rfl,rfl,by show (-1:Int)<_;simp;omega,(λ_ h=>by cases h),(λ_ h=>by cases h),(λ_ h=>by cases h),.nil,.nil⟩
 | m+1,n,q,bs,hm,hn,hq,hb,hl=>by
  have hne:bs≠[]:=by rintro rfl;cases hm
  obtain ⟨bs,b,rfl⟩:∃ cs b,bs=cs++[b]:=⟨bs.dropLast,bs.getLast hne,(List.dropLast_concat_getLast hne).symm⟩
  rw [List.length_append] at hm
  obtain ⟨hv,hnb,hlb,hb',-⟩:=z9s hb hn
  have hfl:=z3q hv
  have hfl2:((bs++[b]).flatMap frL).length=(bs.flatMap frL).length+(frL b).length:=by simp
  have ih:=zjl gap m (by simpa using hm) hn hq hb' (by omega)
  have hlt:=zw1 hv
  obtain ⟨-,-,⟨-,hba,-⟩,-,-⟩:=z1e b hv
  rw [zdj]
  generalize hx:zbu (zcy gap) q bs=x at ih
  have hoff:x.offset<b.base:=by
   rw [ih.offset]
   cases hc:bs.getLast? with
   | none=>show (-1:Int)<_;omega
   | some c=>exact hlb c hc
  unfold z9t
  rw [if_neg (by intro h;apply h;exact ⟨by omega,by omega,by omega⟩),if_neg (by have:=ih.place;omega)]
  have hw:∀ (i:Nat) (hi:i<bs.length),(bs++[b])[i]'(by rw [List.length_append];omega)=bs[i]/\(bs++[b]).take i=bs.take i:=λi hi=>⟨List.getElem_append_left hi,by rw [List.take_append_of_le_length (by omega)]⟩
  have hmem:∀ e ∈ z4x x b.base (q+(bs.flatMap frL).length),e ∈ x.l\/e=⟨b.base,q+(bs.flatMap frL).length,x.late⟩:=λe he=>by
   unfold z4x at he
   split at he
   ·rcases List.mem_append.1 he with he|he
    ·exact .inl he
    ·exact .inr (by simpa using he)
   ·exact .inl he
  have hent:∀ e ∈ x.l,e.offset<b.base/\e.before<=x.late:=λe he=>by
   obtain ⟨i,hi,rfl⟩:=ih.ent e he
   refine ⟨?_,by rw [ih.late];exact zrm bs i⟩
   have hlast:∀ {n:Int} {bs:List BatM},z25 n bs->0<=n->∀ (i:Nat) (hi:i<bs.length),bs[i].base<z0n bs:=by
    intro n bs hbs hn i hi
    have h1:z25 n (bs.take i++[bs[i]]):=by
     have:=hbs.take (i+1)
     rwa [List.take_succ_eq_append_getElem hi] at this
    have h2:=z9s h1 hn
    have h3:∀ {n:Int} {ds cs:List BatM},z25 n (ds++cs)->0<=n->z0n ds<=z0n (ds++cs):=by
     intro n ds cs h hn
     induction cs generalizing ds with
     | nil=>rw [List.append_nil];exact Int.le_refl _
     | cons c cs ih =>
      have h':z25 n ((ds++[c])++cs):=by rwa [List.append_assoc]
      have i1:=ih h'
      rw [List.append_assoc] at i1
      have h4:z25 n (ds++[c]):=by
       have:=h'.take (ds++[c]).length
       rwa [List.take_left] at this
      have h5:=z9s h4 hn
      obtain ⟨s1,-,-,-,-⟩:=z1e c h5.1
      have e:z0n (ds++[c])=c.base+z0d c:=z42 ds c
      have i1:z0n (ds++[c])<=z0n (ds++(c::cs)):=i1
      have:=h5.2.2.2.2
      omega
    have h6:=h3 (ds:=bs.take i++[bs[i]]) (cs:=bs.drop (i+1)) (by rw [<- List.take_succ_eq_append_getElem hi,List.take_append_drop];exact hbs) hn
    rw [<- List.take_succ_eq_append_getElem hi,List.take_append_drop,List.take_succ_eq_append_getElem hi,z42] at h6
    obtain ⟨s1,-,-,-,-⟩:=z1e _ h2.1
    omega
   have h7:=hlast hb' hn i hi
   have h8:=(z9s hb hn).2.2.2.2
   show bs[i].base<b.base
   omega
  refine ⟨ih.gap,?_,by rw [z20],?_,?_,?_,?_,?_,?_⟩
  ·rw [zga,<- ih.late]
  ·show q+((bs.flatMap frL).length:Int)<_
   omega
  ·intro e he
   show e.place<=q+((bs.flatMap frL).length:Int)
   rcases hmem e he with he|rfl
   ·have:=ih.lplace e he
    have:=ih.place
    omega
   ·exact Int.le_refl _
  ·intro e he
   rcases hmem e he with he|rfl
   ·obtain ⟨i,hi,rfl⟩:=ih.ent e he
    obtain ⟨h1,h2⟩:=hw i hi
    exact ⟨i,by rw [List.length_append];omega,by rw [h1,h2]⟩
   ·refine ⟨bs.length,by simp,?_⟩
    rw [List.getElem_append_right (Nat.le_refl _),List.take_left,ih.late]
    simp
  ·intro a ha
   show (z4x x b.base (q+(bs.flatMap frL).length)).head? = _
   cases bs with
   | nil =>
    simp at ha
    subst ha
    subst hx
    show some (⟨b.base,q+((([]:List BatM).flatMap frL).length:Int),-1⟩:EntA)=_
    congr 2
    simp
   | cons c cs =>
    have h1:=ih.first a (by simpa using ha)
    unfold z4x
    split
    ·rw [List.head?_append,h1];rfl
    ·exact h1
  ·show (z4x x b.base _).Pairwise _
   unfold z4x
   split
   ·refine List.pairwise_append.2 ⟨ih.offs,by simp,λa ha c hc=>?_⟩
    simp at hc
    subst hc
    exact (hent a ha).1
   ·exact ih.offs
  ·show (z4x x b.base _).Pairwise _
   unfold z4x
   split
   ·refine List.pairwise_append.2 ⟨ih.befs,by simp,λa ha c hc=>?_⟩
    simp at hc
    subst hc
    exact (hent a ha).2
   ·exact ih.befs
theorem zp8 {α:Type} {p:α->Bool} {l:List α} {i:Nat} (hi:i<=l.length) (h1:∀ x ∈ l.take i,p x=true) (h2:∀ x ∈ l.drop i,p x=false):l.filter p=l.take i:=by
 rw [<- List.take_append_drop i l,List.filter_append,List.filter_eq_self.2 h1,List.filter_eq_nil_iff.2 λx hx=>by rw [h2 x hx];simp,List.append_nil]
 rw [List.take_append_drop]
theorem zqa {α:Type} {p:α->Bool} {l:List α} {i:Nat} (hi:i<=l.length) (hm:l.Pairwise λa b=>p b=true->p a=true) (h1:∀ (h:i-1<l.length),0<i->p l[i-1]=true) (h2:∀ h:i<l.length,p l[i]=false):l.filter p=l.take i:=by
 have hm':∀ (a b:Nat) (hb:b<l.length) (h:a<b),p l[b]=true->p (l[a]'(by omega))=true:=λa b hb h=>List.pairwise_iff_getElem.1 hm a b (by omega) hb h
 refine zp8 hi (λx hx=>?_) λx hx=>?_
 ·obtain ⟨j,hj,rfl⟩:=List.mem_iff_getElem.1 hx
  rw [List.length_take] at hj
  rw [List.getElem_take]
  by_cases hji:j=i-1
  ·subst hji;exact h1 (by omega) (by omega)
  ·exact hm' j (i-1) (by omega) (by omega) (h1 (by omega) (by omega))
 ·obtain ⟨j,hj,rfl⟩:=List.mem_iff_getElem.1 hx
  rw [List.length_drop] at hj
  rw [List.getElem_drop]
  cases hp:p (l[i+j]'(by omega)) with
  | false=>rfl
  | true =>
   have h3:=h2 (by omega)
   by_cases hj0:j=0
   ·subst hj0;simp only [Nat.add_zero] at hp;rw [hp] at h3;cases h3
   ·have:=hm' i (i+j) (by omega) (by omega) hp
    rw [this] at h3;cases h3
theorem ziu {α:Type} {l:List α} {i:Nat} (hi:i<=l.length):(l.take i).getLast? = if i=0 then none else l[i-1]? := by
 cases i with
 | zero=>simp
 | succ i =>
  rw [if_neg (by omega),List.take_succ_eq_append_getElem (by omega),z20]
  simp
theorem zlq {α:Type} {p:α->Bool} {l:List α} {e:α} (h:(l.filter p).getLast? = some e):∃ a c,l=a++e::c/\p e=true/\∀ x ∈ c,p x=false:=by
 induction l with
 | nil=>simp at h
 | cons y r ih =>
  rw [List.filter_cons] at h
  by_cases hr:(r.filter p)=[]
  ·split at h
   ·rw [hr] at h
    simp at h
    subst h
    exact ⟨[],r,rfl,by assumption,λx hx=>by simpa using List.filter_eq_nil_iff.1 hr x hx⟩
   ·rw [hr] at h;simp at h
  ·have h':(r.filter p).getLast? = some e:=by
    split at h
    ·cases hq:r.filter p with
     | nil=>exact absurd hq hr
     | cons z zs=>rw [hq] at h;simpa using h
    ·exact h
   obtain ⟨a,c,rfl,h1,h2⟩:=ih h'
   exact ⟨y::a,c,rfl,h1,h2⟩
def z4r (e:EntA):List Value:=[.int .i64 e.offset,.int .i64 e.place,.int .i64 e.before]
instance:EncA z4r [.int .i64,.int .i64,.int .i64] (λe=>(e.offset,e.place,e.before,())):=⟨λ_=>rfl⟩
instance:EncN z4r 3:=⟨λ_=>rfl,by decide,by simp [z4r,Value.oneCell']⟩
instance:EncF z4r 0 (.int .i64) (λe=>e.offset):=⟨λ_=>rfl⟩
instance:EncF z4r 1 (.int .i64) (λe=>e.place):=⟨λ_=>rfl⟩
instance:EncF z4r 2 (.int .i64) (λe=>e.before):=⟨λ_=>rfl⟩
structure okX (X:IdxA):Prop where
 gap:1<=X.gap/\X.gap<=4194304
 place : -1<=X.place/\X.place<=4194304
 ent:∀ e ∈ X.l,0<=e.place/\e.place<=X.place
 len:(X.l.length:Int)<=X.place+1
def z2v (b:Nat) (X:IdxA):HP:=HP.ex λz:Sl=>HP.and (okX X) (HP.star (pt b (.cells #[.int .i64 X.offset,.int .i64 X.place,.int .i64 X.late,.int .i64 X.gap,.slice z.a z.len z.cap] T.a8)) (slc T.a7 3 z (X.l.flatMap z4r)))
section
variable {w:World} {l r:List HP} {b:Nat} {X:IdxA}
theorem zey (hs:Sat w (z2v b X::l)):∃ z:Sl,okX X/\Sat w (pt b (.cells #[.int .i64 X.offset,.int .i64 X.place,.int .i64 X.late,.int .i64 X.gap,.slice z.a z.len z.cap] T.a8)::slc T.a7 3 z (X.l.flatMap z4r)::l):=by
 obtain ⟨z,hs⟩:=hs.ex
 obtain ⟨h,hs⟩:=hs.and
 exact ⟨z,h,hs.star⟩
theorem z87 (X:IdxA) {z:Sl} (h:okX X) (hs:Sat w (pt b (.cells #[.int .i64 X.offset,.int .i64 X.place,.int .i64 X.late,.int .i64 X.gap,.slice z.a z.len z.cap] T.a8)::slc T.a7 3 z (X.l.flatMap z4r)::l)):Sat w (z2v b X::l) :=
 .ex_mk z (.and_mk h (.star_mk hs))
theorem z043 {gap:Int} (h:1<=gap/\gap<=4194304):okX (zcy gap):=⟨h,by show -1<=(-1:Int)/\(-1:Int)<=4194304;omega,(λ_ h=>by cases h),by show (0:Int) <= -1+1;omega⟩
theorem z01s (gap:Int) (h:1<=gap/\gap<=4194304) (hs:Sat w l):Ret P F.a28 #[.int .i64 gap] w λvs w'=>∃ b,vs=[.pointer (some ⟨b,0,none⟩),.int .i64 0]/\Sat w' (z2v b (zcy gap)::l) :=
 zri gap <| by
  unfold z032
  refine z0j ?_
  refine z0b hs λa w' hs=>?_
  refine ⟨rfl,a,rfl,?_⟩
  have h0:Sat w' (slc T.a7 3 ⟨none,0,0⟩ ((zcy gap).l.flatMap z4r)::_):=hs.slc_nil
  exact z87 (zcy gap) (z:=⟨none,0,0⟩) (z043 h) (h0.pick [1])
theorem z02m (o p t:Int) (hs:Sat w l):Ret P F.a29 #[.int .i64 o,.int .i64 p,.int .i64 t] w λvs w'=>vs=[.bool (decide (zbs o p t))]/\Sat w' l :=
 zqm o p t <| by
  unfold z02s
  refine wp_lt ?_
  refine ⟨rfl,?_,hs⟩
  congr 2
  rw [Bool.eq_iff_iff,decide_eq_true_iff (p:=zbs o p t)]
  unfold zbs
  simp only [Bool.and_eq_true,decide_eq_true_eq]
  constructor
  ·rintro ⟨⟨⟨⟨⟨h1,h2⟩,h3⟩,h4⟩,h5⟩,h6⟩
   exact ⟨⟨h1,h2⟩,⟨h3,h4⟩,h5,h6⟩
  ·rintro ⟨⟨h1,h2⟩,⟨h3,h4⟩,h5,h6⟩
   exact ⟨⟨⟨⟨⟨h1,h2⟩,h3⟩,h4⟩,h5⟩,h6⟩
theorem zu9 {X:IdxA} (h:okX X) {o p t:Int} (hm:zbs o p t) (h2:¬ (o<=X.offset\/p<=X.place)):okX ⟨o,p,max X.late t,X.gap,z4x X o p⟩:=by
 obtain ⟨h3,h4,h5,h6⟩:=h
 obtain ⟨-,hp,-⟩:=hm
 refine ⟨h3,by show -1<=p/\p<=4194304;omega,λe he=>?_,?_⟩
 ·show 0<=e.place/\e.place<=p
  have he:e ∈ z4x X o p:=he
  unfold z4x at he
  split at he
  ·rcases List.mem_append.1 he with he|he
   ·have:=h5 e he;omega
   ·simp at he;subst he;simp only;omega
  ·have:=h5 e he;omega
 ·show ((z4x X o p).length:Int)<=p+1
  unfold z4x
  split
  ·rw [List.length_append];simp only [List.length_cons,List.length_nil];omega
  ·omega
theorem z02n (o p t:Int) (ho : -9223372036854775808<=o/\o<9223372036854775808) (hp : -9223372036854775808<=p/\p<9223372036854775808) [hf:Fo l z2v b X r] (hs:Sat w l) :
  Ret P F.a26 #[.pointer (some ⟨b,0,none⟩),.int .i64 o,.int .i64 p,.int .i64 t] w λvs w'=>vs=[.int .i64 (z9t X o p t).1]/\Sat w' (z2v b (z9t X o p t).2::r) :=
 zq9 _ o p t <| by
  unfold z02q
  have hs:=hs.perm hf.perm
  refine wp_lt ?_
  refine z0j ?_ (by simp)
  refine za (z02m o p t hs) λ_ w' hs=>?_
  obtain ⟨rfl,hs⟩:=hs
  refine ze ?_
  refine wp_lt ?_
  unfold z9t
  refine zk (λh=>?_) λh=>?_
  ·have h:¬ zbs o p t:=by simpa using h
   rw [if_pos h]
   exact ⟨rfl,rfl,hs⟩
  have h:zbs o p t:=by simpa using h
  rw [if_neg (λhh=>hh h)]
  obtain ⟨z,hok,hs⟩:=zey hs
  have hl:=hs.slen z (xs:=X.l) (enc:=z4r)
  refine zy ?_
  refine zd hs ?_
  refine z0p ?_
  refine zd hs ?_
  refine wp_lt ?_
  refine zk (λh2=>?_) λh2=>?_
  ·rw [if_pos h2]
   exact ⟨rfl,rfl,z87 X hok hs⟩
  rw [if_neg h2]
  have hok2:=zu9 hok h h2
  have hlen:=hok.len
  have hpl:=hok.place
  refine zy ?_
  refine zd hs ?_
  refine wp_lt ?_
  refine z0i hs λw' hs=>?_
  refine z0p ?_
  refine zd hs ?_
  have hgl:∀ (h0:X.l≠[]),X.l.getLast? = some (X.l[X.l.length-1]'(by have:=List.length_pos_iff.2 h0;omega)):=λh0=>by
   have:=List.length_pos_iff.2 h0
   rw [List.getLast?_eq_getElem?,List.getElem?_eq_getElem (by omega)]
  refine zej (xs:=X.l) (enc:=z4r) hs (match X.l.getLast? with|none=>0|some e=>e.place) (λhg=>?_) ?_
  ·have h0:X.l≠[]:=by
    rintro h0
    rw [h0] at hl
    rw [hl] at hg
    cases hg
   have:=List.length_pos_iff.2 h0
   refine ⟨X.l.length-1,by omega,?_,?_⟩
   ·rw [w64 (by omega) (by omega)];omega
   ·rw [hgl h0]
  refine z0p ?_
  refine zd hs ?_
  refine zm ?_
  refine zx (λ_ w'=>∃ z':Sl,Sat w' (pt b (.cells #[.int .i64 X.offset,.int .i64 X.place,.int .i64 X.late,.int .i64 X.gap,.slice z'.a z'.len z'.cap] T.a8)::slc T.a7 3 z' ((z4x X o p).flatMap z4r)::r)) ?_ ?_
  ·have hnew:zvh X p=true↔(((z.len:Nat):Int)=0\/IntKind.wrap .i64 (p-match X.l.getLast? with|none=>0|some e=>e.place)>=X.gap):=by
    unfold zvh
    by_cases h0:X.l=[]
    ·rw [h0]
     simp only [List.getLast?_nil,true_iff]
     left
     rw [hl,h0];rfl
    ·rw [hgl h0]
     have hlp:=List.length_pos_iff.2 h0
     have hb:=hok.ent _ (List.getElem_mem (show X.l.length-1<X.l.length by omega))
     simp only [decide_eq_true_eq]
     rw [w64 (by omega) (by omega)]
     omega
   unfold z4x
   refine zk (λh3=>?_) λh3=>?_
   ·rw [if_pos (hnew.2 h3)]
    refine zx (λq w'=>∃ z':Sl,q=(z',())/\Sat w' (slc T.a7 3 z' ((X.l++[(⟨o,p,X.late⟩:EntA)]).flatMap z4r)::pt b (.cells #[.int .i64 X.offset,.int .i64 X.place,.int .i64 X.late,.int .i64 X.gap,.slice z.a z.len z.cap] T.a8)::r)) ?_ ?_
    ·refine z0i hs λw' hs=>?_
     refine zy ?_
     refine z2c hs ?_
     refine zy ?_
     refine zd hs ?_
     refine z8v hs (enc:=z4r) [(⟨o,p,X.late⟩:EntA)] λy w' hs=>⟨(by first|trivial|(repeat (first|exact trivial|exact λ_=>z0w hs|exact λ_=>z15 hs|refine And.intro ?_ ?_))),?_⟩
     refine zm ?_
     refine wp_app' (xs:=X.l) (ys:=[(⟨o,p,X.late⟩:EntA)]) (enc:=z4r) hs (λz' w' hs=>?_) (by simp only [List.length_cons,List.length_nil];omega)
     refine zm ?_
     exact zj ⟨z',rfl,hs.sub⟩
    ·rintro _ w2 ⟨z',rfl,hs⟩
     refine zy ?_
     refine z0h hs λw' hs=>?_
     exact zj ⟨z',hs.sub⟩
   ·rw [if_neg λhh=>h3 (hnew.1 hh)]
    exact zj ⟨z,hs⟩
  rintro _ w2 ⟨z',hs⟩
  refine zy ?_
  refine zd hs ?_
  refine zy ?_
  have e:(if t>X.late then t else X.late)=max X.late t:=by split <;> omega
  rw [e]
  have hA:(Addr.add ⟨b,0,none⟩ 0)=⟨b,0,none⟩:=rfl
  rw [hA]
  refine z02e hs (by rfl) (by rfl) (by simp [Value.oneCell']) λw' hs=>⟨trivial,?_⟩
  refine ⟨rfl,rfl,?_⟩
  exact z87 ⟨o,p,max X.late t,X.gap,z4x X o p⟩ (z:=z') hok2 hs
theorem zzg (i:Int) (hi:i<X.l.length) [hf:Fo l z2v b X r] (hs:Sat w l) :
  Ret P F.a27 #[.pointer (some ⟨b,0,none⟩),.int .i64 i] w λvs w'=>vs=[.agg (z4r (if i<0 then ⟨0,0,0⟩ else X.l.getD i.toNat ⟨0,0,0⟩)).toArray,.bool (decide (0<=i))]/\Sat w' (z2v b X::r) :=
 zr1 _ i <| by
  unfold z01z
  have hs:=hs.perm hf.perm
  refine z05 hs λa w' hs=>?_
  refine zk (λh=>?_) λh=>?_
  ·refine z09 hs λw' hs=>?_
   refine z02 hs ?_
   rw [if_pos h]
   refine ⟨rfl,?_,hs.tail⟩
   rw [decide_eq_false (by omega)]
   rfl
  ·refine zy ?_
   obtain ⟨z,hok,hs⟩:=zey (hs.pick [1])
   refine zd hs ?_
   refine z23 hs (xs:=X.l) (enc:=z4r) i.toNat (by omega) ?_
   refine z09 hs λw' hs=>?_
   refine z02 hs ?_
   rw [if_neg h]
   refine ⟨rfl,?_,z87 X (z:=z) hok hs.sub⟩
   rw [decide_eq_true (by omega),List.getD_eq_getElem?_getD,List.getElem?_eq_getElem (by omega)]
   rfl
theorem zl7 (n : Nat) (hn : n < 4611686018427387904) (f : FuncId) (cap : Array Value) (p : Nat → Bool) (hok : (P.funcs[f]?).any (fun fn => fn.body.isSome && fn.name != "runtime.NumGoroutine") = true)
  (hp:∀ (i:Nat) (w:World),i<n->Sat w l->Ret P f (#[.int .i64 (i:Int)]++cap) w λvs w'=>vs=[.bool (p i)]/\Sat w' l) (hs:Sat w l) :
  Ret P F.a95 #[.int .i64 (n:Int),.func (.func f) #[] cap] w λvs w'=>∃ i:Nat,i<=n/\(0<i->p (i-1)=false)/\(i<n->p i=true)/\vs=[.int .i64 (i:Int)]/\Sat w' l :=
 zlo _ _ <| by
  unfold zx8
  refine wp_lt ?_
  refine zx (λq w'=>∃ i:Nat,i<=n/\(0<i->p (i-1)=false)/\(i<n->p i=true)/\q=((i:Int),())/\Sat w' l) ?_ ?_
  rotate_left
  ·rintro _ w' ⟨i,h1,h2,h3,rfl,hs⟩
   refine wp_lt ?_
   exact ⟨rfl,i,h1,h2,h3,rfl,hs⟩
  refine z0e (λm v w=>∃ i j:Nat,v=((i:Int),((j:Int),()))/\i<=j/\j<=n/\j-i=m/\(0<i->p (i-1)=false)/\(j<n->p j=true)/\Sat w l) n ⟨0,n,rfl,by omega,by omega,rfl,(λh=>by omega),(λh=>by omega),hs⟩ ?_
  clear hs
  rintro m _ w ⟨i,j,rfl,hij,hjn,hm,h1,h2,hs⟩
  refine zt ?_
  refine zk (λhc=>?_) λhc=>?_
  rotate_left
  ·have:i=j:=by omega
   subst this
   exact zv (zj ⟨i,hjn,h1,h2,rfl,hs⟩)
  have hc:i<j:=by omega
  have e:IntKind.wrap .i64 (Int.fdiv (IntKind.wrap .u64 (IntKind.wrap .i64 ((i:Int)+j))) 2)=(((i+j) / 2:Nat):Int):=by
   rw [w64 (x:=(i:Int)+j) (by omega) (by omega),zc2 (by omega) (by omega)]
   have:Int.fdiv ((i:Int)+j) 2=(((i+j) / 2:Nat):Int):=by
    rw [Int.fdiv_eq_ediv_of_nonneg _ (by omega)]
    omega
   rw [this,w64 (by omega) (by omega)]
  refine z1l (y:=(((i+j) / 2:Nat):Int)) ?_ e
  refine zts hok (p ((i+j) / 2),()) (hp ((i+j) / 2) w (by omega) hs) rfl λw' hs=>⟨trivial,?_⟩
  refine zt ?_
  refine z5h ?_
  refine zk (λh3=>?_) λh3=>?_
  ·have h3:p ((i+j) / 2)=false:=by simpa using h3
   refine z1l (y:=(((i+j) / 2+1:Nat):Int)) ?_ (by rw [w64 (by omega) (by omega)];omega)
   refine z4m ?_
   refine z0q (j-((i+j) / 2+1)) ⟨(i+j) / 2+1,j,rfl,by omega,hjn,rfl,λ_=>by rw [Nat.add_sub_cancel];exact h3,h2,hs⟩
  ·have h3:p ((i+j) / 2)=true:=by simpa using h3
   refine wp_lt ?_
   refine z4m ?_
   refine z0q ((i+j) / 2-i) ⟨i,(i+j) / 2,rfl,by omega,by omega,rfl,h1,λ_=>h3,hs⟩
theorem zzy (i:Nat) (a0 a1:Nat) (o:Int) {r1 r2:List HP} {z:Sl} (hi:i<X.l.length) [h0:FocB l a0 (.cells [.pointer (some ⟨b,0,none⟩)].toArray T.a15) r1] [h1:FocB l a1 (.cells [.int .i64 o].toArray T.a11) r2]
  [h2:FocB l b (.cells [.int .i64 X.offset,.int .i64 X.place,.int .i64 X.late,.int .i64 X.gap,.slice z.a z.len z.cap].toArray T.a8) r] [h3:FocR l z 3 (X.l.flatMap z4r)] (hs:Sat w l) :
  Ret P F.a25 #[.int .i64 (i:Int),.pointer (some ⟨a0,0,none⟩),.pointer (some ⟨a1,0,none⟩)] w λvs w'=>vs=[.bool (decide (X.l[i].offset>o))]/\Sat w' l :=
 zph _ _ _ <| by
  unfold z01m
  refine z0i hs λw' hs=>?_
  refine zd hs ?_
  refine zy ?_
  refine zd hs ?_
  refine zkf hs (xs:=X.l) (enc:=z4r) i hi ?_
  refine zd hs ?_
  refine wp_lt ?_
  refine zm ?_
  exact ⟨rfl,rfl,hs⟩
def orE (o:Option EntA):EntA:=o.getD ⟨0,0,0⟩
theorem zth {l:List EntA} {i:Nat} (hi:i<=l.length):(if ((i:Int)-1)<0 then (⟨0,0,0⟩:EntA) else l.getD ((i:Int)-1).toNat ⟨0,0,0⟩)=orE (l.take i).getLast? /\ decide (0<=(i:Int)-1)=(l.take i).getLast?.isSome:=by
 rw [ziu hi]
 by_cases h:i=0
 ·subst h;exact ⟨rfl,rfl⟩
 ·rw [if_neg h,if_neg (by omega),List.getD_eq_getElem?_getD,show ((i:Int)-1).toNat=i-1 by omega,List.getElem?_eq_getElem (by omega)]
  exact ⟨rfl,decide_eq_true (by omega)⟩
theorem z01e (o:Int) (hm:X.l.Pairwise λa b=>a.offset<b.offset) [hf:Fo l z2v b X r] (hs:Sat w l) :
  Ret P F.a24 #[.pointer (some ⟨b,0,none⟩),.int .i64 o] w λvs w'=>vs=[.agg (z4r (orE (z3j X.l o))).toArray,.bool (z3j X.l o).isSome]/\Sat w' (z2v b X::r) :=
 zqy _ o <| by
  unfold z02d
  have hs:=hs.perm hf.perm
  refine z0b hs λa0 w' hs=>?_
  refine z0b hs λa1 w' hs=>?_
  refine z05 hs λa2 w' hs=>?_
  refine zd hs ?_
  refine z0j ?_ (by simp)
  refine zx (λq w'=>q=((z3j X.l o).isSome,())/\Sat w' (pt a2 (.cells [.int .i64 (orE (z3j X.l o)).offset,.int .i64 (orE (z3j X.l o)).place,.int .i64 (orE (z3j X.l o)).before].toArray T.a7)::z2v b X::r)) ?_ ?_
  rotate_left
  ·rintro _ w2 ⟨rfl,hs⟩
   refine z02 hs ?_
   exact ⟨rfl,rfl,hs.tail⟩
  obtain ⟨z,hok,hs⟩:=zey (hs.pick [3])
  have hl:=hs.slen z (xs:=X.l) (enc:=z4r)
  have hlen:=hok.len
  have hpl:=hok.place
  refine z0i hs λw' hs=>?_
  refine z2c hs ?_
  refine zd hs ?_
  refine zy ?_
  refine zd hs ?_
  rw [hl]
  refine za (zl7 X.l.length (by omega) F.a25 #[.pointer (some ⟨a0,0,none⟩),.pointer (some ⟨a1,0,none⟩)] (λi=>decide ((X.l.getD i ⟨0,0,0⟩).offset>o)) (by kernel_rfl) (λi w hi hs=>?_) hs) λ_ w' hs=>?_
  ·have e:X.l.getD i ⟨0,0,0⟩=X.l[i]:=by rw [List.getD_eq_getElem?_getD,List.getElem?_eq_getElem hi];rfl
   simp only [e]
   exact zzy (X:=X) i a0 a1 o hi hs
  obtain ⟨i,hi,h1,h2,rfl,hs⟩:=hs
  refine ze ?_ (by first|trivial|(repeat (first|exact trivial|exact λ_=>z0w hs|exact λ_=>z15 hs|refine And.intro ?_ ?_)))
  refine zm ?_
  rw [w64 (by omega) (by omega)]
  replace hs:Sat _ (z2v b X::pt a2 (.cells [.int .i64 0,.int .i64 0,.int .i64 0].toArray T.a7)::pt a0 (.cells [.pointer (some ⟨b,0,none⟩)].toArray T.a15)::r):=z87 X (z:=z) hok hs.sub
  refine za (zzg (b:=b) ((i:Int)-1) (by omega) hs) λ_ w' hs=>?_
  obtain ⟨rfl,hs⟩:=hs
  have hcut:z3j X.l o=(X.l.take i).getLast? := by
   unfold z3j
   rw [zqa hi (hm.imp λ{a b} hab=>by simp only [decide_eq_true_eq];omega)]
   ·intro h h0
    have:=h1 h0
    rw [List.getD_eq_getElem?_getD,List.getElem?_eq_getElem h] at this
    have:decide (X.l[i-1].offset>o)=false:=this
    simpa using this
   ·intro h
    have:=h2 h
    rw [List.getD_eq_getElem?_getD,List.getElem?_eq_getElem h] at this
    have:decide (X.l[i].offset>o)=true:=this
    simpa using this
  obtain ⟨c1_,c2_⟩:=zth (l:=X.l) hi
  rw [c1_,c2_,<- hcut]
  refine ⟨((orE (z3j X.l o)).offset,(orE (z3j X.l o)).place,(orE (z3j X.l o)).before,(z3j X.l o).isSome,()),rfl,(by first|trivial|(repeat (first|exact trivial|exact λ_=>z0w hs|exact λ_=>z15 hs|refine And.intro ?_ ?_))),zw5 _ _ _ _ ?_⟩
  refine z09 hs λw' hs=>?_
  refine wp_lt ?_
  refine zm ?_
  exact zj ⟨rfl,hs.sub⟩
end
structure SegM where
 ix:Nat
 s:SegA
structure LogM where
 d:Nat
 pre:ByteArray
 seg:Int
 gap:Int
 z:Sl
 SM:List (Nat × SegM)
structure LogA where
 d:Nat
 pre:ByteArray
 seg:Int
 gap:Int
 l:List SegA
def LogM.l (M:LogM):List SegA:=M.SM.map λt=>t.2.s
def LogM.A (M:LogM):LogA:=⟨M.d,M.pre,M.seg,M.gap,M.l⟩
def z1x (b:Nat):List Value:=[.pointer (some ⟨b,0,none⟩)]
instance:Enc1 z1x .ptr (λb=>some ⟨b,0,none⟩):=⟨λ_=>rfl⟩
instance:EncN z1x 1:=⟨λ_=>rfl,by decide,by simp [z1x,Value.oneCell']⟩
def z11 (gap:Int) (a:Nat) (t:SegM):HP:=HP.star (pt a (.cells #[.pointer (some ⟨t.ix,0,none⟩),.int .i64 t.s.base,.int .i64 t.s.fin,.int .i64 (z0n t.s.bs),.int .i64 (z1t (-1) t.s.bs),.int .i64 (t.s.file.length:Nat)] T.a30)) (z2v t.ix (t.s.idx gap))
structure okM (gap seg:Int) (pre:ByteArray):Prop where
 gap:1<=gap/\gap<=4194304
 seg:64<=seg/\seg<=4194304
 pre:z5a pre=true
def lgQ (lg:Nat) (M:LogM):HP:=HP.and (okM M.gap M.seg M.pre) (HP.star (pt lg (.cells #[.pointer (some ⟨M.d,0,none⟩),.string M.pre,.int .i64 M.seg,.int .i64 M.gap,.slice M.z.a M.z.len M.z.cap] T.a29))
 (HP.star (slc T.a17 1 M.z ((M.SM.map Prod.fst).flatMap z1x)) (HP.all (M.SM.map λt=>z11 M.gap t.1 t.2))))
def lgP (lg:Nat) (A:LogA):HP:=HP.ex λM:LogM=>HP.and (M.A=A) (lgQ lg M)
def zu6:Option Nat->Option Addr
 | none=>none
 | some b=>some ⟨b,0,none⟩
section
variable {w:World} {l r:List HP} {lg:Nat} {M:LogM} {A:LogA} {gap:Int} {a:Nat} {t:SegM}
theorem z3x (hs:Sat w (z11 gap a t::l)):Sat w (pt a (.cells #[.pointer (some ⟨t.ix,0,none⟩),.int .i64 t.s.base,.int .i64 t.s.fin,.int .i64 (z0n t.s.bs),.int .i64 (z1t (-1) t.s.bs),.int .i64 (t.s.file.length:Nat)] T.a30)::z2v t.ix (t.s.idx gap)::l):=hs.star
theorem z2x (t:SegM) (hs:Sat w (pt a (.cells #[.pointer (some ⟨t.ix,0,none⟩),.int .i64 t.s.base,.int .i64 t.s.fin,.int .i64 (z0n t.s.bs),.int .i64 (z1t (-1) t.s.bs),.int .i64 (t.s.file.length:Nat)] T.a30)::z2v t.ix (t.s.idx gap)::l)):Sat w (z11 gap a t::l):=.star_mk hs
theorem z34 (hs:Sat w (lgQ lg M::l)):okM M.gap M.seg M.pre/\Sat w (pt lg (.cells #[.pointer (some ⟨M.d,0,none⟩),.string M.pre,.int .i64 M.seg,.int .i64 M.gap,.slice M.z.a M.z.len M.z.cap] T.a29)::slc T.a17 1 M.z ((M.SM.map Prod.fst).flatMap z1x)::HP.all (M.SM.map λt=>z11 M.gap t.1 t.2)::l):=by
 obtain ⟨h,hs⟩:=hs.and
 have hs:=hs.star
 exact ⟨h,((hs.pick [1]).star).pick [2]⟩
theorem z1v (M:LogM) (h:okM M.gap M.seg M.pre) (hs:Sat w (pt lg (.cells #[.pointer (some ⟨M.d,0,none⟩),.string M.pre,.int .i64 M.seg,.int .i64 M.gap,.slice M.z.a M.z.len M.z.cap] T.a29)::slc T.a17 1 M.z ((M.SM.map Prod.fst).flatMap z1x)::HP.all (M.SM.map λt=>z11 M.gap t.1 t.2)::l)):Sat w (lgQ lg M::l):=by
 refine .and_mk h (.star_mk ?_)
 exact ((hs.pick [1,1]).star_mk).pick [1]
theorem z7s (hs:Sat w (lgP lg A::l)):∃ M:LogM,M.A=A/\Sat w (lgQ lg M::l):=by
 obtain ⟨M,hs⟩:=hs.ex
 obtain ⟨h,hs⟩:=hs.and
 exact ⟨M,h,hs⟩
theorem z5k (M:LogM) (hs:Sat w (lgQ lg M::l)):Sat w (lgP lg M.A::l):=.ex_mk M (.and_mk rfl hs)
theorem zic:∀ (j n:Nat),z1q (j+1) n=z48 (n / 16 ^ j % 16)::z1q j n
 | 0,n=>by simp [z1q]
 | j+1,n=>by
  show z1q (j+1) (n / 16)++[z48 (n % 16)]=_
  rw [zic j (n / 16)]
  have e:n / 16 / 16 ^ j=n / 16 ^ (j+1):=by rw [Nat.div_div_eq_div_mul,Nat.pow_succ,Nat.mul_comm]
  rw [e]
  rfl
theorem z000 (k:Nat) (c:UInt8):∀ (xs:List UInt8),(List.replicate (k+1) (0:UInt8)++xs).set k c=List.replicate k 0++c::xs:=by
 induction k with
 | zero=>intro xs;rfl
 | succ k ih=>intro xs;rw [List.replicate_succ,List.cons_append,List.set_cons_succ,ih,List.replicate_succ,List.cons_append]
theorem z03m (n:Nat) (h:n<18446744073709551616):BitVec.toNat (BitVec.ofInt 64 (n:Int) &&& BitVec.ofInt 64 15)=n % 16:=by
 rw [BitVec.ofInt_natCast,BitVec.toNat_and,BitVec.toNat_ofNat,Nat.mod_eq_of_lt h]
 show n &&& 15=n % 16
 exact Nat.and_two_pow_sub_one_eq_mod n 4
theorem z02y {k:Nat} (h:k<16):bt (ByteArray.mk #[48,49,50,51,52,53,54,55,56,57,97,98,99,100,101,102]) (k:Int)=(((z48 k).toNat:Nat):Int):=by
 have:∀ k:Fin 16,bt (ByteArray.mk #[48,49,50,51,52,53,54,55,56,57,97,98,99,100,101,102]) (k.val:Int)=(((z48 k.val).toNat:Nat):Int):=by decide +kernel
 exact this ⟨k,h⟩
theorem z024 {P:Program} {t el:TypeId} {bytes:Nat} {Q:Post} {S:World->Prop} {k:Sl->Prog} [ht:SlT P t el 1 bytes] [hz:Zer P el (.int .u8 0)] (n:Nat) (hs:Sat w l) (h:∀ x w',Sat w' (slc el 1 x ((List.replicate n (0:UInt8)).flatMap zg)::l)->(k x).wp P S w' Q) (hb:n*bytes<=281474976710656/\n<=9223372036854775807) (hS:∀ w',S w':=by exact λ_=>trivial) :
  (Prog.act (Instr.makeSlice t (.int .i64 (n:Int)) (.int .i64 (n:Int))) sL (u1 k)).wp P S w Q:=by
 obtain ⟨i,z,hi,h2,h3,h4,h5⟩:=ht.parts
 have hz':z=.int .u8 0:=by
  have:=hz.ok
  unfold z9d at this
  rw [hi] at this
  simp only at this
  rw [h4] at this
  exact Option.some.inj this
 have hrun:=run_make (P:=P) w t el i z ht.ok.1 hi h4 .i64 .i64 n n (by omega) (Int.le_refl _) (by rw [h3,<- Int.natCast_mul,Nat.mul_comm];omega) (by omega)
 simp only [Int.toNat_natCast] at hrun
 have hp:=hs.push (o:=.cells (madeCells z.cells (n*i.size)) el) (w':=w.alloc (.cells (madeCells z.cells (n*i.size)) el)) rfl
 refine ⟨(⟨some ⟨w.heap.size,0,none⟩,n,n⟩,()),_,hrun,hS _,h ⟨some ⟨w.heap.size,0,none⟩,n,n⟩ _ ?_⟩
 refine hp.imp λp hp=>.inr ⟨w.heap.size,0,_,_,rfl,hp,by rw [z3s,List.length_replicate],Nat.le_refl _,by rw [size_madeCells,h2];simp,λj hj=>?_,z2z _ _⟩
 rw [z3s,List.length_replicate,Nat.mul_one] at hj
 rw [h2,Nat.mul_one,Nat.zero_add,z9z,hz']
 have e1:(madeCells (Value.int .u8 0).cells n)[j]? = some (.int .u8 0):=by
  rw [Array.getElem?_eq_getElem (by rw [size_madeCells];exact hj)]
  simp [madeCells,Value.cells,Nat.mod_one]
 rw [e1,List.getElem?_map,List.getElem?_replicate,if_pos hj]
 rfl
theorem z7r (base:Int) (h:0<=base/\base<17592186044416) (x:ByteArray) (hx:x.size<=100) {d_:Value} {seg gp:Value} {zz:Value} (pre:ByteArray) (hp:pre.size<=100) [hf:FocB l lg (.cells [d_,.string pre,seg,gp,zz].toArray T.a29) r] (hs:Sat w l) :
  Ret P F.a64 #[.pointer (some ⟨lg,0,none⟩),.int .i64 base,.string x] w λvs w'=>vs=[.string (zi pre base (bl x))]/\Sat w' l :=
 zrz _ base x <| by
  unfold z03d
  refine z024 11 hs (λz w' hs=>?_) (by omega)
  refine zx (λ_ w'=>Sat w' (slc T.a38 1 z ((z1q 11 base.toNat).flatMap zg)::l)) ?_ ?_
  ·refine z0e (λm v w=>∃ j:Nat,v=(((base.toNat / 16 ^ j:Nat):Int),((10-(j:Int)),()))/\j<=11/\11-j=m/\Sat w (slc T.a38 1 z ((List.replicate (11-j) 0++z1q j base.toNat).flatMap zg)::l)) 11 ⟨0,by rw [Nat.pow_zero,Nat.div_one,Int.toNat_of_nonneg h.1];rfl,by omega,rfl,by simpa [z1q] using hs⟩ ?_
   clear hs
   rintro m _ w ⟨j,rfl,hj,hm,hs⟩
   refine zt ?_
   refine zk (λhc=>?_) λhc=>?_
   rotate_left
   ·have:j=11:=by omega
    subst this
    exact zv (zj (by simpa using hs))
   have hj2:j<=10:=by omega
   have hb:base.toNat / 16 ^ j<18446744073709551616:=by
    have:=Nat.div_le_self base.toNat (16 ^ j)
    omega
   have hmod:=Nat.mod_lt (base.toNat / 16 ^ j) (show 0<16 by omega)
   rw [z03m _ hb,w64 (by omega) (by omega)]
   refine wp_must (by omega) ?_
   rw [z02y hmod]
   refine z02h hs (xs:=List.replicate (11-j) 0++z1q j base.toNat) (enc:=zg) (10-j) (by rw [List.length_append,List.length_replicate];omega) (z48 (base.toNat / 16 ^ j % 16)) λw' hs=>?_
   refine z1l (y:=((base.toNat / 16 ^ (j+1):Nat):Int)) ?_ ?_
   ·refine z1l (y:=10-((j+1:Nat):Int)) ?_ (by rw [w64 (by omega) (by omega)];omega)
    refine z0q (11-(j+1)) ⟨j+1,rfl,by omega,rfl,?_⟩
    have e:=z000 (10-j) (z48 (base.toNat / 16 ^ j % 16)) (z1q j base.toNat)
    rw [show 10-j+1=11-j by omega] at e
    rw [e,<- zic] at hs
    rw [show 11-(j+1)=10-j by omega]
    exact hs
   ·rw [z74 _ (by omega)]
    show ((base.toNat / 16 ^ j / 16:Nat):Int)=_
    rw [Nat.div_div_eq_div_mul,<- Nat.pow_succ]
  clear hs
  rintro _ w hs
  refine zt ?_
  refine z0i hs λw' hs=>?_
  refine zy ?_
  refine zd hs ?_
  refine wp_must (by omega) ?_
  refine z93 (bs:=z1q 11 base.toNat) hs ?_
  have h11:=z3g 11 base.toNat
  have s1:(pre++ByteArray.mk #[45]).size=pre.size+1:=ByteArray.size_append ..
  have s2:(ByteArray.mk (z1q 11 base.toNat).toArray).size=11:=h11
  refine wp_must (by omega) ?_
  have s3:(pre++ByteArray.mk #[45]++ByteArray.mk (z1q 11 base.toNat).toArray).size=pre.size+12:=by rw [ByteArray.size_append,s1,s2]
  refine wp_must (by omega) ?_
  refine wp_lt ?_
  refine zm ?_
  refine ⟨rfl,?_,hs.tail⟩
  congr 2
  apply z9j
  rw [z4i]
  unfold bl
  simp only [ByteArray.data_append,Array.toList_append,List.append_assoc]
  rfl
theorem z04a {a d:Nat} (hd:d<16) (ha:a<576460752303423488):BitVec.toNat (BitVec.ofInt 64 ((a:Int)*16) ||| BitVec.ofInt 64 (d:Int))=16*a+d:=by
 have e:(a:Int)*16=((16*a:Nat):Int):=by omega
 rw [e,BitVec.ofInt_natCast,BitVec.ofInt_natCast,BitVec.toNat_or,BitVec.toNat_ofNat,BitVec.toNat_ofNat,Nat.mod_eq_of_lt (show 16*a<2 ^ 64 by omega),Nat.mod_eq_of_lt (show d<2 ^ 64 by omega)]
 exact (Nat.two_pow_add_eq_or_of_lt (i:=4) hd a).symm
theorem zgt:∀ {r:List UInt8} {x v k:Nat},z4b x r=some v->x<16 ^ k->v<16 ^ (k+r.length)
 | [],x,v,k,h,hx=>by simp [z4b] at h;subst h;simpa using hx
 | c::r,x,v,k,h,hx=>by
  unfold z4b at h
  cases hd:z6f c with
  | none=>rw [hd] at h;cases h
  | some d =>
   rw [hd] at h
   have hd:=(z02u hd).2
   have:=zgt (k:=k+1) h (by rw [Nat.pow_succ];omega)
   rw [List.length_cons,show k+(r.length+1)=k+1+r.length by omega]
   exact this
theorem zbl (s:ByteArray) (i j:Nat):bl (s.extract i j)=((bl s).drop i).take (j-i):=by
 unfold bl
 rw [ByteArray.data_extract,Array.toList_extract,List.extract_eq_take_drop]
theorem znp (n x:ByteArray) (hn:n.size<=1000) (hx:x.size<=100) {d_:Value} {seg gp:Value} {zz:Value} (pre:ByteArray) (hp:pre.size<=100) [hf:FocB l lg (.cells [d_,.string pre,seg,gp,zz].toArray T.a29) r] (hs:Sat w l) :
  Ret P F.a59 #[.pointer (some ⟨lg,0,none⟩),.string n,.string x] w λvs w'=>vs=[.int .i64 (((z1j pre n (bl x)).getD 0:Nat):Int),.bool (z1j pre n (bl x)).isSome]/\Sat w' l :=
 zr4 _ n x <| by
  unfold z03j
  refine zy ?_
  refine zd hs ?_
  have e1:IntKind.wrap .i64 (((ByteArray.size pre:Nat):Int)+1)=((pre.size+1:Nat):Int):=by rw [w64 (by omega) (by omega)];omega
  have e2:IntKind.wrap .i64 (((pre.size+1:Nat):Int)+11)=((pre.size+12:Nat):Int):=by rw [w64 (by omega) (by omega)];omega
  have e3:IntKind.wrap .i64 (((pre.size+12:Nat):Int)+((ByteArray.size x:Nat):Int))=((pre.size+12+x.size:Nat):Int):=by rw [w64 (by omega) (by omega)];omega
  rw [e1]
  refine wp_lt ?_
  rw [e2,e3]
  refine wp_must ?_ ?_
  ·intro h
   have h:((n.size:Nat):Int)=((pre.size+12+x.size:Nat):Int):=by simpa using h
   omega
  have hb:z1j pre n (bl x)=if n.size=pre.size+12+x.size/\(bl n).drop (pre.size+12)=bl x then z4b 0 (((bl n).drop (pre.size+1)).take 11) else none:=by
   unfold z1j
   rw [z14,z14,z14]
  refine zk (λh=>?_) λh=>?_
  ·have:z1j pre n (bl x)=none:=by
    rw [hb,if_neg]
    rintro ⟨h1,h2⟩
    rcases h with h|h
    ·apply h;rw [h1]
    ·apply h
     rw [Int.toNat_natCast]
     apply z9j
     rw [zbl,h2,List.take_of_length_le]
     rw [z14];omega
   rw [this]
   exact ⟨rfl,rfl,hs⟩
  have h1:n.size=pre.size+12+x.size:=by
   have:¬ (((n.size:Nat):Int)≠((pre.size+12+x.size:Nat):Int)):=λhh=>h (.inl hh)
   omega
  have h2:(bl n).drop (pre.size+12)=bl x:=by
   have h3:ByteArray.extract n (pre.size+12) n.size=x:=by
    apply Decidable.byContradiction
    intro hh
    exact h (.inr (by rw [Int.toNat_natCast];exact hh))
   rw [<- h3,zbl,List.take_of_length_le]
   rw [List.length_drop,z14];omega
  rw [if_pos ⟨h1,h2⟩] at hb
  refine wp_must (by omega) ?_
  rw [Int.toNat_natCast,Int.toNat_natCast]
  have h4:(ByteArray.extract n (pre.size+1) (pre.size+12)).data.toList=((bl n).drop (pre.size+1)).take 11:=by
   have:=zbl n (pre.size+1) (pre.size+12)
   rw [show pre.size+12-(pre.size+1)=11 by omega] at this
   exact this
  refine zkx hs λy w' hs=>?_
  rw [h4] at hs
  generalize hcs:((bl n).drop (pre.size+1)).take 11=cs at *
  have hcl:cs.length=11:=by rw [<- hcs,List.length_take,List.length_drop,z14];omega
  have hl:=hs.slen y (xs:=cs) (enc:=zg)
  rw [hb]
  refine zx (λq w'=>∃ v:Nat,z4b 0 cs=some v/\q=((v:Int),())/\Sat w' l) ?_ ?_
  rotate_left
  ·rintro _ w2 ⟨v,hv,rfl,hs⟩
   refine wp_lt ?_
   rw [hv]
   exact ⟨rfl,rfl,hs⟩
  refine z0e (λm q w=>∃ i v:Nat,q=((v:Int),((i:Int),()))/\i<=11/\11-i=m/\z4b 0 (cs.take i)=some v/\Sat w (slc T.a38 1 y (cs.flatMap zg)::l)) 11 ⟨0,0,rfl,by omega,rfl,rfl,hs⟩ ?_
  clear hs
  rintro m _ w ⟨i,v,rfl,hi,hm,hv,hs⟩
  refine zt ?_
  refine zk (λhc=>?_) λhc=>?_
  rotate_left
  ·refine zv (zj ⟨v,?_,rfl,hs.tail⟩)
   rwa [List.take_of_length_le (by omega)] at hv
  have hil:i<cs.length:=by omega
  have hvl:=zgt (k:=0) hv (by omega)
  rw [List.length_take] at hvl
  have hvl2:v<1152921504606846976 / 16:=by
   have h5:16 ^ (0+min i cs.length)<=16 ^ 10:=Nat.pow_le_pow_right (by omega) (by omega)
   omega
  have hstep:z4b 0 (cs.take (i+1))=(z6f cs[i]).map λd=>16*v+d:=by
   rw [List.take_succ_eq_append_getElem hil,zfj,hv]
   show z4b v [cs[i]]=_
   unfold z4b
   cases z6f cs[i] <;> rfl
  have hcut:∀ j,z4b 0 (cs.take j)=none->z4b 0 cs=none:=λj hj=>by
   rw [<- List.take_append_drop j cs,zfj,hj];rfl
  refine z24 hs (xs:=cs) (enc:=zg) i hil ?_
  refine wp_lt ?_
  refine wp_lt ?_
  have hgo:∀ {w:World} (d:Nat),z6f cs[i]=some d->Sat w (slc T.a38 1 y (cs.flatMap zg)::l)->∃ i' v':Nat,((((16*v+d:Nat):Int),(((i+1:Nat):Int),())):Int × Int × Unit)=((v':Int),((i':Int),()))/\i'<=11/\11-i'=11-(i+1)/\z4b 0 (cs.take i')=some v'/\Sat w (slc T.a38 1 y (cs.flatMap zg)::l):=λd hd hs =>
   ⟨i+1,16*v+d,rfl,by omega,rfl,by rw [hstep,hd];rfl,hs⟩
  have hcb:=(cs[i]).toNat_lt
  have ei:IntKind.wrap .i64 ((i:Int)+1)=((i+1:Nat):Int):=by rw [w64 (by omega) (by omega)];omega
  refine zx (λq w'=>∃ d:Nat,z6f cs[i]=some d/\q=(((16*v+d:Nat):Int),())/\Sat w' (slc T.a38 1 y (cs.flatMap zg)::l)) ?_ ?_
  rotate_left
  ·rintro _ w2 ⟨d,hd,rfl,hs⟩
   rw [ei]
   exact z0q (11-(i+1)) (hgo d hd hs)
  have hor:∀ d:Nat,d<16->IntKind.wrap .i64 (((BitVec.toNat (BitVec.ofInt 64 (IntKind.wrap .i64 ((v:Int)*16)) ||| BitVec.ofInt 64 (d:Int)):Nat):Int))=((16*v+d:Nat):Int):=λd hd=>by
   rw [w64 (x:=(v:Int)*16) (by omega) (by omega),z04a hd (by omega),w64 (by omega) (by omega)]
  refine zk (λh5=>?_) λh5=>?_
  ·have hd:z6f cs[i]=some ((cs[i]).toNat-48):=by unfold z6f;rw [if_pos (by omega)]
   have e5:IntKind.wrap .i64 (IntKind.wrap .u8 ((((cs[i]).toNat:Nat):Int)-48))=(((cs[i]).toNat-48:Nat):Int):=by
    rw [wu8 (by omega) (by omega),w64 (by omega) (by omega)];omega
   rw [e5]
   refine z1l (y:=((16*v+((cs[i]).toNat-48):Nat):Int)) ?_ (hor _ (by omega))
   exact zj ⟨_,hd,rfl,hs⟩
  refine wp_lt ?_
  refine zk (λh6=>?_) λh6=>?_
  ·have hd:z6f cs[i]=some ((cs[i]).toNat-87):=by unfold z6f;rw [if_neg (by omega),if_pos (by omega)]
   have e5:IntKind.wrap .i64 (IntKind.wrap .u8 (IntKind.wrap .u8 ((((cs[i]).toNat:Nat):Int)-97)+10))=(((cs[i]).toNat-87:Nat):Int):=by
    rw [wu8 (x:=(((cs[i]).toNat:Nat):Int)-97) (by omega) (by omega),wu8 (by omega) (by omega),w64 (by omega) (by omega)];omega
   rw [e5]
   refine z1l (y:=((16*v+((cs[i]).toNat-87):Nat):Int)) ?_ (hor _ (by omega))
   exact zj ⟨_,hd,rfl,hs⟩
  ·have hd:z6f cs[i]=none:=by unfold z6f;rw [if_neg (by omega),if_neg (by omega)]
   have hno:z4b 0 cs=none:=hcut (i+1) (by rw [hstep,hd];rfl)
   rw [hno]
   exact zv (zv (zv ⟨rfl,rfl,hs.tail⟩))
theorem zl4 (base fin:Int) (hb:0<=base/\base<9223372036854775808) (hf:0<=fin/\fin<9223372036854775808) (hs:Sat w l):Ret P F.a72 #[.int .i64 base,.int .i64 fin] w λvs w'=>∃ z:Sl,vs=[z.v]/\Sat w' (slc T.a38 1 z ((shL base fin).flatMap zg)::l) :=
 zrh base fin <| by
  unfold z022
  refine z8x hs (enc:=zg) [(83:UInt8)] λz1 w' hs=>?_
  refine za (z5j base hb hs) λ_ w' hs=>?_
  obtain ⟨z2,rfl,hs⟩:=hs
  refine ze ?_
  refine za (z5j fin hf hs) λ_ w' hs=>?_
  obtain ⟨z3,rfl,hs⟩:=hs
  refine ze ?_
  refine z8x hs (enc:=z0r) [z1,z2,z3] λz4 w' hs=>?_
  have u1_:=z1c base
  have u2_:=z1c fin
  have f1:FocR (slc T.a27 1 z4 ([z1,z2,z3].flatMap z0r)::slc T.a38 1 z3 ((uI fin).flatMap zg)::slc T.a38 1 z2 ((uI base).flatMap zg)::slc T.a38 1 z1 (([83]:List UInt8).flatMap zg)::l) z1 1 (([83]:List UInt8).flatMap zg):=inferInstance
  have f2:FocR (slc T.a27 1 z4 ([z1,z2,z3].flatMap z0r)::slc T.a38 1 z3 ((uI fin).flatMap zg)::slc T.a38 1 z2 ((uI base).flatMap zg)::slc T.a38 1 z1 (([83]:List UInt8).flatMap zg)::l) z2 1 ((uI base).flatMap zg):=inferInstance
  have f3:FocR (slc T.a27 1 z4 ([z1,z2,z3].flatMap z0r)::slc T.a38 1 z3 ((uI fin).flatMap zg)::slc T.a38 1 z2 ((uI base).flatMap zg)::slc T.a38 1 z1 (([83]:List UInt8).flatMap zg)::l) z3 1 ((uI fin).flatMap zg):=inferInstance
  refine za (zo4 z4 [(z1,[83]),(z2,uI base),(z3,uI fin)] (λp hp=>?_) (by show 3<=1000000;omega) hs) λ_ w' hs=>?_
  ·simp only [List.mem_cons,List.not_mem_nil,or_false] at hp
   rcases hp with rfl|rfl|rfl
   ·exact ⟨f1,by show (1:Nat)<=_;omega⟩
   ·exact ⟨f2,by show (uI base).length<=_;omega⟩
   ·exact ⟨f3,by show (uI fin).length<=_;omega⟩
  obtain ⟨z5,rfl,hs⟩:=hs
  refine ze ?_
  refine ⟨rfl,z5,rfl,?_⟩
  have e:([(z1,[83]),(z2,uI base),(z3,uI fin)]:List (Sl × List UInt8)).flatMap Prod.snd=shB base fin:=by simp [shB]
  rw [e] at hs
  have hs:Sat _ (slc T.a38 1 z5 ((shL base fin).flatMap zg)::_):=hs
  exact hs.sub
theorem zuc (x:Sl) (body:List UInt8) (base:Int) (hb:0<=base/\base<9223372036854775808) [hx:FocR l x 1 (body.flatMap zg)] (hn:body.length<=1000000000) (hs:Sat w l) :
  Ret P F.a73 #[x.v,.int .i64 base] w λvs w'=>∃ v:Int,vs=[.int .i64 v,.bool (z3p base body).isSome]/\(∀ f,z3p base body=some f->v=f)/\Sat w' l :=
 zs4 x base <| by
  unfold z00u
  refine za (zse x body hn hs) λ_ w' hs=>?_
  obtain ⟨p,rfl,hs⟩:=hs
  refine ze ?_
  refine za (zgp (p:=p) hs) λ_ _ hs=>?_
  obtain ⟨rfl,hs⟩:=hs
  refine ze ?_
  refine za (zgx (p:=p) hs) λ_ _ hs=>?_
  obtain ⟨rfl,hs⟩:=hs
  refine ze ?_
  refine za (zgx (p:=p) hs) λ_ _ hs=>?_
  obtain ⟨rfl,hs⟩:=hs
  refine ze ?_
  refine wp_lt ?_
  refine wp_lt ?_
  refine wp_lt ?_
  refine za (zsm (p:=p) hs) λ_ w' hs=>?_
  obtain ⟨e,rfl,he,hs⟩:=hs
  refine ze ?_
  have eh:z3p base body=if (z08 (z08 (z0m (some body)).2).2).2=some []/\(z0m (some body)).1=83/\((z08 (z0m (some body)).2).1:Int)=base/\base<=1099511627776/\(z08 (z08 (z0m (some body)).2).2).1<=1099511627776/\((z08 (z08 (z0m (some body)).2).2).1=0\/base<(z08 (z08 (z0m (some body)).2).2).1) then some ((z08 (z08 (z0m (some body)).2).2).1:Int) else none:=rfl
  generalize z3p base body=HS at eh he ⊢
  generalize z0m (some body)=k at eh he ⊢
  generalize z08 k.2=m at eh he ⊢
  generalize z08 m.2=q at eh he ⊢
  have ew:IntKind.wrap .u64 base=base:=zc2 (by omega) (by omega)
  rw [ew]
  refine zk (λh=>?_) λh=>?_
  ·have:HS=none:=by
    rw [eh,if_neg]
    rintro ⟨h1,h2,h3,h4,h5,-⟩
    have h6:=he.2 h1
    rcases h with (((h|h)|h)|h)|h
    ·exact h h6
    ·apply h;rw [h2];rfl
    ·exact h h3
    ·omega
    ·omega
   rw [this]
   exact ⟨rfl,0,rfl,(λf hf=>by cases hf),hs⟩
  have h1:q.2=some []:=he.1 (Decidable.byContradiction λhh=>h (.inl (.inl (.inl (.inl hh)))))
  have h2:k.1=83:=by
   have:((k.1:Nat):Int)=83:=Decidable.byContradiction λhh=>h (.inl (.inl (.inl (.inr hh))))
   omega
  have h3:((m.1:Nat):Int)=base:=Decidable.byContradiction λhh=>h (.inl (.inl (.inr hh)))
  have h4:base<=1099511627776:=by
   apply Decidable.byContradiction;intro hh;exact h (.inl (.inr (by omega)))
  have h5:q.1<=1099511627776:=by
   apply Decidable.byContradiction;intro hh;exact h (.inr (by omega))
  rw [w64 (by omega) (by omega)]
  refine wp_lt ?_
  refine wp_lt ?_
  refine ⟨rfl,((q.1:Nat):Int),?_,?_,hs⟩
  ·congr 2
   rw [eh]
   by_cases h6:q.1=0\/base<q.1
   ·rw [if_pos ⟨h1,h2,h3,h4,h5,h6⟩]
    have:(((q.1:Nat):Int) == 0 || decide (((q.1:Nat):Int)>base))=true:=by
     rw [Bool.or_eq_true,beq_iff_eq,decide_eq_true_eq];omega
    rw [this];rfl
   ·rw [if_neg λhh=>h6 hh.2.2.2.2.2]
    have:(((q.1:Nat):Int) == 0 || decide (((q.1:Nat):Int)>base))=false:=by
     rw [Bool.or_eq_false_iff,beq_eq_false_iff_ne,decide_eq_false_iff_not];omega
    rw [this];rfl
  ·intro f hf
   rw [eh] at hf
   split at hf
   ·exact Option.some.inj hf
   ·cases hf
theorem zs7 (x:Int) (rs:List RecM) (i:Nat) (hi:i<rs.length):z5z x (rs.take (i+1))=max (z5z x (rs.take i)) rs[i].time:=by
 rw [List.take_succ_eq_append_getElem hi]
 unfold z5z
 rw [List.foldl_append]
 rfl
theorem zvv (b:BatM) [hb:FocR l b.x 4 (b.rs.flatMap z03)] (hlen:b.rs.length<=1000000000) (hs:Sat w l):Ret P F.a74 #[.agg (zw b).toArray] w λvs w'=>vs=[.int .i64 (z3i b)]/\Sat w' l :=
 zr8 b.base b.pid b.epoch b.seq b.kind b.time b.x <| by
  unfold z015
  have hl:=hs.slen b.x (xs:=b.rs) (enc:=z03)
  refine z0b hs λa0 w' hs=>?_
  refine zd hs ?_
  refine zx (λq w'=>q=(z5z (-1) b.rs,())/\Sat w' (pt a0 (.cells (cB b) T.a1)::l)) ?_ ?_
  ·refine z0e (λm v w=>∃ i:Nat,v=(z5z (-1) (b.rs.take i),((i:Int),()))/\i<=b.rs.length/\b.rs.length-i=m/\Sat w (pt a0 (.cells (cB b) T.a1)::l)) b.rs.length ⟨0,rfl,by omega,rfl,hs⟩ ?_
   clear hs
   rintro m _ w ⟨i,rfl,hi,hm,hs⟩
   refine zt ?_
   refine zk (λhc=>?_) λhc=>?_
   rotate_left
   ·refine zv (zj ⟨?_,hs⟩)
    rw [List.take_of_length_le (by omega)]
   have hil:i<b.rs.length:=by omega
   refine z23 hs (xs:=b.rs) (enc:=z03) i hil ?_
   refine z05 hs λc w' hs=>?_
   refine z09 hs λw' hs=>?_
   refine zd hs ?_
   refine z1l (y:=z5z (-1) (b.rs.take (i+1))) ?_ (by rw [zs7 _ _ _ hil];split <;> omega)
   rw [wS (i:=i) (by omega)]
   exact z0q (b.rs.length-(i+1)) ⟨i+1,rfl,by omega,rfl,hs.sub⟩
  clear hs
  rintro _ w ⟨rfl,hs⟩
  refine zt ?_
  refine zd hs ?_
  refine zx (λq w'=>q=(z3i b,())/\Sat w' (pt a0 (.cells (cB b) T.a1)::l)) ?_ ?_
  ·unfold z3i
   refine zk (λh=>?_) λh=>?_
   ·refine zd hs ?_
    refine wp_lt ?_
    refine zj ⟨?_,hs⟩
    rw [if_pos (List.length_eq_zero_iff.1 (by omega))]
   ·refine zj ⟨?_,hs⟩
    rw [if_neg (by rintro h0;rw [h0] at hl;simp at hl;omega)]
  rintro _ w2 ⟨rfl,hs⟩
  refine wp_lt ?_
  exact ⟨rfl,rfl,hs.tail⟩
theorem z01l (seg gap:Int) (hs:Sat w l):Ret P F.a75 #[.agg #[.int .i64 seg,.int .i64 gap]] w λvs w'=>vs=[.bool (decide ((64<=seg/\seg<=4194304)/\(1<=gap/\gap<=4194304)))]/\Sat w' l :=
 zq8 seg gap <| by
  unfold z005
  refine z0b hs λa0 w' hs=>?_
  refine zd hs ?_
  refine zd hs ?_
  refine zd hs ?_
  refine zd hs ?_
  refine wp_lt ?_
  refine ⟨rfl,?_,hs.tail⟩
  congr 2
  rw [Bool.eq_iff_iff,decide_eq_true_iff]
  simp only [Bool.and_eq_true,decide_eq_true_eq]
  omega
theorem zvj (s:ByteArray) (hs:Sat w l):Ret P F.a71 #[.string s] w λvs w'=>vs=[.bool (z5a s)]/\Sat w' l :=
 zq2 s <| by
  unfold z02k
  unfold z5a
  refine zk (λh=>?_) λh=>?_
  ·rw [decide_eq_false (by omega),Bool.false_and]
   exact ⟨rfl,rfl,hs⟩
  rw [decide_eq_true (by omega),Bool.true_and]
  refine zkx hs λx w' hs=>?_
  have hl:=hs.slen x (xs:=bl s) (enc:=zg)
  have hsz:=z14 s
  refine zx (λ_ w'=>((bl s).all λc=>(97<=c.toNat && c.toNat<=122) || (48<=c.toNat && c.toNat<=57))=true/\Sat w' l) ?_ ?_
  rotate_left
  ·rintro _ w2 ⟨h2,hs⟩
   rw [h2]
   exact ⟨rfl,rfl,hs⟩
  refine z0e (λm v w=>∃ i:Nat,v=((i:Int),())/\i<=(bl s).length/\(bl s).length-i=m/\(((bl s).take i).all λc=>(97<=c.toNat && c.toNat<=122) || (48<=c.toNat && c.toNat<=57))=true/\Sat w (slc T.a38 1 x ((bl s).flatMap zg)::l)) (bl s).length ⟨0,rfl,by omega,rfl,rfl,hs⟩ ?_
  clear hs
  rintro m _ w ⟨i,rfl,hi,hm,hall,hs⟩
  refine zt ?_
  refine zk (λhc=>?_) λhc=>?_
  rotate_left
  ·refine zv (zj ⟨?_,hs.tail⟩)
   rwa [List.take_of_length_le (by omega)] at hall
  have hil:i<(bl s).length:=by omega
  refine z24 hs (xs:=bl s) (enc:=zg) i hil ?_
  refine wp_lt ?_
  have hstep:(((bl s).take (i+1)).all λc=>(97<=c.toNat && c.toNat<=122) || (48<=c.toNat && c.toNat<=57))=((97<=(bl s)[i].toNat && (bl s)[i].toNat<=122) || (48<=(bl s)[i].toNat && (bl s)[i].toNat<=57)):=by
   rw [List.take_succ_eq_append_getElem hil,List.all_append,hall]
   simp
  refine zgi (λh3=>?_) λh3=>?_
  ·refine zv (zv ⟨rfl,?_,hs.tail⟩)
   have hf:((97<=(bl s)[i].toNat && (bl s)[i].toNat<=122) || (48<=(bl s)[i].toNat && (bl s)[i].toNat<=57))=false:=by
    rw [Bool.eq_false_iff]
    intro hh
    simp only [Bool.not_eq_true',Bool.or_eq_false_iff,Bool.and_eq_false_iff,decide_eq_false_iff_not] at h3
    simp only [Bool.or_eq_true,Bool.and_eq_true,decide_eq_true_eq] at hh
    omega
   have:((bl s).all λc=>(97<=c.toNat && c.toNat<=122) || (48<=c.toNat && c.toNat<=57))=false:=by
    rw [<- List.take_append_drop (i+1) (bl s),List.all_append,hstep,hf]
    rfl
   rw [this]
  ·rw [wS (i:=i) (by omega)]
   refine z0q ((bl s).length-(i+1)) ⟨i+1,rfl,by omega,rfl,?_,hs⟩
   rw [hstep]
   simp only [Bool.not_eq_false',Bool.or_eq_true,Bool.and_eq_true,decide_eq_true_eq] at h3
   simp only [Bool.or_eq_true,Bool.and_eq_true,decide_eq_true_eq]
   omega
end
instance (priority:=low) AddrIs.adds {a:Addr} {b off n:Nat} [h:AddrIs a b off]:AddrIs (a.add n) b (off+n):=⟨by rw [h.ok,z3m]⟩
section
variable {P:Program} {w:World} {Q:Post} {S:World->Prop}
theorem zro {g:Prop} {o:Option Addr} {f:Addr->Prog} (h:(f ⟨0,0,none⟩).wp P S w Q) (hg:¬ g):(Prog.ex [.adr] (c1 λx=>g->o=some x) (u1 f)).wp P S w Q:=⟨(⟨0,0,none⟩,()),λh=>absurd h hg,h⟩
theorem z7z {g:Prop} {m:Sem Value} {p:Pr} {f:p.D->Prog} (x:p.D) (hg:¬ g) (h:(f x).wp P S w Q):(Prog.read g m (.one (.one p)) (u1 f)).wp P S w Q:=⟨(x,()),λh=>absurd h hg,h⟩
end
def SegA.add (s:SegA) (bs:List BatM):SegA:=⟨s.base,s.fin,s.bs++bs.map BatM.p⟩
theorem zgl (s:SegA):s.add []=s:=by unfold SegA.add;simp
theorem add_add (s:SegA) (a b:List BatM):(s.add a).add b=s.add (a++b):=by unfold SegA.add;simp
theorem zle (bs:List BatM):(bs.map BatM.p).flatMap frL=bs.flatMap frL:=by
 rw [List.flatMap_map];rfl
theorem z70 (s:SegA) (bs:List BatM):(s.add bs).file=s.file++bs.flatMap frL:=by
 unfold SegA.file SegA.add
 simp only [List.flatMap_append,zle,List.append_assoc]
theorem zzm (gap:Int) (s:SegA) (b:BatM):(s.add [b]).idx gap=(z9t (s.idx gap) b.base (s.file.length:Nat) (z3i b)).2:=by
 unfold SegA.idx SegA.add
 show zbu (zcy gap) _ (s.bs++[b.p])=_
 rw [zdj,z2n]
 rw [show ((((shL s.base s.fin).length+(s.bs.flatMap frL).length:Nat)):Int)=((shL s.base s.fin).length:Int)+((s.bs.flatMap frL).length:Int) by omega]
 rfl
theorem z5w {α β:Type} (f:α->β) (l:List α):(l.map f).getLast? = l.getLast?.map f:=by simp
section
variable {w:World} {l r:List HP} {lg:Nat} {M:LogM} {A:LogA} {gap:Int} {a:Nat} {t:SegM}
theorem zyr [hf:Fo l (z11 gap) a t r] (hs:Sat w l):Ret P F.a77 #[.pointer (some ⟨a,0,none⟩)] w λvs w'=>vs=[.int .i64 t.s.reach]/\Sat w' (z11 gap a t::r) :=
 zqf _ <| by
  unfold z033
  have hs:=z3x (hs.perm hf.perm)
  refine z0i hs λw' hs=>?_
  refine zy ?_
  refine zd hs ?_
  refine zy ?_
  refine zd hs ?_
  refine zy ?_
  refine zd hs ?_
  refine z1l (y:=t.s.reach) ?_ (by unfold SegA.reach;split <;> split <;> omega)
  refine zm ?_
  exact ⟨rfl,rfl,z2x t hs⟩
theorem zk7 (base fin:Int) (hb:0<=base/\base<9223372036854775808) (hf':0<=fin/\fin<9223372036854775808) [hf:Fo l lgQ lg M r] (hs:Sat w l) :
  Ret P F.a68 #[.pointer (some ⟨lg,0,none⟩),.int .i64 base,.int .i64 fin] w λvs w'=>∃ a ix,vs=[.pointer (some ⟨a,0,none⟩)]/\Sat w' (z11 M.gap a ⟨ix,⟨base,fin,[]⟩⟩::lgQ lg M::r) :=
 zqw _ base fin <| by
  unfold z01g
  obtain ⟨hok,hs⟩:=z34 (hs.perm hf.perm)
  refine zy ?_
  refine zd hs ?_
  refine za (z01s M.gap hok.gap hs) λ_ w' hs=>?_
  obtain ⟨ix,rfl,hs⟩:=hs
  refine ze ?_
  refine wp_lt ?_
  refine za (zl4 base fin hb hf' hs) λ_ w' hs=>?_
  obtain ⟨z,rfl,hs⟩:=hs
  refine ze ?_
  have hl:=hs.slen z (xs:=shL base fin) (enc:=zg)
  refine z0b hs λa w' hs=>?_
  refine ⟨rfl,a,ix,rfl,?_⟩
  have hs:Sat w' (pt a (.cells #[.pointer (some ⟨ix,0,none⟩),.int .i64 base,.int .i64 fin,.int .i64 (z0n []),.int .i64 (z1t (-1) []),.int .i64 ((SegA.file ⟨base,fin,[]⟩).length:Nat)] T.a30)::slc T.a38 1 z ((shL base fin).flatMap zg)::z2v ix ((SegA.mk base fin []).idx M.gap)::pt lg (.cells #[.pointer (some ⟨M.d,0,none⟩),.string M.pre,.int .i64 M.seg,.int .i64 M.gap,.slice M.z.a M.z.len M.z.cap] T.a29)::slc T.a17 1 M.z ((M.SM.map Prod.fst).flatMap z1x)::HP.all (M.SM.map λt=>z11 M.gap t.1 t.2)::r):=by
   have e:(SegA.file ⟨base,fin,[]⟩).length=z.len:=by rw [z2n,hl];simp
   rw [e]
   exact hs
  have hs:=z1v M hok (hs.pick [3,3,3])
  exact z2x ⟨ix,⟨base,fin,[]⟩⟩ (hs.sub)
theorem ztp (b:BatM) (hv:z0c b=0) [hf:Fo l (z11 gap) a t r] [hb:FocR r b.x 4 (b.rs.flatMap z03)] (hlen:t.s.file.length+(frL b).length<=1000000000) (hs:Sat w l) :
  Ret P F.a78 #[.pointer (some ⟨a,0,none⟩),.agg (zw b).toArray,.int .i64 ((frL b).length:Nat)] w λvs w'=>vs=[]/\Sat w' (z11 gap a ⟨t.ix,t.s.add [b]⟩::r) :=
 zqd _ b.base b.pid b.epoch b.seq b.kind b.time b.x _ <| by
  unfold z00s
  obtain ⟨h64,-⟩:=z2p hv
  obtain ⟨-,-,⟨-,hba,-⟩,-,-⟩:=z1e b hv
  have hs:=z3x (hs.perm hf.perm)
  refine z0b hs λa0 w' hs=>?_
  refine z02 hs ?_
  refine za (zvv b (by omega) hs) λ_ w' hs=>?_
  obtain ⟨rfl,hs⟩:=hs
  refine ze ?_
  refine wp_lt ?_
  refine z0i hs λw' hs=>?_
  refine zy ?_
  refine zd hs ?_
  refine zd hs ?_
  refine zy ?_
  refine zd hs ?_
  refine za (z02n (b:=t.ix) b.base ((t.s.file.length:Nat):Int) (z3i b) (by omega) (by omega) hs) λ_ w' hs=>?_
  obtain ⟨rfl,hs⟩:=hs
  refine ze ?_
  refine zm ?_
  refine z02 hs ?_
  refine za (zgv b hs) λ_ w' hs=>?_
  obtain ⟨rfl,hs⟩:=hs
  refine ze ?_
  refine zy ?_
  refine z0h hs λw' hs=>?_
  refine zy ?_
  refine zd hs ?_
  refine zy ?_
  refine z0h hs λw' hs=>?_
  refine zy ?_
  refine zd hs ?_
  refine zy ?_
  rw [w64 (by omega) (by omega)]
  refine z0h hs λw' hs=>?_
  refine ⟨rfl,rfl,?_⟩
  have e1:z4a b=z0n (t.s.add [b]).bs:=by
   show _=z0n (t.s.bs++[b.p])
   rw [z42]
   unfold z4a
   rw [if_neg (by rw [hv];simp)]
   rfl
  have e2:(if z3i b>z1t (-1) t.s.bs then z3i b else z1t (-1) t.s.bs)=z1t (-1) (t.s.add [b]).bs:=by
   show _=z1t (-1) (t.s.bs++[b.p])
   rw [zga]
   show _=max _ (z3i b)
   split <;> omega
  have e3:((t.s.file.length:Nat):Int)+((frL b).length:Nat)=(((t.s.add [b]).file.length:Nat):Int):=by
   rw [z70,List.length_append];simp
  rw [e1,e2,e3,<- zzm] at hs
  have hs:Sat w' (pt a (.cells #[.pointer (some ⟨t.ix,0,none⟩),.int .i64 (t.s.add [b]).base,.int .i64 (t.s.add [b]).fin,.int .i64 (z0n (t.s.add [b]).bs),.int .i64 (z1t (-1) (t.s.add [b]).bs),.int .i64 ((t.s.add [b]).file.length:Nat)] T.a30)::_):=hs
  refine z2x ⟨t.ix,t.s.add [b]⟩ ?_
  exact hs.sub
theorem zg9 [hf:Fo l lgQ lg M r] (hlen:M.SM.length<=1000000000) (hs:Sat w l):Ret P F.a63 #[.pointer (some ⟨lg,0,none⟩)] w λvs w'=>vs=[.pointer (zu6 (M.SM.getLast?.map Prod.fst))]/\Sat w' (lgQ lg M::r) :=
 zqs _ <| by
  unfold z029
  obtain ⟨hok,hs⟩:=z34 (hs.perm hf.perm)
  have hl:=hs.slen M.z (xs:=M.SM.map Prod.fst) (enc:=z1x)
  rw [List.length_map] at hl
  refine zy ?_
  refine zd hs ?_
  refine zk (λh=>?_) λh=>?_
  ·have:M.SM=[]:=List.length_eq_zero_iff.1 (by omega)
   rw [this]
   rw [this] at hs
   have hs:=z1v M hok (by rw [this];exact hs)
   exact ⟨rfl,rfl,hs⟩
  have h0:0<M.SM.length:=by omega
  refine z0i hs λw' hs=>?_
  refine zy ?_
  refine zd hs ?_
  refine zy ?_
  refine zd hs ?_
  rw [w64 (by omega) (by omega)]
  refine z24 hs (xs:=M.SM.map Prod.fst) (enc:=z1x) (M.SM.length-1) (by rw [List.length_map];omega) ?_
  refine zm ?_
  refine ⟨rfl,?_,z1v M hok hs⟩
  have e:M.SM.getLast?.map Prod.fst=some ((M.SM.map Prod.fst)[M.SM.length-1]'(by rw [List.length_map];omega)):=by
   rw [List.getLast?_eq_getElem?,List.getElem?_eq_getElem (by omega)]
   simp
  rw [e]
  rfl
theorem z8c {SM:List (Nat × SegM)} (hs:Sat w (HP.all (SM.map λt=>z11 gap t.1 t.2)::l)) {i:Nat} (hi:i<SM.length) :
  Sat w (z11 gap SM[i].1 SM[i].2::HP.all ((SM.eraseIdx i).map λt=>z11 gap t.1 t.2)::l):=by
 exact ((hs.all_perm ((z6x hi).map _))).all_cons
theorem z6j {SM:List (Nat × SegM)} {i:Nat} (hi:i<SM.length) (hs:Sat w (z11 gap SM[i].1 SM[i].2::HP.all ((SM.eraseIdx i).map λt=>z11 gap t.1 t.2)::l)) :
  Sat w (HP.all (SM.map λt=>z11 gap t.1 t.2)::l):=by
 have h1:Sat w (HP.all ((SM[i]::SM.eraseIdx i).map λt=>z11 gap t.1 t.2)::l):=hs.all_put
 exact h1.all_perm ((z6x hi).symm.map _)
theorem zgn [hf:Fo l lgQ lg M r] (hs:Sat w l):Ret P F.a52 #[.pointer (some ⟨lg,0,none⟩)] w λvs w'=>vs=[.int .i64 (z2s M.l)]/\Sat w' (lgQ lg M::r) :=
 zqu _ <| by
  unfold z02l
  obtain ⟨hok,hs⟩:=z34 (hs.perm hf.perm)
  have hl:=hs.slen M.z (xs:=M.SM.map Prod.fst) (enc:=z1x)
  rw [List.length_map] at hl
  refine z0p ?_
  refine zd hs ?_
  refine zk (λh=>?_) λh=>?_
  ·have h:M.SM=[]:=by
    rcases h with h|h
    ·cases h
    ·exact List.length_eq_zero_iff.1 (by omega)
   have e:z2s M.l=0:=by unfold LogM.l;rw [h];rfl
   rw [e]
   exact ⟨rfl,rfl,z1v M hok hs⟩
  have h0:0<M.SM.length:=by
   apply Nat.pos_of_ne_zero
   intro h1
   exact h (.inr (by omega))
  refine zy ?_
  refine zd hs ?_
  refine z7c hs (xs:=M.SM.map Prod.fst) (enc:=z1x) 0 (by rw [List.length_map];exact h0) ?_ rfl rfl
  have e0:(M.SM.map Prod.fst)[0]'(by rw [List.length_map];exact h0)=M.SM[0].1:=by simp
  rw [e0]
  refine zy ?_
  have hs:=z3x (z8c (hs.pick [2]) h0)
  refine zd hs ?_
  refine wp_lt ?_
  have e:z2s M.l=M.SM[0].2.s.base:=by
   obtain ⟨x,xs,hx⟩:=List.exists_cons_of_length_pos h0
   simp only [LogM.l,hx,List.map_cons,z2s,List.getElem_cons_zero]
  rw [e]
  refine ⟨rfl,rfl,?_⟩
  have hs:=z6j h0 (z2x M.SM[0].2 hs)
  exact z1v M hok (hs.pick [1,1])
theorem zay [hf:Fo l lgQ lg M r] (hlen:M.SM.length<=1000000000) (hs:Sat w l):Ret P F.a53 #[.pointer (some ⟨lg,0,none⟩)] w λvs w'=>vs=[.int .i64 (z01 M.l)]/\Sat w' (lgQ lg M::r) :=
 zpz _ <| by
  unfold z03a
  obtain ⟨hok,hs⟩:=z34 (hs.perm hf.perm)
  have hl:=hs.slen M.z (xs:=M.SM.map Prod.fst) (enc:=z1x)
  rw [List.length_map] at hl
  refine z0p ?_
  refine zd hs ?_
  refine zk (λh=>?_) λh=>?_
  ·have h:M.SM=[]:=by
    rcases h with h|h
    ·cases h
    ·exact List.length_eq_zero_iff.1 (by omega)
   have e:z01 M.l=0:=by unfold LogM.l;rw [h];rfl
   rw [e]
   exact ⟨rfl,rfl,z1v M hok hs⟩
  have h0:0<M.SM.length:=by
   apply Nat.pos_of_ne_zero
   intro h1
   exact h (.inr (by omega))
  have hs:=z1v M hok hs
  refine za (zg9 (lg:=lg) hlen hs) λ_ w' hs=>?_
  obtain ⟨rfl,hs⟩:=hs
  refine ze ?_
  have e1:M.SM.getLast? = some (M.SM[M.SM.length-1]'(by omega)):=by
   rw [List.getLast?_eq_getElem?,List.getElem?_eq_getElem (by omega)]
  rw [e1]
  obtain ⟨-,hs⟩:=z34 hs
  have hs:=z8c (hs.pick [2]) (show M.SM.length-1<M.SM.length by omega)
  refine za (zyr (gap:=M.gap) (a:=M.SM[M.SM.length-1].1) hs) λ_ w' hs=>?_
  obtain ⟨rfl,hs⟩:=hs
  refine ze ?_
  refine wp_lt ?_
  have e:z01 M.l=(M.SM[M.SM.length-1]'(by omega)).2.s.reach:=by
   unfold LogM.l z01
   rw [z5w,e1]
   rfl
  rw [e]
  have hs:=z6j (show M.SM.length-1<M.SM.length by omega) hs
  exact ⟨rfl,rfl,z1v M hok (hs.pick [1,1])⟩
def z3o (seg:Int) (l:List SegA) (n:Nat):Bool:=match l.getLast? with
 | none=>false
 | some s=>decide (z0n s.bs=0) || decide (((s.file.length+n:Nat):Int)<=seg)
theorem z01t (n:Nat) (hn:n<=1000000000) [hf:Fo l lgQ lg M r] (hlen:M.SM.length<=1000000000) (hfl:∀ s ∈ M.l,s.file.length<=1000000000) (hs:Sat w l):Ret P F.a62 #[.pointer (some ⟨lg,0,none⟩),.int .i64 (n:Int)] w λvs w'=>vs=[.bool (z3o M.seg M.l n)]/\Sat w' (lgQ lg M::r) :=
 zqq _ _ <| by
  unfold z017
  refine za (zg9 (lg:=lg) hlen hs) λ_ w' hs=>?_
  obtain ⟨rfl,hs⟩:=hs
  refine ze ?_
  refine z0i hs λw' hs=>?_
  by_cases h0:M.SM=[]
  ·have e:z3o M.seg M.l n=false:=by unfold LogM.l z3o;rw [h0];rfl
   rw [e,h0]
   refine zro ?_ (λh=>by cases h)
   refine z7z (0:Int) (λh=>by cases h) ?_
   refine zro ?_ (λh=>by cases h.1)
   refine z7z (0:Int) (λh=>by cases h.1) ?_
   refine zro ?_ (λh=>by cases h.1)
   refine z7z (0:Int) (λh=>by cases h.1) ?_
   refine wp_lt ?_
   refine zm ?_
   exact ⟨rfl,rfl,hs⟩
  have hp:=List.length_pos_iff.2 h0
  have e1:M.SM.getLast? = some (M.SM[M.SM.length-1]'(by omega)):=by
   rw [List.getLast?_eq_getElem?,List.getElem?_eq_getElem (by omega)]
  have e:z3o M.seg M.l n=(decide (z0n (M.SM[M.SM.length-1]'(by omega)).2.s.bs=0) || decide ((((M.SM[M.SM.length-1]'(by omega)).2.s.file.length+n:Nat):Int)<=M.seg)):=by
   unfold LogM.l z3o
   rw [z5w,e1]
   rfl
  have hfl':=hfl _ (List.mem_map.2 ⟨_,List.getElem_mem (show M.SM.length-1<M.SM.length by omega),rfl⟩)
  rw [e,e1]
  obtain ⟨hok,hs⟩:=z34 hs
  have hs:=z3x (z8c (hs.pick [2]) (show M.SM.length-1<M.SM.length by omega))
  refine z0p ?_
  refine zd hs ?_
  refine z0p ?_
  refine zd hs ?_
  refine z0p ?_
  refine zd hs ?_
  rw [w64 (by omega) (by omega)]
  refine wp_lt ?_
  refine zm ?_
  have hs:=z6j (show M.SM.length-1<M.SM.length by omega) (z2x (M.SM[M.SM.length-1]'(by omega)).2 hs)
  refine ⟨rfl,?_,z1v M hok (hs.pick [1,1])⟩
  rfl
theorem zy2 (a:Nat) (t:SegM) {r0:List HP} [hf:Fo l lgQ lg M r0] [hf2:Fo r0 (z11 M.gap) a t r] (hlen:M.SM.length<=1000000000) (hs:Sat w l) :
  Ret P F.a66 #[.pointer (some ⟨lg,0,none⟩),.pointer (some ⟨a,0,none⟩)] w λvs w'=>∃ z:Sl,vs=[]/\Sat w' (lgQ lg { M with z:=z,SM:=M.SM++[(a,t)] }::r) :=
 zr5 _ _ <| by
  unfold z00t
  obtain ⟨hok,hs⟩:=z34 (hs.perm (hf.perm.trans (.cons _ hf2.perm)))
  have hl:=hs.slen M.z (xs:=M.SM.map Prod.fst) (enc:=z1x)
  refine zy ?_
  refine zd hs ?_
  refine z6s (xs:=M.SM.map Prod.fst) (enc:=z1x) (y:=a) hs (λz w' hs=>?_) rfl (by rw [List.length_map];omega)
  refine zy ?_
  refine z0h hs λw' hs=>?_
  refine ⟨rfl,z,rfl,?_⟩
  have hs:Sat w' (pt lg (.cells #[.pointer (some ⟨M.d,0,none⟩),.string M.pre,.int .i64 M.seg,.int .i64 M.gap,.slice z.a z.len z.cap] T.a29)::slc T.a17 1 z ((M.SM.map Prod.fst++[a]).flatMap z1x)::HP.all (M.SM.map λt=>z11 M.gap t.1 t.2)::z11 M.gap a t::r):=hs
  have h1:Sat w' (HP.all (((a,t)::M.SM).map λt=>z11 M.gap t.1 t.2)::pt lg (.cells #[.pointer (some ⟨M.d,0,none⟩),.string M.pre,.int .i64 M.seg,.int .i64 M.gap,.slice z.a z.len z.cap] T.a29)::slc T.a17 1 z ((M.SM.map Prod.fst++[a]).flatMap z1x)::r):=(hs.pick [3,2]).all_put
  have h2:=h1.all_perm ((List.perm_append_comm (l₁:=[(a,t)]) (l₂:=M.SM)).map λt=>z11 M.gap t.1 t.2)
  refine z1v { M with z:=z,SM:=M.SM++[(a,t)] } hok ?_
  have e:(M.SM++[(a,t)]).map Prod.fst=M.SM.map Prod.fst++[a]:=by simp
  show Sat w' (pt lg _::slc T.a17 1 z (((M.SM++[(a,t)]).map Prod.fst).flatMap z1x)::HP.all ((M.SM++[(a,t)]).map λt=>z11 M.gap t.1 t.2)::r)
  rw [e]
  exact h2.pick [1,1]
theorem zgh [hf:Fo l lgQ lg M r] (hlen:M.SM.length<=1000000) (hs:Sat w l):Ret P F.a57 #[.pointer (some ⟨lg,0,none⟩)] w λvs w'=>∃ z:Sl,vs=[z.v]/\Sat w' (slc T.a11 1 z ((M.l.map SegA.base).flatMap z2t)::lgQ lg M::r) :=
 zqg _ <| by
  unfold z02c
  obtain ⟨hok,hs⟩:=z34 (hs.perm hf.perm)
  have hl:=hs.slen M.z (xs:=M.SM.map Prod.fst) (enc:=z1x)
  rw [List.length_map] at hl
  have hll:M.l.length=M.SM.length:=List.length_map ..
  refine z0j ?_ (by simp)
  refine zy ?_
  refine zd hs ?_
  refine zx (λq w'=>∃ z:Sl,q=(z,())/\Sat w' (slc T.a11 1 z ((M.l.map SegA.base).flatMap z2t)::lgQ lg M::r)) ?_ ?_
  rotate_left
  ·rintro _ w2 ⟨z,rfl,hs⟩
   exact ⟨rfl,z,rfl,hs⟩
  refine z0e (λm v w=>∃ (i:Nat) (z:Sl),v=(z,((i:Int),()))/\i<=M.SM.length/\M.SM.length-i=m/\Sat w (slc T.a11 1 z (((M.l.take i).map SegA.base).flatMap z2t)::pt lg (.cells #[.pointer (some ⟨M.d,0,none⟩),.string M.pre,.int .i64 M.seg,.int .i64 M.gap,.slice M.z.a M.z.len M.z.cap] T.a29)::slc T.a17 1 M.z ((M.SM.map Prod.fst).flatMap z1x)::HP.all (M.SM.map λt=>z11 M.gap t.1 t.2)::r)) M.SM.length ⟨0,⟨none,0,0⟩,rfl,by omega,rfl,hs.slc_nil⟩ ?_
  clear hs
  rintro m _ w ⟨i,z,rfl,hi,hm,hs⟩
  refine zt ?_
  refine zk (λhc=>?_) λhc=>?_
  rotate_left
  ·refine zv (zj ⟨z,rfl,?_⟩)
   rw [List.take_of_length_le (by omega)] at hs
   exact (z1v M hok (hs.pick [1,1,1])).pick [1]
  have hil:i<M.SM.length:=by omega
  refine z24 hs (xs:=M.SM.map Prod.fst) (enc:=z1x) i (by rw [List.length_map];exact hil) ?_
  have e0:(M.SM.map Prod.fst)[i]'(by rw [List.length_map];exact hil)=M.SM[i].1:=by simp
  rw [e0]
  refine zy ?_
  have hs:=z3x (z8c (hs.pick [3]) hil)
  refine zd hs ?_
  refine z6s (xs:=(M.l.take i).map SegA.base) (enc:=z2t) (y:=M.SM[i].2.s.base) hs (λz' w' hs=>?_) rfl (by rw [List.length_map,List.length_take];omega)
  rw [wS (i:=i) (by omega)]
  refine z0q (M.SM.length-(i+1)) ⟨i+1,z',rfl,by omega,rfl,?_⟩
  have e1:(M.l.take (i+1)).map SegA.base=(M.l.take i).map SegA.base++[M.SM[i].2.s.base]:=by
   rw [List.take_succ_eq_append_getElem (by omega),List.map_append]
   unfold LogM.l
   simp
  rw [e1]
  have hs:Sat w' (slc T.a11 1 z' (((M.l.take i).map SegA.base++[M.SM[i].2.s.base]).flatMap z2t)::pt M.SM[i].1 _::z2v _ _::HP.all _::pt lg _::slc T.a17 1 M.z _::r):=hs
  have hs:=z6j hil (z2x M.SM[i].2 (hs.pick [1,1,1]))
  exact hs.pick [1,1,1]
end
theorem z0k.mem:∀ {n:Int} {l:List SegA},z0k n l->∀ s ∈ l,SegOk s/\n<=s.base
 | _,a::l,⟨h1,h2,h3⟩,s,hs=>by
  rcases List.mem_cons.1 hs with rfl|hs
  ·exact ⟨h2,h1⟩
  ·have:=h3.mem s hs
   exact ⟨this.1,by omega⟩
def z19 (pre:ByteArray) (l:List SegA) (D:DiskA):Int × DiskA:=match l.getLast? with
 | none=>(0,D)
 | some s=>z29 D [zi pre s.base zu]
def BatM.to (b:BatM) (n:Int):BatM:=⟨n,b.pid,b.epoch,b.seq,b.kind,b.time,b.x,b.rs⟩
def z00:Int->List BatM->Int × List BatM
 | _,[]=>(0,[])
 | n,b::bs=>if z0c (b.to n)≠0 then (z0c (b.to n),[]) else if (z00 (n+z0d b) bs).1≠0 then ((z00 (n+z0d b) bs).1,[]) else (0,b.to n::(z00 (n+z0d b) bs).2)
def frP (p:Sl × List UInt8):HP:=slc T.a38 1 p.1 (p.2.flatMap zg)
theorem z8d:∀ {bs:List BatM} {n:Int},(z00 n bs).1=0->(z00 n bs).2.length=bs.length/\(∀ b ∈ (z00 n bs).2,z0c b=0/\∃ c ∈ bs,b.x=c.x/\b.rs=c.rs)/\∀ b,(z00 n bs).2.head? = some b->b.base=n
 | [],n,_=>⟨rfl,(λ_ h=>by cases h),(λ_ h=>by cases h)⟩
 | b::bs,n,h=>by
  unfold z00 at h ⊢
  by_cases h1:z0c (b.to n)≠0
  ·rw [if_pos h1] at h;exact absurd h h1
  rw [if_neg h1] at h ⊢
  by_cases h2:(z00 (n+z0d b) bs).1≠0
  ·rw [if_pos h2] at h;exact absurd h h2
  rw [if_neg h2]
  obtain ⟨i1,i2,-⟩:=z8d (Decidable.not_not.1 h2)
  refine ⟨by simp [i1],λc hc=>?_,λc hc=>?_⟩
  ·rcases List.mem_cons.1 hc with rfl|hc
   ·exact ⟨Decidable.not_not.1 h1,b,List.mem_cons_self ..,rfl,rfl⟩
   ·obtain ⟨v,d,hd,e⟩:=i2 c hc
    exact ⟨v,d,List.mem_cons_of_mem _ hd,e⟩
  ·simp at hc;subst hc;rfl
theorem z91:∀ {bs:List BatM},(∀ b ∈ bs,z0c b=0)->(bs.flatMap frL).length<=bs.length*262152
 | [],_=>by simp
 | b::bs,h=>by
  have h1:=z3q (h b (List.mem_cons_self ..))
  have h2:=z4g (h b (List.mem_cons_self ..))
  have h3:=z91 λx hx=>h x (List.mem_cons_of_mem _ hx)
  rw [List.flatMap_cons,List.length_append,List.length_cons]
  omega
section
variable {w:World} {l r:List HP} {lg:Nat} {M:LogM} {D:DiskA} {gap:Int} {a:Nat} {t:SegM}
theorem zgd {fs:List (Sl × List UInt8)} {p:Sl × List UInt8} (hp:p ∈ fs) [hf:Foc l (HP.all (fs.map frP)) r]:FocR l p.1 1 (p.2.flatMap zg):=⟨λw hs=>by
 obtain ⟨L,hs⟩:=(hs.perm hf.perm).all_mem hp
 exact Sat.rd hs⟩
theorem zkt:∀ {fs gs:List (Sl × List UInt8)},(∀ p ∈ gs,FocR l p.1 1 (p.2.flatMap zg))->z9q l (gs.map Prod.fst) (gs.map Prod.snd)
 | _,[],_=>trivial
 | fs,p::gs,h=>⟨(h p (List.mem_cons_self ..)).rd,zkt (fs:=fs) λq hq=>h q (List.mem_cons_of_mem _ hq)⟩
theorem zyq {r1:List HP} [hf:Fo l lgQ lg M r1] [hf2:Fo r1 dk M.d D r] (hlen:M.SM.length<=1000000000) (hok:z0k 0 M.l) (hs:Sat w l) :
  Ret P F.a58 #[.pointer (some ⟨lg,0,none⟩)] w λvs w'=>vs=[.int .i64 (z19 M.pre M.l D).1]/\Sat w' (lgQ lg M::dk M.d (z19 M.pre M.l D).2::r) :=
 zqk _ <| by
  unfold z027
  have hs:=hs.perm (hf.perm.trans (.cons _ hf2.perm))
  refine z0j ?_ (by simp)
  refine za (zg9 (lg:=lg) hlen hs) λ_ w' hs=>?_
  obtain ⟨rfl,hs⟩:=hs
  refine ze ?_
  by_cases h0:M.SM=[]
  ·have e:z19 M.pre M.l D=(0,D):=by unfold LogM.l z19;rw [h0];rfl
   rw [e,h0]
   refine z0j ?_ (by simp [zu6])
   exact ⟨rfl,rfl,hs⟩
  have hp:=List.length_pos_iff.2 h0
  have hsz:M.SM.length-1<M.SM.length:=by omega
  have e1:M.SM.getLast? = some (M.SM[M.SM.length-1]'hsz):=by
   rw [List.getLast?_eq_getElem?,List.getElem?_eq_getElem (by omega)]
  have e:z19 M.pre M.l D=z29 D [zi M.pre (M.SM[M.SM.length-1]'hsz).2.s.base zu]:=by
   unfold LogM.l z19
   rw [z5w,e1]
   rfl
  have hmem:(M.SM[M.SM.length-1]'hsz).2.s ∈ M.l:=List.mem_map.2 ⟨_,List.getElem_mem hsz,rfl⟩
  have hbase:=(hok.mem _ hmem).1.base
  rw [e,e1]
  obtain ⟨hokm,hs⟩:=z34 hs
  have hpre:M.pre.size<=100:=by
   have:=hokm.pre
   unfold z5a at this
   rw [Bool.and_eq_true,decide_eq_true_eq] at this
   omega
  refine z1b ?_ (by simp [zu6])
  have hs:=z3x (z8c (hs.pick [2]) hsz)
  refine zx (λq w'=>q=((z29 D [zi M.pre (M.SM[M.SM.length-1]'hsz).2.s.base zu]).1,())/\Sat w' (lgQ lg M::dk M.d (z29 D [zi M.pre (M.SM[M.SM.length-1]'hsz).2.s.base zu]).2::r)) ?_ ?_
  rotate_left
  ·rintro _ w2 ⟨rfl,hs⟩
   exact ⟨rfl,rfl,hs⟩
  refine z0i hs λw' hs=>?_
  refine zy ?_
  refine z2c hs ?_
  refine zy ?_
  refine zd hs ?_
  refine za (z7r (lg:=lg) _ (by omega) (ByteArray.mk #[46,108,111,103]) (by decide) M.pre hpre hs) λ_ w' hs=>?_
  obtain ⟨rfl,hs⟩:=hs
  refine ze ?_ (by first|trivial|(repeat (first|exact trivial|exact λ_=>z0w hs|exact λ_=>z15 hs|refine And.intro ?_ ?_)))
  refine z8v hs (enc:=z2o) [zi M.pre (M.SM[M.SM.length-1]'hsz).2.s.base zu] λy w' hs=>⟨(by first|trivial|(repeat (first|exact trivial|exact λ_=>z0w hs|exact λ_=>z15 hs|refine And.intro ?_ ?_))),?_⟩
  refine zm ?_
  refine za (z00l (d:=M.d) y [zi M.pre (M.SM[M.SM.length-1]'hsz).2.s.base zu] (by show 1<=100000;omega) hs) λ_ w' hs=>?_
  obtain ⟨rfl,hs⟩:=hs
  refine ze ?_
  refine wp_lt ?_
  refine zm ?_
  refine zj ⟨rfl,?_⟩
  replace hs:Sat _ (z11 M.gap _ _::_):=z2x (M.SM[M.SM.length-1]'hsz).2 (hs.pick [2,2])
  have hs:=z6j hsz (hs.pick [0,2])
  exact (z1v M hokm (hs.pick [3,3])).sub
theorem zun (x:Sl) (bs:List BatM) [hf:Fo l lgQ lg M r] (hlen:M.SM.length<=1000000000) (hbl:bs.length<=100000) (hx:FocR r x 7 (bs.flatMap zw)) (hbs:∀ b ∈ bs,FocR r b.x 4 (b.rs.flatMap z03)) (hs:Sat w l) :
  Ret P F.a65 #[.pointer (some ⟨lg,0,none⟩),x.v] w λvs w' =>
   ((z00 (z01 M.l) bs).1≠0/\vs=[.slice none 0 0,.slice none 0 0,.int .i64 (z00 (z01 M.l) bs).1]/\Sat w' (lgQ lg M::r)) \/
   ((z00 (z01 M.l) bs).1=0/\∃ (z1 z2:Sl) (fs:List (Sl × List UInt8)),vs=[z1.v,z2.v,.int .i64 0]/\fs.map Prod.snd=(z00 (z01 M.l) bs).2.map frL /\
    Sat w' (slc T.a1 7 z1 ((z00 (z01 M.l) bs).2.flatMap zw)::slc T.a27 1 z2 ((fs.map Prod.fst).flatMap z0r)::HP.all (fs.map frP)::lgQ lg M::r)) :=
 zpd _ x <| by
  unfold z01b
  have hs:=hs.perm hf.perm
  have hl:=hs.slen x (xs:=bs) (enc:=zw)
  refine za (zay (lg:=lg) hlen hs) λ_ w' hs=>?_
  obtain ⟨rfl,hs⟩:=hs
  refine ze ?_
  refine wp_lt ?_
  generalize z01 M.l=n0
  refine zx (λq w'=>∃ (z1 z2:Sl) (fs:List (Sl × List UInt8)),(z00 n0 bs).1=0/\q=(z1,z2,())/\fs.map Prod.snd=(z00 n0 bs).2.map frL /\
    Sat w' (slc T.a1 7 z1 ((z00 n0 bs).2.flatMap zw)::slc T.a27 1 z2 ((fs.map Prod.fst).flatMap z0r)::HP.all (fs.map frP)::lgQ lg M::r)) ?_ ?_
  rotate_left
  ·rintro _ w2 ⟨z1,z2,fs,h1,rfl,h2,hs⟩
   exact ⟨rfl,.inr ⟨h1,z1,z2,fs,rfl,h2,hs⟩⟩
  have h0:Sat w' (slc T.a1 7 ⟨none,0,0⟩ (([]:List BatM).flatMap zw)::slc T.a27 1 ⟨none,0,0⟩ (((([]:List (Sl × List UInt8))).map Prod.fst).flatMap z0r)::HP.all ((([]:List (Sl × List UInt8))).map frP)::lgQ lg M::r):=(Sat.all_nil hs).slc_nil.slc_nil
  refine z0e (λm v w=>∃ (i:Nat) (n:Int) (done:List BatM) (z1 z2:Sl) (fs:List (Sl × List UInt8)),v=(n,z1,z2,(i:Int),())/\i<=bs.length/\bs.length-i=m/\done.length=i/\fs.length=i /\
   z00 n0 bs=(if (z00 n (bs.drop i)).1≠0 then ((z00 n (bs.drop i)).1,[]) else (0,done++(z00 n (bs.drop i)).2))/\fs.map Prod.snd=done.map frL /\
   Sat w (slc T.a1 7 z1 (done.flatMap zw)::slc T.a27 1 z2 ((fs.map Prod.fst).flatMap z0r)::HP.all (fs.map frP)::lgQ lg M::r)) bs.length
   ⟨0,n0,[],⟨none,0,0⟩,⟨none,0,0⟩,[],rfl,by omega,rfl,rfl,rfl,?_,rfl,h0⟩ ?_
  ·rw [List.drop_zero,List.nil_append]
   by_cases h:(z00 n0 bs).1≠0
   ·rw [if_pos h]
    have:∀ {bs:List BatM} {n:Int},(z00 n bs).1≠0->(z00 n bs).2=[]:=by
     intro bs
     induction bs with
     | nil=>intro n h;exact absurd rfl h
     | cons b bs ih =>
      intro n h
      unfold z00 at h ⊢
      split
      ·rfl
      ·split
       ·rfl
       ·rename_i h1 h2
        rw [if_neg h1,if_neg h2] at h
        exact absurd rfl h
    rw [<- this h]
   ·rw [if_neg h]
    have h:=Decidable.not_not.1 h
    rw [<- h]
  clear hs h0
  rintro m _ w ⟨i,n,done,z1,z2,fs,rfl,hi,hm,hdl,hfl,hpl,hfs,hs⟩
  refine zt ?_
  refine zk (λhc=>?_) λhc=>?_
  rotate_left
  ·have e:bs.drop i=[]:=List.drop_eq_nil_of_le (by omega)
   rw [e] at hpl
   simp only [z00,List.append_nil] at hpl
   have hpl:z00 n0 bs=(0,done):=by rw [hpl];rfl
   refine zv (zj ⟨z1,z2,fs,by rw [hpl],rfl,by rw [hpl];exact hfs,?_⟩)
   rw [hpl]
   exact hs
  have hil:i<bs.length:=by omega
  have hdrop:bs.drop i=bs[i]::bs.drop (i+1):=List.drop_eq_getElem_cons hil
  rw [hdrop] at hpl
  have hR:=hbs bs[i] (List.getElem_mem hil)
  refine z23 hs (xs:=bs) (enc:=zw) i hil ?_
  refine z05 hs λa w' hs=>?_
  refine z09 hs λw' hs=>?_
  refine z0h hs λw' hs=>?_
  refine z02 hs ?_
  have hRt:FocR r (bs[i].to n).x 4 ((bs[i].to n).rs.flatMap z03):=hR
  refine za (zv7 (bs[i].to n) hs) λ_ w' hs=>?_
  have hunf:z00 n (bs[i]::bs.drop (i+1))=if z0c (bs[i].to n)≠0 then (z0c (bs[i].to n),[]) else if (z00 (n+z0d bs[i]) (bs.drop (i+1))).1≠0 then ((z00 (n+z0d bs[i]) (bs.drop (i+1))).1,[]) else (0,bs[i].to n::(z00 (n+z0d bs[i]) (bs.drop (i+1))).2):=rfl
  rcases hs with ⟨hv,rfl,hs⟩|⟨hv,y,rfl,hs⟩
  ·refine ze ?_
   refine wp_lt ?_
   refine z1b ?_ hv
   refine wp_lt ?_
   rw [if_pos hv] at hunf
   have hpl:z00 n0 bs=(z0c (bs[i].to n),[]):=by rw [hpl,hunf,if_pos hv]
   refine zv (zv ⟨rfl,.inl ⟨by rw [hpl];exact hv,by rw [hpl],hs.sub⟩⟩)
  ·refine ze ?_
   refine wp_lt ?_
   refine z0j ?_ (by simp)
   rw [if_neg (by rw [hv];simp)] at hunf
   have hbl2:=z4g hv
   have hfrl:=z3q hv
   refine z02 hs ?_
   refine z6s (xs:=done) (enc:=zw) (y:=bs[i].to n) hs (λz1' w' hs=>?_) rfl (by omega)
   refine z8x hs (enc:=z0r) [y] λy2 w' hs=>?_
   refine za (zv5 y2 y (z1p (bs[i].to n)) (by omega) hs) λ_ w' hs=>?_
   obtain ⟨y3,rfl,hs⟩:=hs
   refine ze ?_
   refine z6s (xs:=fs.map Prod.fst) (enc:=z0r) (y:=y3) hs (λz2' w' hs=>?_) rfl (by rw [List.length_map];omega)
   refine z02 hs ?_
   refine za (zgv (bs[i].to n) hs) λ_ w' hs=>?_
   obtain ⟨rfl,hs⟩:=hs
   refine ze ?_
   refine wp_lt ?_
   rw [wS (i:=i) (by omega)]
   have en:z4a (bs[i].to n)=n+z0d bs[i]:=by
    unfold z4a
    rw [if_neg (by rw [hv];simp)]
    rfl
   rw [en]
   refine z0q (bs.length-(i+1)) ⟨i+1,n+z0d bs[i],done++[bs[i].to n],z1',z2',fs++[(y3,frL (bs[i].to n))],rfl,by omega,rfl,by simp [hdl],by simp [hfl],?_,by simp [hfs],?_⟩
   ·rw [hpl,hunf]
    by_cases h2:(z00 (n+z0d bs[i]) (bs.drop (i+1))).1≠0
    ·rw [if_pos h2,if_pos h2,if_pos h2]
    ·rw [if_neg h2,if_neg h2,if_neg (by simp),List.append_assoc]
     rfl
   ·have e2:(fs++[(y3,frL (bs[i].to n))]).map Prod.fst=fs.map Prod.fst++[y3]:=by simp
    rw [e2]
    have hs:Sat w' (slc T.a27 1 z2' ((fs.map Prod.fst++[y3]).flatMap z0r)::slc T.a38 1 y3 ((frL (bs[i].to n)).flatMap zg)::slc T.a27 1 y2 (([y]:List Sl).flatMap z0r)::slc T.a1 7 z1' ((done++[bs[i].to n]).flatMap zw)::_):=hs
    have hs:Sat w' (frP (y3,frL (bs[i].to n))::HP.all (fs.map frP)::slc T.a1 7 z1' ((done++[bs[i].to n]).flatMap zw)::slc T.a27 1 z2' ((fs.map Prod.fst++[y3]).flatMap z0r)::lgQ lg M::r):=by
     have h3:Sat w' (slc T.a38 1 y3 ((frL (bs[i].to n)).flatMap zg)::HP.all (fs.map frP)::slc T.a1 7 z1' ((done++[bs[i].to n]).flatMap zw)::slc T.a27 1 z2' ((fs.map Prod.fst++[y3]).flatMap z0r)::lgQ lg M::r):=hs.sub
     exact h3
    have h4:Sat w' (HP.all (((y3,frL (bs[i].to n))::fs).map frP)::_):=hs.all_put
    have h5:=h4.all_perm ((List.perm_append_comm (l₁:=[(y3,frL (bs[i].to n))]) (l₂:=fs)).map frP)
    exact h5.pick [1,1]
end
def z5u (l:List SegA):Int:=match l.getLast? with
 | none=>0
 | some s=>s.base
def z5g (l:List SegA) (bs:List BatM):List SegA:=match l.getLast? with
 | none=>l
 | some s=>l.dropLast++[s.add bs]
def z0s (pre:ByteArray) (seg:Int) (l:List SegA) (D:DiskA) (bs:List BatM):(Int × Int) × List SegA × DiskA :=
 if bs=[] then ((0,3),l,D) else
 if (z00 (z01 l) bs).1≠0 then ((0,(z00 (z01 l) bs).1),l,D) else
 if z3o seg l ((z00 (z01 l) bs).2.flatMap frL).length then
  if (z04 D (zi pre (z5u l) zu) ((z00 (z01 l) bs).2.flatMap frL)).1≠0 then ((0,(z04 D (zi pre (z5u l) zu) ((z00 (z01 l) bs).2.flatMap frL)).1),l,(z04 D (zi pre (z5u l) zu) ((z00 (z01 l) bs).2.flatMap frL)).2)
  else ((z01 l,0),z5g l (z00 (z01 l) bs).2,(z04 D (zi pre (z5u l) zu) ((z00 (z01 l) bs).2.flatMap frL)).2)
 else
  if (z19 pre l D).1≠0 then ((0,(z19 pre l D).1),l,(z19 pre l D).2) else
  if (z04 (z19 pre l D).2 (zi pre (z01 l) zu) (shL (z01 l) 0++(z00 (z01 l) bs).2.flatMap frL)).1≠0 then ((0,(z04 (z19 pre l D).2 (zi pre (z01 l) zu) (shL (z01 l) 0++(z00 (z01 l) bs).2.flatMap frL)).1),l,(z04 (z19 pre l D).2 (zi pre (z01 l) zu) (shL (z01 l) 0++(z00 (z01 l) bs).2.flatMap frL)).2)
  else ((z01 l,0),l++[(⟨z01 l,0,[]⟩:SegA).add (z00 (z01 l) bs).2],(z04 (z19 pre l D).2 (zi pre (z01 l) zu) (shL (z01 l) 0++(z00 (z01 l) bs).2.flatMap frL)).2)
def LogA.set (A:LogA) (l:List SegA):LogA:=⟨A.d,A.pre,A.seg,A.gap,l⟩
theorem z0k.next:∀ {n:Int} {l:List SegA},0<=n->z0k n l->0<=z01 l/\z01 l<=1099511627777
 | _,[],_,_=>⟨by decide,by decide⟩
 | n,[s],hn,⟨h1,h2,_⟩=>by
  have:=z59 h2
  have:=h2.base
  show 0<=s.reach/\s.reach<=_
  omega
 | n,s::t::l,hn,⟨h1,h2,h3⟩=>by
  have:=h2.base
  have:=z0k.next (by omega) h3
  exact this
instance:EncF zw 0 (.int .i64) (λb=>b.base):=⟨λ_=>rfl⟩
section
variable {w:World} {l r:List HP} {lg:Nat} {M:LogM} {A:LogA} {D:DiskA} {gap:Int} {a:Nat} {t:SegM}
theorem zcb {SM0:List (Nat × SegM)} (h:M.SM=SM0++[(a,t)]) (hs:Sat w (lgQ lg M::l)):okM M.gap M.seg M.pre /\
  Sat w (z11 M.gap a t::pt lg (.cells #[.pointer (some ⟨M.d,0,none⟩),.string M.pre,.int .i64 M.seg,.int .i64 M.gap,.slice M.z.a M.z.len M.z.cap] T.a29)::slc T.a17 1 M.z ((SM0.map Prod.fst++[a]).flatMap z1x)::HP.all (SM0.map λt=>z11 M.gap t.1 t.2)::l):=by
 obtain ⟨hok,hs⟩:=z34 hs
 rw [h] at hs
 have h1:=(hs.pick [2]).all_perm ((List.perm_append_comm (l₁:=SM0) (l₂:=[(a,t)])).map λt=>z11 M.gap t.1 t.2)
 have h2:Sat w (z11 M.gap a t::HP.all (SM0.map λt=>z11 M.gap t.1 t.2)::_):=h1.all_cons
 rw [List.map_append] at h2
 exact ⟨hok,h2.pick [0,1,1]⟩
theorem zam (M:LogM) {SM0:List (Nat × SegM)} (hok:okM M.gap M.seg M.pre) (hs:Sat w (z11 M.gap a t::pt lg (.cells #[.pointer (some ⟨M.d,0,none⟩),.string M.pre,.int .i64 M.seg,.int .i64 M.gap,.slice M.z.a M.z.len M.z.cap] T.a29)::slc T.a17 1 M.z ((SM0.map Prod.fst++[a]).flatMap z1x)::HP.all (SM0.map λt=>z11 M.gap t.1 t.2)::l)) :
  Sat w (lgQ lg { M with SM:=SM0++[(a,t)] }::l):=by
 have h1:Sat w (HP.all (((a,t)::SM0).map λt=>z11 M.gap t.1 t.2)::_):=(hs.pick [0,2]).all_put
 have h2:=h1.all_perm ((List.perm_append_comm (l₁:=[(a,t)]) (l₂:=SM0)).map λt=>z11 M.gap t.1 t.2)
 refine z1v { M with SM:=SM0++[(a,t)] } hok ?_
 show Sat w (pt lg _::slc T.a17 1 M.z (((SM0++[(a,t)]).map Prod.fst).flatMap z1x)::HP.all ((SM0++[(a,t)]).map λt=>z11 M.gap t.1 t.2)::l)
 rw [List.map_append]
 exact h2.pick [1,1]
theorem z2r {α:Type} {l:List α} (h:l≠[]):∃ (l0:List α) (x:α),l=l0++[x]:=⟨l.dropLast,l.getLast h,(List.dropLast_concat_getLast h).symm⟩
theorem zjo {fs:List (Sl × List UInt8)} (h:∀ p ∈ fs,FocR l p.1 1 (p.2.flatMap zg)):z9q l (fs.map Prod.fst) (fs.map Prod.snd):=zkt (fs:=fs) h
theorem okM.size {g s:Int} {p:ByteArray} (h:okM g s p):p.size<=100:=by
 have:=h.pre
 unfold z5a at this
 rw [Bool.and_eq_true,decide_eq_true_eq] at this
 omega
set_option maxHeartbeats 1000000 in
theorem zit (x:Sl) (bs:List BatM) {r1:List HP} [hf:Fo l lgP lg A r1] [hf2:Fo r1 dk A.d D r] (hlen:A.l.length<=1000000) (hok:z0k 0 A.l) (hfl:∀ s ∈ A.l,s.file.length<=500000000) (hbl:bs.length<=900)
  (hx:FocR r x 7 (bs.flatMap zw)) (hbs:∀ b ∈ bs,FocR r b.x 4 (b.rs.flatMap z03)) (hs:Sat w l) :
  Ret P F.a51 #[.pointer (some ⟨lg,0,none⟩),x.v] w λvs w'=>vs=[.int .i64 (z0s A.pre A.seg A.l D bs).1.1,.int .i64 (z0s A.pre A.seg A.l D bs).1.2] /\
   Sat w' (lgP lg (A.set (z0s A.pre A.seg A.l D bs).2.1)::dk A.d (z0s A.pre A.seg A.l D bs).2.2::r) :=
 zfn _ x <| by
  unfold zv2
  have hs:=hs.perm (hf.perm.trans (.cons _ hf2.perm))
  clear hf hf2
  obtain ⟨M,rfl,hs⟩:=z7s hs
  have hlxs:=hs.slen x (xs:=bs) (enc:=zw)
  have hMl:M.A.l=M.l:=rfl
  have hMpre:M.A.pre=M.pre:=rfl
  have hMseg:M.A.seg=M.seg:=rfl
  have hMd:M.A.d=M.d:=rfl
  rw [hMl] at hlen hok hfl ⊢
  rw [hMpre,hMseg,hMd]
  rw [hMd] at hs
  have hll:M.l.length=M.SM.length:=List.length_map ..
  have hnx:=hok.next (Int.le_refl 0)
  have hsame:∀ {w:World} {D':DiskA},Sat w (lgQ lg M::dk M.d D'::r)->Sat w (lgP lg (M.A.set M.l)::dk M.d D'::r):=λhs=>z5k M hs
  unfold z0s
  refine z0j ?_ (by simp)
  refine zk (λh=>?_) λh=>?_
  ·have:bs=[]:=List.length_eq_zero_iff.1 (by omega)
   rw [if_pos this]
   exact ⟨rfl,rfl,hsame hs⟩
  rw [if_neg (by rintro rfl;simp at hlxs;omega)]
  have hx':FocR (dk M.d D::r) x 7 (bs.flatMap zw):=inferInstance
  refine za (zun (lg:=lg) x bs (by omega) (by omega) inferInstance (λb hb=>by have:=hbs b hb;infer_instance) hs) λ_ w' hs=>?_
  have hplo:=z8d (bs:=bs) (n:=z01 M.l)
  rcases hs with ⟨he,rfl,hs⟩|⟨he,z1,z2,fs,rfl,hfs,hs⟩
  ·refine ze ?_
   refine wp_lt ?_
   refine z1b ?_ he
   refine wp_lt ?_
   rw [if_pos he]
   exact ⟨rfl,rfl,hsame hs⟩
  refine ze ?_
  refine wp_lt ?_
  refine z0j ?_ (by simp)
  rw [if_neg (by rw [he];simp)]
  obtain ⟨hp1,hp2,hp3⟩:=hplo he
  have hbl0:0<bs.length:=by
   apply Nat.pos_of_ne_zero
   intro h0
   rw [h0] at hlxs
   omega
  generalize hn0:z01 M.l=n0 at *
  generalize hPL:z00 n0 bs=PL at *
  obtain ⟨e0,q⟩:=PL
  have he:e0=0:=he
  subst he
  dsimp only at hp1 hp2 hp3 hfs hs ⊢
  have hsum:=z91 λb hb=>(hp2 b hb).1
  have hfsl:fs.length=q.length:=by have:=congrArg List.length hfs;simpa using this
  have hfl1:=hs.slen z2 (xs:=fs.map Prod.fst) (enc:=z0r)
  rw [List.length_map] at hfl1
  have hfget:∀ (i:Nat) (h:i<fs.length),fs[i].2=frL (q[i]'(by omega)):=λi h=>by
   have:=List.getElem_of_eq hfs (i:=i) (by rw [List.length_map];exact h)
   simpa using this
  have hfsum:∀ i,((q.take i).flatMap frL).length<=(q.flatMap frL).length:=λi=>by
   have:(q.flatMap frL)=(q.take i).flatMap frL++(q.drop i).flatMap frL:=by rw [<- List.flatMap_append,List.take_append_drop]
   rw [this,List.length_append];omega
  refine zx (λv w'=>v=(((q.flatMap frL).length:Int),())/\Sat w' (slc T.a1 7 z1 (q.flatMap zw)::slc T.a27 1 z2 ((fs.map Prod.fst).flatMap z0r)::HP.all (fs.map frP)::lgQ lg M::dk M.d D::r)) ?_ ?_
  ·refine z0e (λm v w=>∃ i:Nat,v=((((q.take i).flatMap frL).length:Int),((i:Int),()))/\i<=q.length/\q.length-i=m/\Sat w (slc T.a1 7 z1 (q.flatMap zw)::slc T.a27 1 z2 ((fs.map Prod.fst).flatMap z0r)::HP.all (fs.map frP)::lgQ lg M::dk M.d D::r)) q.length ⟨0,rfl,by omega,rfl,hs⟩ ?_
   clear hs
   rintro m _ w ⟨i,rfl,hi,hm,hs⟩
   refine zt ?_
   refine zk (λhc=>?_) λhc=>?_
   rotate_left
   ·refine zv (zj ⟨?_,hs⟩)
    rw [List.take_of_length_le (by omega)]
   have hil:i<q.length:=by omega
   have hil2:i<fs.length:=by omega
   refine z24 hs (xs:=fs.map Prod.fst) (enc:=z0r) i (by rw [List.length_map];omega) ?_
   have e1:(fs.map Prod.fst)[i]'(by rw [List.length_map];omega)=fs[i].1:=by simp
   rw [e1]
   have hR:FocR (HP.all (fs.map frP)::lgQ lg M::dk M.d D::r) fs[i].1 1 (fs[i].2.flatMap zg):=zgd (List.getElem_mem hil2)
   have hl2:=hs.slen fs[i].1 (xs:=fs[i].2) (enc:=zg)
   rw [hfget i hil2] at hl2
   have hfi:((q.take (i+1)).flatMap frL).length=((q.take i).flatMap frL).length+(frL q[i]).length:=by
    rw [List.take_succ_eq_append_getElem hil,List.flatMap_append,List.length_append];simp
   have:=hfsum (i+1)
   rw [hl2,w64 (by omega) (by omega)]
   refine wp_lt ?_
   rw [wS (i:=i) (by omega)]
   have ec:(((q.take i).flatMap frL).length:Int)+((frL q[i]).length:Nat)=(((q.take (i+1)).flatMap frL).length:Int):=by rw [hfi];omega
   rw [ec]
   exact z0q (q.length-(i+1)) ⟨i+1,rfl,by omega,rfl,hs⟩
  clear hs
  rintro _ w ⟨rfl,hs⟩
  refine zt ?_
  refine za (zg9 (lg:=lg) (by omega) hs) λ_ w' hs=>?_
  obtain ⟨rfl,hs⟩:=hs
  refine ze ?_
  refine za (z01t (lg:=lg) (q.flatMap frL).length (by omega) (by omega) (λs hs'=>by have:=hfl s hs';omega) hs) λ_ w' hs=>?_
  obtain ⟨rfl,hs⟩:=hs
  refine ze ?_
  generalize hF:q.flatMap frL=Fr at *
  have hbsl:fs.map Prod.snd=q.map frL:=hfs
  have hflat:(fs.map Prod.snd).flatten=Fr:=by rw [hfs,<- hF,List.flatMap]
  have hlbound:∀ p ∈ fs,p.2.length<=262152:=λp hp=>by
   obtain ⟨i,hi,rfl⟩:=List.mem_iff_getElem.1 hp
   rw [hfget i hi]
   have:=z3q (hp2 _ (List.getElem_mem (show i<q.length by omega))).1
   have:=z4g (hp2 _ (List.getElem_mem (show i<q.length by omega))).1
   omega
  refine zx (λv w'=>∃ (M1:LogM) (SM0:List (Nat × SegM)) (a:Nat) (t:SegM) (D1:DiskA),v=(some ⟨a,0,none⟩,())/\M1.SM=SM0++[(a,t)]/\t.s.file.length<=600000000 /\
    (if z3o M.seg M.l Fr.length then
     if (z04 D (zi M.pre (z5u M.l) zu) Fr).1≠0 then ((0,(z04 D (zi M.pre (z5u M.l) zu) Fr).1),M.l,(z04 D (zi M.pre (z5u M.l) zu) Fr).2)
     else ((n0,(0:Int)),z5g M.l q,(z04 D (zi M.pre (z5u M.l) zu) Fr).2)
    else
     if (z19 M.pre M.l D).1≠0 then ((0,(z19 M.pre M.l D).1),M.l,(z19 M.pre M.l D).2) else
     if (z04 (z19 M.pre M.l D).2 (zi M.pre n0 zu) (shL n0 0++Fr)).1≠0 then ((0,(z04 (z19 M.pre M.l D).2 (zi M.pre n0 zu) (shL n0 0++Fr)).1),M.l,(z04 (z19 M.pre M.l D).2 (zi M.pre n0 zu) (shL n0 0++Fr)).2)
     else ((n0,0),M.l++[(⟨n0,0,[]⟩:SegA).add q],(z04 (z19 M.pre M.l D).2 (zi M.pre n0 zu) (shL n0 0++Fr)).2))=((n0,0),(SM0.map λt=>t.2.s)++[t.s.add q],D1) /\
    (M1.d=M.d/\M1.pre=M.pre/\M1.seg=M.seg/\M1.gap=M.gap) /\
    Sat w' (lgQ lg M1::dk M.d D1::slc T.a1 7 z1 (q.flatMap zw)::slc T.a27 1 z2 ((fs.map Prod.fst).flatMap z0r)::HP.all (fs.map frP)::r)) ?_ ?_
  ·refine zk (λhr=>?_) λhr=>?_
   ·
    have hr:z3o M.seg M.l Fr.length=false:=by simpa using hr
    rw [if_neg (by rw [hr];simp)]
    have hs:Sat w' (lgQ lg M::slc T.a1 7 z1 (q.flatMap zw)::slc T.a27 1 z2 ((fs.map Prod.fst).flatMap z0r)::HP.all (fs.map frP)::dk M.d D::r):=hs
    refine za (zyq (lg:=lg) (D:=D) (by omega) hok hs) λ_ w' hs=>?_
    obtain ⟨rfl,hs⟩:=hs
    refine ze ?_
    refine wp_lt ?_
    refine zk (λh2=>?_) λh2=>?_
    ·refine wp_lt ?_
     rw [if_pos h2]
     refine zv ⟨rfl,rfl,hsame hs.sub⟩
    rw [if_neg h2]
    generalize (z19 M.pre M.l D).2=D1 at *
    refine za (zay (lg:=lg) (by omega) hs) λ_ w' hs=>?_
    obtain ⟨rfl,hs⟩:=hs
    refine ze ?_
    rw [hn0]
    refine za (zk7 (lg:=lg) n0 0 (by omega) (by omega) hs) λ_ w' hs=>?_
    obtain ⟨a,ix,rfl,hs⟩:=hs
    refine ze ?_
    have hshl:=z7j n0 0
    refine zx (λv w'=>v=((z04 D1 (zi M.pre n0 zu) (shL n0 0++Fr)).1,())/\Sat w' (z11 M.gap a ⟨ix,⟨n0,0,[]⟩⟩::lgQ lg M::dk M.d (z04 D1 (zi M.pre n0 zu) (shL n0 0++Fr)).2::slc T.a1 7 z1 (q.flatMap zw)::slc T.a27 1 z2 ((fs.map Prod.fst).flatMap z0r)::HP.all (fs.map frP)::r)) ?_ ?_
    ·obtain ⟨hokm,hs⟩:=z34 (hs.pick [1])
     have hs:=z3x (hs.pick [3])
     refine z0i hs λw' hs=>?_
     refine zy ?_
     refine z2c hs ?_
     refine zy ?_
     refine zd hs ?_
     refine zy ?_
     refine z2c hs ?_
     refine za (z7r (lg:=lg) n0 (by omega) (ByteArray.mk #[46,108,111,103]) (by decide) M.pre hokm.size hs) λ_ w' hs=>?_
     obtain ⟨rfl,hs⟩:=hs
     refine ze ?_ (by first|trivial|(repeat (first|exact trivial|exact λ_=>z0w hs|exact λ_=>z15 hs|refine And.intro ?_ ?_)))
     refine za (zl4 n0 0 (by omega) (by omega) hs) λ_ w' hs=>?_
     obtain ⟨y,rfl,hs⟩:=hs
     refine ze ?_ (by first|trivial|(repeat (first|exact trivial|exact λ_=>z0w hs|exact λ_=>z15 hs|refine And.intro ?_ ?_)))
     refine z8v hs (enc:=z0r) [y] λy2 w' hs=>⟨(by first|trivial|(repeat (first|exact trivial|exact λ_=>z0w hs|exact λ_=>z15 hs|refine And.intro ?_ ?_))),?_⟩
     refine zoh (xs:=[y]) (ys:=fs.map Prod.fst) (enc:=z0r) hs (λy3 w' hs=>⟨(by first|trivial|(repeat (first|exact trivial|exact λ_=>z0w hs|exact λ_=>z15 hs|refine And.intro ?_ ?_))),?_⟩) (by rw [List.length_map];simp only [List.length_cons,List.length_nil];omega)
     refine zm ?_
     have hs:Sat w' (dk M.d D1::slc T.a27 1 y3 (([y]++fs.map Prod.fst).flatMap z0r)::slc T.a38 1 y ((shL n0 0).flatMap zg)::HP.all (fs.map frP)::pt a (.cells #[.pointer (some ⟨ix,0,none⟩),.int .i64 n0,.int .i64 0,.int .i64 (z0n []),.int .i64 (z1t (-1) []),.int .i64 ((SegA.file ⟨n0,0,[]⟩).length:Nat)] T.a30)::z2v ix ((SegA.mk n0 0 []).idx M.gap)::pt lg (.cells #[.pointer (some ⟨M.d,0,none⟩),.string M.pre,.int .i64 M.seg,.int .i64 M.gap,.slice M.z.a M.z.len M.z.cap] T.a29)::slc T.a17 1 M.z ((M.SM.map Prod.fst).flatMap z1x)::HP.all (M.SM.map λt=>z11 M.gap t.1 t.2)::slc T.a1 7 z1 (q.flatMap zw)::slc T.a27 1 z2 ((fs.map Prod.fst).flatMap z0r)::r):=hs.sub
     have hall:∀ p ∈ ((y,shL n0 0)::fs),FocR (slc T.a27 1 y3 (([y]++fs.map Prod.fst).flatMap z0r)::slc T.a38 1 y ((shL n0 0).flatMap zg)::HP.all (fs.map frP)::pt a (.cells #[.pointer (some ⟨ix,0,none⟩),.int .i64 n0,.int .i64 0,.int .i64 (z0n []),.int .i64 (z1t (-1) []),.int .i64 ((SegA.file ⟨n0,0,[]⟩).length:Nat)] T.a30)::z2v ix ((SegA.mk n0 0 []).idx M.gap)::pt lg (.cells #[.pointer (some ⟨M.d,0,none⟩),.string M.pre,.int .i64 M.seg,.int .i64 M.gap,.slice M.z.a M.z.len M.z.cap] T.a29)::slc T.a17 1 M.z ((M.SM.map Prod.fst).flatMap z1x)::HP.all (M.SM.map λt=>z11 M.gap t.1 t.2)::slc T.a1 7 z1 (q.flatMap zw)::slc T.a27 1 z2 ((fs.map Prod.fst).flatMap z0r)::r) p.1 1 (p.2.flatMap zg):=λp hp=>by
      rcases List.mem_cons.1 hp with rfl|hp
      ·infer_instance
      ·have:FocR (HP.all (fs.map frP)::pt a (.cells #[.pointer (some ⟨ix,0,none⟩),.int .i64 n0,.int .i64 0,.int .i64 (z0n []),.int .i64 (z1t (-1) []),.int .i64 ((SegA.file ⟨n0,0,[]⟩).length:Nat)] T.a30)::z2v ix ((SegA.mk n0 0 []).idx M.gap)::pt lg (.cells #[.pointer (some ⟨M.d,0,none⟩),.string M.pre,.int .i64 M.seg,.int .i64 M.gap,.slice M.z.a M.z.len M.z.cap] T.a29)::slc T.a17 1 M.z ((M.SM.map Prod.fst).flatMap z1x)::HP.all (M.SM.map λt=>z11 M.gap t.1 t.2)::slc T.a1 7 z1 (q.flatMap zw)::slc T.a27 1 z2 ((fs.map Prod.fst).flatMap z0r)::r) p.1 1 (p.2.flatMap zg):=zgd hp
       infer_instance
     have hpsF:FocR (slc T.a27 1 y3 (([y]++fs.map Prod.fst).flatMap z0r)::slc T.a38 1 y ((shL n0 0).flatMap zg)::HP.all (fs.map frP)::pt a (.cells #[.pointer (some ⟨ix,0,none⟩),.int .i64 n0,.int .i64 0,.int .i64 (z0n []),.int .i64 (z1t (-1) []),.int .i64 ((SegA.file ⟨n0,0,[]⟩).length:Nat)] T.a30)::z2v ix ((SegA.mk n0 0 []).idx M.gap)::pt lg (.cells #[.pointer (some ⟨M.d,0,none⟩),.string M.pre,.int .i64 M.seg,.int .i64 M.gap,.slice M.z.a M.z.len M.z.cap] T.a29)::slc T.a17 1 M.z ((M.SM.map Prod.fst).flatMap z1x)::HP.all (M.SM.map λt=>z11 M.gap t.1 t.2)::slc T.a1 7 z1 (q.flatMap zw)::slc T.a27 1 z2 ((fs.map Prod.fst).flatMap z0r)::r) y3 1 ((((y,shL n0 0)::fs).map Prod.fst).flatMap z6q):=(inferInstance:FocR _ y3 1 (([y]++fs.map Prod.fst).flatMap z0r))
     refine za (z9m (d:=M.d) (A:=D1) (zi M.pre n0 (bl (ByteArray.mk #[46,108,111,103]))) y3 (((y,shL n0 0)::fs).map Prod.fst) (((y,shL n0 0)::fs).map Prod.snd) (hps:=hpsF) (zjo hall) (by simp only [List.length_map,List.length_cons];omega) (λb hb=>?_) hs) λ_ w' hs=>?_
     ·obtain ⟨p,hp,rfl⟩:=List.mem_map.1 hb
      rcases List.mem_cons.1 hp with rfl|hp
      ·show (shL n0 0).length<=_;omega
      ·have:=hlbound p hp;omega
     obtain ⟨rfl,hs⟩:=hs
     refine ze ?_
     refine wp_lt ?_
     refine zm ?_
     have e2:(((y,shL n0 0)::fs).map Prod.snd).flatten=shL n0 0++Fr:=by rw [List.map_cons,List.flatten_cons,hflat]
     rw [e2] at hs ⊢
     refine zj ⟨rfl,?_⟩
     have hs:Sat w' (dk M.d (z04 D1 (zi M.pre n0 zu) (shL n0 0++Fr)).2::slc T.a27 1 y3 _::slc T.a38 1 y _::HP.all (fs.map frP)::pt a _::z2v ix _::pt lg _::slc T.a17 1 M.z _::HP.all (M.SM.map λt=>z11 M.gap t.1 t.2)::slc T.a1 7 z1 (q.flatMap zw)::slc T.a27 1 z2 ((fs.map Prod.fst).flatMap z0r)::r):=hs
     have hs:=z1v M hokm (hs.pick [6,6,6])
     have hs:Sat w' (z11 M.gap a ⟨ix,⟨n0,0,[]⟩⟩::lgQ lg M::dk M.d _::slc T.a27 1 y3 _::slc T.a38 1 y _::HP.all (fs.map frP)::slc T.a1 7 z1 (q.flatMap zw)::slc T.a27 1 z2 ((fs.map Prod.fst).flatMap z0r)::r):=z2x ⟨ix,⟨n0,0,[]⟩⟩ (hs.pick [5,5])
     exact hs.sub
    rintro _ w2 ⟨rfl,hs⟩
    refine zk (λh3=>?_) λh3=>?_
    ·refine wp_lt ?_
     rw [if_pos h3]
     refine zv ⟨rfl,rfl,hsame hs.sub⟩
    rw [if_neg h3]
    have hs:=hs.pick [1]
    refine za (zy2 (lg:=lg) a ⟨ix,⟨n0,0,[]⟩⟩ (by omega) hs) λ_ w' hs=>?_
    obtain ⟨z,rfl,hs⟩:=hs
    refine ze ?_
    refine zj ⟨{ M with z:=z,SM:=M.SM++[(a,⟨ix,⟨n0,0,[]⟩⟩)] },M.SM,a,⟨ix,⟨n0,0,[]⟩⟩,(z04 D1 (zi M.pre n0 zu) (shL n0 0++Fr)).2,rfl,rfl,?_,rfl,⟨rfl,rfl,rfl,rfl⟩,hs⟩
    rw [z2n]
    simp only [List.flatMap_nil,List.length_nil]
    omega
   ·
    have hr:z3o M.seg M.l Fr.length=true:=by simpa using hr
    rw [if_pos hr]
    have h0:M.SM≠[]:=by
     intro h0
     have:M.l=[]:=by unfold LogM.l;rw [h0];rfl
     rw [this] at hr
     cases hr
    obtain ⟨SM0,⟨a,t⟩,hSM⟩:=z2r h0
    have hl1:M.l=SM0.map (λt=>t.2.s)++[t.s]:=by unfold LogM.l;rw [hSM];simp
    have hbase:z5u M.l=t.s.base:=by unfold z5u;rw [hl1,z20]
    have hadd:z5g M.l q=SM0.map (λt=>t.2.s)++[t.s.add q]:=by unfold z5g;rw [hl1,z20];simp
    have hlst:M.SM.getLast? = some (a,t):=by rw [hSM,z20]
    rw [hlst]
    have htm:t.s ∈ M.l:=by rw [hl1];simp
    have htb:=(hok.mem _ htm).1.base
    have htf:=hfl _ htm
    refine zx (λv w'=>v=((z04 D (zi M.pre (z5u M.l) zu) Fr).1,())/\Sat w' (lgQ lg M::dk M.d (z04 D (zi M.pre (z5u M.l) zu) Fr).2::slc T.a1 7 z1 (q.flatMap zw)::slc T.a27 1 z2 ((fs.map Prod.fst).flatMap z0r)::HP.all (fs.map frP)::r)) ?_ ?_
    ·obtain ⟨hokm,hs⟩:=zcb hSM hs
     have hs:=z3x hs
     refine z0i hs λw' hs=>?_
     refine zy ?_
     refine z2c hs ?_
     refine zy ?_
     refine zd hs ?_
     refine za (z7r (lg:=lg) t.s.base (by omega) (ByteArray.mk #[46,108,111,103]) (by decide) M.pre hokm.size hs) λ_ w' hs=>?_
     obtain ⟨rfl,hs⟩:=hs
     refine ze ?_ (by first|trivial|(repeat (first|exact trivial|exact λ_=>z0w hs|exact λ_=>z15 hs|refine And.intro ?_ ?_)))
     refine zm ?_
     have hs:=hs.pick [8]
     have hall:∀ p ∈ fs,FocR (pt a (.cells #[.pointer (some ⟨t.ix,0,none⟩),.int .i64 t.s.base,.int .i64 t.s.fin,.int .i64 (z0n t.s.bs),.int .i64 (z1t (-1) t.s.bs),.int .i64 (t.s.file.length:Nat)] T.a30)::z2v t.ix (t.s.idx M.gap)::pt lg (.cells #[.pointer (some ⟨M.d,0,none⟩),.string M.pre,.int .i64 M.seg,.int .i64 M.gap,.slice M.z.a M.z.len M.z.cap] T.a29)::slc T.a17 1 M.z ((SM0.map Prod.fst++[a]).flatMap z1x)::HP.all (SM0.map λt=>z11 M.gap t.1 t.2)::slc T.a1 7 z1 (q.flatMap zw)::slc T.a27 1 z2 ((fs.map Prod.fst).flatMap z0r)::HP.all (fs.map frP)::r) p.1 1 (p.2.flatMap zg):=λp hp=>by
      have:FocR (HP.all (fs.map frP)::r) p.1 1 (p.2.flatMap zg):=zgd hp
      infer_instance
     have hpsF:FocR (pt a (.cells #[.pointer (some ⟨t.ix,0,none⟩),.int .i64 t.s.base,.int .i64 t.s.fin,.int .i64 (z0n t.s.bs),.int .i64 (z1t (-1) t.s.bs),.int .i64 (t.s.file.length:Nat)] T.a30)::z2v t.ix (t.s.idx M.gap)::pt lg (.cells #[.pointer (some ⟨M.d,0,none⟩),.string M.pre,.int .i64 M.seg,.int .i64 M.gap,.slice M.z.a M.z.len M.z.cap] T.a29)::slc T.a17 1 M.z ((SM0.map Prod.fst++[a]).flatMap z1x)::HP.all (SM0.map λt=>z11 M.gap t.1 t.2)::slc T.a1 7 z1 (q.flatMap zw)::slc T.a27 1 z2 ((fs.map Prod.fst).flatMap z0r)::HP.all (fs.map frP)::r) z2 1 ((fs.map Prod.fst).flatMap z6q):=(inferInstance:FocR _ z2 1 ((fs.map Prod.fst).flatMap z0r))
     refine za (z9m (d:=M.d) (A:=D) (zi M.pre t.s.base (bl (ByteArray.mk #[46,108,111,103]))) z2 (fs.map Prod.fst) (fs.map Prod.snd) (hps:=hpsF) (zjo hall) (by simp only [List.length_map];omega) (λb hb=>?_) hs) λ_ w' hs=>?_
     ·obtain ⟨p,hp,rfl⟩:=List.mem_map.1 hb
      have:=hlbound p hp;omega
     obtain ⟨rfl,hs⟩:=hs
     refine ze ?_
     refine wp_lt ?_
     refine zm ?_
     rw [hflat] at hs ⊢
     refine zj ⟨by rw [hbase];rfl,?_⟩
     rw [hbase]
     have hs:Sat w' (dk M.d (z04 D (zi M.pre t.s.base zu) Fr).2::pt a _::z2v t.ix _::pt lg _::slc T.a17 1 M.z _::HP.all (SM0.map λt=>z11 M.gap t.1 t.2)::slc T.a1 7 z1 (q.flatMap zw)::slc T.a27 1 z2 ((fs.map Prod.fst).flatMap z0r)::HP.all (fs.map frP)::r):=hs
     have hs:=zam M hokm (z2x t (hs.pick [1,1]) |>.pick [0,1,1,1])
     have e:{ M with SM:=SM0++[(a,t)] }=M:=by rw [<- hSM]
     rw [e] at hs
     exact hs.sub
    rintro _ w2 ⟨rfl,hs⟩
    refine zk (λh3=>?_) λh3=>?_
    ·refine wp_lt ?_
     rw [if_pos h3]
     refine zv ⟨rfl,rfl,hsame hs.sub⟩
    rw [if_neg h3]
    refine zj ⟨M,SM0,a,t,(z04 D (zi M.pre (z5u M.l) zu) Fr).2,rfl,hSM,by omega,by rw [hadd],⟨rfl,rfl,rfl,rfl⟩,hs⟩
  rintro _ w2 ⟨M1,SM0,a,t,D1,rfl,hSM,htl,hres,⟨hd1,hd2,hd3,hd4⟩,hs⟩
  clear hsame
  rw [hres]
  obtain ⟨hokm,hs⟩:=zcb hSM hs
  have hF2:∀ i,((q.take i).flatMap frL).length<=Fr.length:=hfsum
  have hlq:=hs.slen z1 (xs:=q) (enc:=zw)
  refine zx (λ_ w'=>Sat w' (z11 M1.gap a ⟨t.ix,t.s.add q⟩::pt lg (.cells #[.pointer (some ⟨M1.d,0,none⟩),.string M1.pre,.int .i64 M1.seg,.int .i64 M1.gap,.slice M1.z.a M1.z.len M1.z.cap] T.a29)::slc T.a17 1 M1.z ((SM0.map Prod.fst++[a]).flatMap z1x)::HP.all (SM0.map λt=>z11 M1.gap t.1 t.2)::dk M.d D1::slc T.a1 7 z1 (q.flatMap zw)::slc T.a27 1 z2 ((fs.map Prod.fst).flatMap z0r)::HP.all (fs.map frP)::r)) ?_ ?_
  ·refine z0e (λm v w=>∃ i:Nat,v=((i:Int),())/\i<=q.length/\q.length-i=m/\Sat w (z11 M1.gap a ⟨t.ix,t.s.add (q.take i)⟩::pt lg (.cells #[.pointer (some ⟨M1.d,0,none⟩),.string M1.pre,.int .i64 M1.seg,.int .i64 M1.gap,.slice M1.z.a M1.z.len M1.z.cap] T.a29)::slc T.a17 1 M1.z ((SM0.map Prod.fst++[a]).flatMap z1x)::HP.all (SM0.map λt=>z11 M1.gap t.1 t.2)::dk M.d D1::slc T.a1 7 z1 (q.flatMap zw)::slc T.a27 1 z2 ((fs.map Prod.fst).flatMap z0r)::HP.all (fs.map frP)::r)) q.length ⟨0,rfl,by omega,rfl,by rw [List.take_zero,zgl];exact hs⟩ ?_
   clear hs
   rintro m _ w ⟨i,rfl,hi,hm,hs⟩
   refine zt ?_
   refine zk (λhc=>?_) λhc=>?_
   rotate_left
   ·refine zv (zj ?_)
    rwa [List.take_of_length_le (by omega)] at hs
   have hil:i<q.length:=by omega
   have hil2:i<fs.length:=by omega
   refine z23 hs (xs:=q) (enc:=zw) i hil ?_
   refine z05 hs λc w' hs=>?_
   refine wp_lt ?_
   refine z09 hs λw' hs=>?_
   refine z0i hs λw' hs=>?_
   refine z02 hs ?_
   refine z24 hs (xs:=fs.map Prod.fst) (enc:=z0r) i (by rw [List.length_map];omega) ?_
   have e1:(fs.map Prod.fst)[i]'(by rw [List.length_map];omega)=fs[i].1:=by simp
   rw [e1]
   have hR:FocR (HP.all (fs.map frP)::r) fs[i].1 1 (fs[i].2.flatMap zg):=zgd (List.getElem_mem hil2)
   have hl2:=hs.slen fs[i].1 (xs:=fs[i].2) (enc:=zg)
   rw [hfget i hil2] at hl2
   rw [hl2]
   obtain ⟨hvq,c0,hc0,hcx,hcr⟩:=hp2 q[i] (List.getElem_mem hil)
   have hRb:FocR r q[i].x 4 (q[i].rs.flatMap z03):=by rw [hcx,hcr];exact hbs c0 hc0
   have hfi:((q.take (i+1)).flatMap frL).length=((q.take i).flatMap frL).length+(frL q[i]).length:=by
    rw [List.take_succ_eq_append_getElem hil,List.flatMap_append,List.length_append];simp
   have:=hF2 (i+1)
   refine za (ztp (gap:=M1.gap) (a:=a) q[i] hvq (by show (t.s.add (q.take i)).file.length+_<=_;rw [z70,List.length_append];omega) hs) λ_ w' hs=>?_
   obtain ⟨rfl,hs⟩:=hs
   refine ze ?_
   refine zm ?_
   rw [wS (i:=i) (by omega)]
   refine z0q (q.length-(i+1)) ⟨i+1,rfl,by omega,rfl,?_⟩
   have e2:(t.s.add (q.take i)).add [q[i]]=t.s.add (q.take (i+1)):=by rw [add_add,List.take_succ_eq_append_getElem hil]
   have hs:Sat w' (z11 M1.gap a ⟨t.ix,(t.s.add (q.take i)).add [q[i]]⟩::_):=hs
   rw [e2] at hs
   exact hs.sub
  clear hs
  rintro _ w3 hs
  refine zt ?_
  refine zgu hs (xs:=q) (enc:=zw) 0 (by omega) ?_
  refine wp_lt ?_
  have hq0:(q[0]'(by omega)).base=n0:=hp3 _ (by rw [List.head?_eq_getElem?,List.getElem?_eq_getElem])
  rw [hq0]
  refine ⟨rfl,rfl,?_⟩
  have hs:=z5k _ (zam M1 hokm hs)
  have eA:LogM.A { M1 with SM:=SM0++[(a,(⟨t.ix,t.s.add q⟩:SegM))] }=M.A.set ((SM0.map λt=>t.2.s)++[t.s.add q]):=by
   unfold LogM.A LogM.l LogA.set
   simp only [List.map_append,List.map_cons,List.map_nil,hd1,hd2,hd3,hd4]
  rw [eA] at hs
  exact hs.sub
end
section
variable {w:World} {l r:List HP} {lg:Nat} {M:LogM} {A:LogA} {D:DiskA} {gap:Int} {a:Nat} {t:SegM}
theorem zfl {P:Program} {Q:Post} {S:World->Prop} {c:Addr->Prop} {f:Addr->Prog} (hc:c ⟨0,0,none⟩) (h:(f ⟨0,0,none⟩).wp P S w Q):(Prog.ex [.adr] (c1 c) (u1 f)).wp P S w Q:=⟨(⟨0,0,none⟩,()),hc,h⟩
theorem zh3 {P:Program} {Q:Post} {S:World->Prop} {α:Type} {enc:α->List Value} {xs:List α} {sz m:Nat} {ii:Int} {x:Sl} {T:TypeId} {g g':Prop} {p:Pr} {dec:α->p.D} {f:p.D->Prog} (hs:Sat w l) [hf:FocR l x sz (xs.flatMap enc)] [hE:EncN enc sz] [hD:Enc1 enc p dec] [hT:One P T]
  (n:Nat) (hn:n<xs.length) (h:(f (dec xs[n])).wp P S w Q) (hm:m=n*sz:=by rfl) (hi:ii=n:=by rfl) :
  (Prog.ex [.adr] (c1 λa=>g->(0:Int)<=ii/\ii<((x.len:Nat):Int)/\x.a=some a) (u1 λa=>.read g' (ld T (Addr.add a m)) (.one (.one p)) (u1 f))).wp P S w Q:=by
 subst hm hi
 have hr:=hf.rd w hs
 have hl:x.len=xs.length:=hr.len hE.len hE.pos
 obtain ⟨a,ha,he⟩:=hr.el hE.len (by omega)
 refine ⟨(a,()),λ_=>⟨by omega,by omega,ha⟩,(dec xs[n],()),λ_=>?_,h⟩
 have:=he n hn
 rw [hD.ok] at this
 have h2:=At.ld1 (P:=P) (T:=T) this rfl
 cases p <;> exact h2
end
end Go.Dec
