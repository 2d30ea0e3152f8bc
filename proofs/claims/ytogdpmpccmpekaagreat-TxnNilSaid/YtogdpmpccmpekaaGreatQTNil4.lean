/- What the claim of this folder leans on: our own texts, joined, without what it does not use. -/
import Derived.Test.YtogdpmpccmpekaaGreatQTNil3
set_option linter.unusedVariables false
set_option linter.unusedSimpArgs false
namespace Go.Dec
theorem z003 {a b:ByteArray} (h:a.data.toList=b.data.toList):a=b:=by
 cases a;cases b;exact congrArg ByteArray.mk (Array.ext' h)
theorem zcf:∀ x:List UInt8,Op.bytesLess x x=false
 | []=>rfl
 | a::x=>by rw [Op.bytesLess,zcf x];simp
theorem ziy:∀ {x y z:List UInt8},Op.bytesLess x y=true->Op.bytesLess y z=true->Op.bytesLess x z=true
 | [],_,[],_,h=>by cases ‹List UInt8› <;> simp [Op.bytesLess] at h
 | [],_,_::_,_,_=>rfl
 | _::_,[],_,h,_=>by simp [Op.bytesLess] at h
 | _::_,_::_,[],_,h=>by simp [Op.bytesLess] at h
 | a::x,b::y,c::z,h1,h2=>by
  simp only [Op.bytesLess,Bool.or_eq_true,decide_eq_true_eq,Bool.and_eq_true,beq_iff_eq] at h1 h2 ⊢
  rcases h1 with h1|⟨rfl,h1⟩
  ·rcases h2 with h2|⟨rfl,h2⟩
   ·exact .inl (UInt8.lt_trans h1 h2)
   ·exact .inl h1
  ·rcases h2 with h2|⟨rfl,h2⟩
   ·exact .inl h2
   ·exact .inr ⟨rfl,ziy h1 h2⟩
theorem zix:∀ (x y:List UInt8),Op.bytesLess x y=true\/x=y\/Op.bytesLess y x=true
 | [],[]=>.inr (.inl rfl)
 | [],_::_=>.inl rfl
 | _::_,[]=>.inr (.inr rfl)
 | a::x,b::y=>by
  simp only [Op.bytesLess,Bool.or_eq_true,decide_eq_true_eq,Bool.and_eq_true,beq_iff_eq,List.cons.injEq]
  rcases Nat.lt_trichotomy a.toNat b.toNat with h|h|h
  ·exact .inl (.inl (UInt8.lt_iff_toNat_lt.2 h))
  ·have:=UInt8.toNat_inj.1 h;subst this
   rcases zix x y with h|rfl|h
   ·exact .inl (.inr ⟨rfl,h⟩)
   ·exact .inr (.inl ⟨rfl,rfl⟩)
   ·exact .inr (.inr (.inr ⟨rfl,h⟩))
  ·exact .inr (.inr (.inl (UInt8.lt_iff_toNat_lt.2 h)))
def ltS (a b:ByteArray):Bool:=Op.bytesLess (ByteArray.toList a) (ByteArray.toList b)
theorem z8q (a:ByteArray):ltS a a=false:=zcf _
theorem z8g {a b c:ByteArray} (h1:ltS a b=true) (h2:ltS b c=true):ltS a c=true:=ziy h1 h2
theorem zm0 (a b:ByteArray):ltS a b=true\/a=b\/ltS b a=true:=by
 rcases zix (ByteArray.toList a) (ByteArray.toList b) with h|h|h
 ·exact .inl h
 ·exact .inr (.inl (zel.1 h))
 ·exact .inr (.inr h)
theorem z015 {a b:ByteArray} (h:ltS a b=true):ltS b a=false:=by
 cases hb:ltS b a with
 | false=>rfl
 | true=>have:=z8g h hb;rw [z8q] at this;cases this
structure FileA where
 name:ByteArray
 b:List UInt8
 kept:Nat
structure DiskA where
 room:Nat
 left:Int
 gone:Bool
 fs:List FileA
def used (fs:List FileA):Nat:=(fs.map λf=>f.b.length).sum
def DiskA.free (A:DiskA):Nat:=A.room-used A.fs
def okC (c:UInt8):Bool:=(97<=c.toNat && c.toNat<=122) || (48<=c.toNat && c.toNat<=57) || c.toNat == 46 || c.toNat == 45
def z3u (s:ByteArray):Bool:=s.data.toList.all okC && (1<=s.size && s.size<=24)
def z2b (fs:List FileA) (n:ByteArray):Bool:=fs.any λf=>decide (f.name=n)
def z3e (A:DiskA):DiskA:=if A.left>0 then { A with left:=A.left-1,gone:=decide (A.left-1=0) } else A
def z26 (n:ByteArray) (g:FileA->FileA) (f:FileA):FileA:=if f.name=n then g f else f
def z4s (x:FileA):List FileA->List FileA
 | []=>[x]
 | f::r=>if ltS x.name f.name then x::f::r else f::z4s x r
def z6i (n:ByteArray) (fs:List FileA):List FileA:=fs.filter λf=>!decide (f.name=n)
def z0b (A:DiskA) (n:ByteArray) (bs:List UInt8):Int × DiskA :=
 if A.gone then (9,A) else if z3u n=false then (2,A) else if bs.length>A.free\/(z2b A.fs n=false/\A.fs.length>=128) then (5,A) else
  (0,z3e { A with fs:=if z2b A.fs n then A.fs.map (z26 n λf=>{ f with b:=f.b++bs }) else z4s ⟨n,bs,0⟩ A.fs })
def zd8 (ns:List ByteArray) (n:ByteArray):Bool:=ns.isEmpty || ns.any λm=>decide (m=n)
def z4n (ns:List ByteArray) (f:FileA):FileA:=if zd8 ns f.name then { f with kept:=f.b.length } else f
def z29 (A:DiskA) (ns:List ByteArray):Int × DiskA :=
 if A.gone then (9,A) else if ns.all (z2b A.fs)=false then (3,A) else (0,z3e { A with fs:=A.fs.map (z4n ns) })
def z044 (fs:List FileA) (n:ByteArray):Nat:=match fs.find? λf=>decide (f.name=n) with
 | some f=>f.b.length
 | none=>0
def cutA' (A:DiskA) (n:ByteArray) (k:Int):Int × DiskA :=
 if A.gone then (9,A) else if z2b A.fs n=false then (3,A) else if k<0\/k>z044 A.fs n then (2,A) else
  (0,z3e { A with fs:=A.fs.map (z26 n λf=>{ f with b:=f.b.take k.toNat,kept:=min f.kept k.toNat }) })
def z2c (A:DiskA) (n:ByteArray):Int × DiskA :=
 if A.gone then (9,A) else if z2b A.fs n=false then (3,A) else (0,z3e { A with fs:=z6i n A.fs })
structure okA (A:DiskA):Prop where
 room:A.room<=4194304
 used:used A.fs<=4194304
 many:A.fs.length<=128
 left : -1<=A.left/\A.left<=9223372036854775807
 sorted:A.fs.Pairwise λa b=>ltS a.name b.name=true
 kept:∀ f ∈ A.fs,f.kept<=f.b.length
 names:∀ f ∈ A.fs,f.name.size<=24
theorem z2a (f:FileA) (fs:List FileA):used (f::fs)=f.b.length+used fs:=by simp [used]
theorem z4d {a b:List FileA} (h:a.Perm b):used a=used b:=(h.map _).sum_nat
theorem z9i:∀ {fs:List FileA} {f:FileA},f ∈ fs->f.b.length<=used fs
 | g::r,f,h=>by
  rw [z2a]
  rcases List.mem_cons.1 h with rfl|h
  ·omega
  ·have:=z9i h;omega
theorem z3q {fs:List FileA} (h:fs.Pairwise λa b=>ltS a.name b.name=true):(fs.map (·.name)).Nodup:=by
 rw [List.Nodup,List.pairwise_map]
 exact h.imp λ{a b} hab e=>by rw [e,z8q] at hab;cases hab
theorem z6t {fs:List FileA} {n:ByteArray}:z2b fs n=true↔∃ f ∈ fs,f.name=n:=by simp [z2b]
theorem z6u {fs:List FileA} {n:ByteArray}:z2b fs n=false↔∀ f ∈ fs,f.name≠n:=by simp [z2b]
instance:KeyT P T.a57 ekS:=z03x (by kernel_rfl)
instance:MapT P T.a25 T.a57 (.pointer none):=⟨T.a30,by kernel_rfl,by kernel_rfl⟩
abbrev evF (b:Nat):Value:=.pointer (some ⟨b,0,none⟩)
structure FileM where
 at_:Nat
 x:Sl
 f:FileA
def z45 (t:FileM):HP:=HP.star (pt t.at_ (.cells #[t.x.v,.int .i64 t.f.kept] T.a9)) (slc T.a63 1 t.x (t.f.b.flatMap zk))
def dk (d:Nat) (A:DiskA):HP:=HP.ex λm:Nat=>HP.ex λFS:List FileM=>HP.and ((FS.map (·.f)).Perm A.fs/\okA A)
 (HP.star (pt d (.cells #[.int .i64 A.left,.bool A.gone,.int .i64 A.room,.int .i64 (used A.fs),.map (some m)] T.a8))
  (HP.star (z03 ekS evF m (FS.map λt=>(t.f.name,t.at_))) (HP.all (FS.map z45))))
section
variable {w:World} {l r:List HP}
theorem Sat.all_nil (hs:Sat w l):Sat w (HP.all []::l) :=
 ⟨⟨λ_=>none,World.env' w⟩,World.ph w,⟨(λ_ _ h=>by cases h),rfl⟩,PH.sub_refl _,(λ_=>Or.inl rfl),trivial,hs⟩
theorem Sat.all_cons {a:HP} {L:List HP} (hs:Sat w (HP.all (a::L)::l)):Sat w (a::HP.all L::l):=by
 refine Sat.star (A:=a) (B:=HP.all L) (hs.imp λp h=>?_);obtain ⟨p1,p2,h1,h2,hd,hA,hl⟩:=h;exact ⟨p1,p2,h1,h2,hd,hA,hl⟩
theorem Sat.all_put {a:HP} {L:List HP} (hs:Sat w (a::HP.all L::l)):Sat w (HP.all (a::L)::l):=by
 refine (Sat.star_mk (A:=a) (B:=HP.all L) hs).imp λp h=>?_;obtain ⟨p1,p2,h1,h2,hd,hA,hl⟩:=h;exact ⟨p1,p2,h1,h2,hd,hA,hl⟩
theorem Sat.all_perm {L L':List HP} (hp:L.Perm L') (hs:Sat w (HP.all L::l)):Sat w (HP.all L'::l):=hs.imp λp h=>zc5 hp h
theorem z2h {d:Nat} {A:DiskA} (hs:Sat w (dk d A::l)):∃ (m:Nat) (FS:List FileM),(FS.map FileM.f).Perm A.fs/\okA A /\
  Sat w (pt d (.cells #[.int .i64 A.left,.bool A.gone,.int .i64 A.room,.int .i64 (used A.fs),.map (some m)] T.a8)::z03 ekS evF m (FS.map λt=>(t.f.name,t.at_))::HP.all (FS.map z45)::l):=by
 obtain ⟨m,hs⟩:=hs.ex;obtain ⟨FS,hs⟩:=hs.ex;obtain ⟨⟨h1,h2⟩,hs⟩:=hs.and;have hs:=hs.star;have hs:=(hs.pick [1]).star;exact ⟨m,FS,h1,h2,hs.pick [2,0,0]⟩
theorem ztt {d:Nat} {A:DiskA} {m:Nat} {FS:List FileM} (hp:(FS.map FileM.f).Perm A.fs) (hok:okA A)
  (hs:Sat w (pt d (.cells #[.int .i64 A.left,.bool A.gone,.int .i64 A.room,.int .i64 (used A.fs:Nat),.map (some m)] T.a8)::z03 ekS evF m (FS.map λt=>(t.f.name,t.at_))::HP.all (FS.map z45)::l)):Sat w (dk d A::l):=by
 refine .ex_mk m (.ex_mk FS (.and_mk ⟨hp,hok⟩ (.star_mk ?_)));refine (Sat.star_mk (hs.pick [1,1])).pick [1]
theorem z2l {d:Nat} {A:DiskA} (m:Nat) {FS:List FileM} {r1 r2 r3 l':List HP} {u:Int} (hp:(FS.map FileM.f).Perm A.fs) (hok:okA A) (hs:Sat w l)
  [h1:FocB l d (.cells [.int .i64 A.left,.bool A.gone,.int .i64 A.room,.int .i64 u,.map (some m)].toArray T.a8) r1] [h2:FoM r1 m ekS evF (FS.map λt=>(t.f.name,t.at_)) r2] [h3:Foc r2 (HP.all (FS.map z45)) r3] [h4:Sub r3 l']
  (hu:u=(used A.fs:Nat):=by rfl):Sat w (dk d A::l'):=by
 subst hu;have h5:Sat w (dk d A::r3):=ztt hp hok (hs.perm (h1.perm.trans (.cons _ (h2.perm.trans (.cons _ h3.perm)))));exact h5.sub
theorem z8d {FS:List FileM} {t:FileM} (hs:Sat w l) [h:Foc l (HP.all (FS.map z45)) r] (ht:t ∈ FS):∃ FS',FS.Perm (t::FS') /\
  Sat w (pt t.at_ (.cells #[t.x.v,.int .i64 t.f.kept] T.a9)::slc T.a63 1 t.x (t.f.b.flatMap zk)::HP.all (FS'.map z45)::r):=by
 obtain ⟨s,u,rfl⟩:=List.append_of_mem ht;have hp:(s++t::u).Perm (t::(s++u)):=List.perm_middle;exact ⟨s++u,hp,(((hs.perm h.perm).all_perm (hp.map z45)).all_cons).star⟩
theorem z7c {FS:List FileM} (t:FileM) {r1 r2 r3:List HP} (hs:Sat w l) [h1:FocB l t.at_ (.cells [.slice t.x.a t.x.len t.x.cap,.int .i64 t.f.kept].toArray T.a9) r1] [h2:FocS r1 t.x T.a63 1 (t.f.b.flatMap zk) r2] [h3:Foc r2 (HP.all (FS.map z45)) r3] :
  Sat w (HP.all ((t::FS).map z45)::r3) :=
 Sat.all_put (Sat.star_mk (A:=pt t.at_ (.cells #[t.x.v,.int .i64 t.f.kept] T.a9)) (B:=slc T.a63 1 t.x (t.f.b.flatMap zk)) (hs.perm (h1.perm.trans (.cons _ (h2.perm.trans (.cons _ h3.perm))))))
end
section
variable {w:World} {l r:List HP} {d:Nat} {A:DiskA}
theorem z0cu (n:Nat) (hn:n<=4194304) (hs:Sat w l):Ret P F.a38 #[.int .i64 n] w λvs w'=>∃ d,vs=[.pointer (some ⟨d,0,none⟩),.int .i64 0]/\Sat w' (dk d ⟨n,-1,false,[]⟩::l) :=
 zyg n <| by
  delta z0em Aa Ab Ac Ad Ae Af Ag;refine z06 (z8a ekS evF hs λm w' hs=>?_);refine zr hs λd w' hs=>⟨rfl,d,rfl,?_⟩;exact ztt (FS:=[]) (.refl _) ⟨hn,by simp [used],by simp,by simp,by simp,by simp,by simp⟩ ((hs.all_nil).pick [1,1,0])
theorem zul (c:UInt8):((!(decide ((c.toNat:Int)>=97) && decide ((c.toNat:Int)<=122)) && !(decide ((c.toNat:Int)>=48) && decide ((c.toNat:Int)<=57)) && (c.toNat:Int) != 46 && (c.toNat:Int) != 45)=true↔okC c=false):=by
 simp [okC];omega
theorem z0cs (s:ByteArray) (hs:Sat w l):Ret P F.a37 #[.string s] w λvs w'=>vs=[.bool (z3u s)]/\Sat w' l :=
 zyf s <| by
  delta z0el AW Aa Ab Ac Aj Ak Av Az Bc Bg Bh
  refine zi (λh=>?_) λh=>?_
  ·refine ⟨rfl,?_,hs⟩
   have:z3u s=false:=by simp [z3u];omega
   rw [this]
  refine zjs hs λx w' hs=>?_
  have hl:=hs.slen x
  have hsz:s.data.toList.length=s.size:=by simp
  refine zj (λ_ w'=>s.data.toList.all okC=true/\Sat w' l) ?_ ?_
  ·refine z0a (λn v w=>∃ i:Nat,v=((i:Int),())/\i<=s.data.toList.length/\s.data.toList.length-i=n/\(s.data.toList.take i).all okC=true/\Sat w (slc T.a63 1 x (s.data.toList.flatMap zk)::l)) s.data.toList.length ⟨0,rfl,by omega,rfl,rfl,hs⟩ ?_
   clear hs
   rintro n _ w ⟨i,rfl,hi,hn,hall,hs⟩
   refine zh ?_
   refine zi (λhc=>?_) λhc=>?_
   ·have hil:i<s.data.toList.length:=by omega
    refine z1g hs i hil ?_
    refine wp_lt (wp_lt (wp_lt ?_))
    have htk:(s.data.toList.take (i+1)).all okC=okC s.data.toList[i]:=by
     rw [List.take_add_one,List.getElem?_eq_getElem hil,List.all_append,hall];simp
    refine zbo (λh3=>?_) λh3=>?_
    ·have h3:=(zul _).1 h3
     refine zm (zm ?_)
     refine ⟨rfl,?_,hs.tail⟩
     have:z3u s=false:=by
      have:s.data.toList.all okC=false:=by
       rw [<- List.take_append_drop (i+1) s.data.toList,List.all_append,htk,h3];rfl
      simp only [z3u,this,Bool.false_and]
     rw [this]
    ·have h3:okC s.data.toList[i]=true:=by
      cases hk:okC s.data.toList[i] with
      | true=>rfl
      | false=>have:=(zul _).2 hk;rw [this] at h3;cases h3
     refine z22 (us':=[.int .i64 ((i+1:Nat):Int)]) (by (try simp (disch:=omega) only [w64]);first|rfl|(congr;omega)) ?_
     refine z0x (s.data.toList.length-(i+1)) ?_
     exact ⟨i+1,rfl,by omega,rfl,by rw [htk,h3],hs⟩
   ·refine zm (zg ⟨?_,hs.tail⟩)
    rwa [List.take_of_length_le (by omega)] at hall
  ·rintro _ w' ⟨hall,hs⟩
   refine zh ?_
   refine ⟨rfl,?_,hs⟩
   have:z3u s=true:=by simp only [z3u,hall,Bool.true_and,Bool.and_eq_true,decide_eq_true_eq];omega
   rw [this]
theorem z0gg [hf:Fo l dk d A r] (hs:Sat w l):Ret P F.a36 #[.pointer (some ⟨d,0,none⟩)] w λvs w'=>vs=[.int .i64 (if A.gone then 9 else 0)]/\Sat w' (dk d A::r) :=
 zye _ <| by
  delta z0ek AP AQ Ab Ac Ao;obtain ⟨m,FS,hp,hok,hs⟩:=z2h (hs.perm hf.perm);refine wp_lt (z06 ?_ (by simp))
  (repeat (first|with_reducible (first|refine zh ?_|refine zf ?_|refine z04 ?_|refine z8 hs ?_|refine zl hs ?_|refine ze ?_|refine zt hs λ_ hs=>?_|refine zu hs λ_ _ hs=>?_|refine zr hs λ_ _ hs=>?_|refine zy hs λ_ hs=>?_|refine zv hs λ_ hs=>?_)|(apply wp_must;(focus first|trivial|omega|assumption))|refine z1i ?_|refine wp_lt ?_))
  refine zi (λh=>?_) λh=>?_
  ·exact ⟨rfl,by rw [if_pos h],z2l m hp hok hs⟩
  ·exact ⟨rfl,by rw [if_neg h],z2l m hp hok hs⟩
theorem z0ba {m:Nat} {n room u:Int} (hn:n<=9223372036854775807 /\ -1<=n) [hf:FocB l d (.cells #[.int .i64 n,.bool false,.int .i64 room,.int .i64 u,.map (some m)] T.a8) r] (hs:Sat w l) :
  Ret P F.a39 #[.pointer (some (Addr.add ⟨d,0,none⟩ 0))] w λvs w'=>vs=[] /\
   Sat w' (pt d (.cells #[.int .i64 (if n>0 then n-1 else n),.bool (if n>0 then decide (n-1=0) else false),.int .i64 room,.int .i64 u,.map (some m)] T.a8)::r) :=
 zyh _ <| by
  delta z0en AR AS Aa Ab Ac Ao Av Az
  have hs:=hs.focB d
  (repeat (first|with_reducible (first|refine zh ?_|refine zf ?_|refine z04 ?_|refine z8 hs ?_|refine zl hs ?_|refine ze ?_|refine zt hs λ_ hs=>?_|refine zu hs λ_ _ hs=>?_|refine zr hs λ_ _ hs=>?_|refine zy hs λ_ hs=>?_|refine zv hs λ_ hs=>?_)|(apply wp_must;(focus first|trivial|omega|assumption))|refine z1i ?_|refine wp_lt ?_))
  refine zj (λ_ w'=>Sat w' (pt d (.cells #[.int .i64 (if n>0 then n-1 else n),.bool (if n>0 then decide (n-1=0) else false),.int .i64 room,.int .i64 u,.map (some m)] T.a8)::r)) ?_ ?_
  ·refine zi (λh=>?_) λh=>?_
   ·(repeat (first|with_reducible (first|refine zh ?_|refine zf ?_|refine z04 ?_|refine z8 hs ?_|refine zl hs ?_|refine ze ?_|refine zt hs λ_ hs=>?_|refine zu hs λ_ _ hs=>?_|refine zr hs λ_ _ hs=>?_|refine zy hs λ_ hs=>?_|refine zv hs λ_ hs=>?_)|(apply wp_must;(focus first|trivial|omega|assumption))|refine z1i ?_|refine wp_lt ?_))
    refine zg ?_
    rw [if_pos h,if_pos h]
    rw [w64 (x:=n-1) (by omega) (by omega)] at hs
    exact hs
   ·refine zg ?_
    rw [if_neg h,if_neg h];exact hs
  ·rintro _ w' hs
   refine zh ?_
   exact ⟨rfl,rfl,hs⟩
theorem z03a (A:DiskA) (h:A.gone=false):z3e A=⟨A.room,if A.left>0 then A.left-1 else A.left,if A.left>0 then decide (A.left-1=0) else false,A.fs⟩:=by
 unfold z3e;split
 ·rfl
 ·rw [<- h]
theorem z0ce [hf:Fo l dk d A r] (hs:Sat w l):Ret P F.a27 #[.pointer (some ⟨d,0,none⟩)] w λvs w'=>vs=[.int .i64 (A.free:Nat)]/\Sat w' (dk d A::r) :=
 zy6 _ <| by
  delta z0ec AC AE AR Aa Ab Ac Al Ao Av;obtain ⟨m,FS,hp,hok,hs⟩:=z2h (hs.perm hf.perm);refine z06 ?_ (by simp);have h1:=hok.room;have h2:=hok.used;refine zt hs λw' hs=>zf (z8 hs ?_);refine zf (z8 hs ?_);refine z7p (y:=(A.free:Nat)) ?_ ?_
  ·have e:IntKind.wrap .i64 ((A.room:Int)-(used A.fs:Nat))=(A.room:Int)-(used A.fs:Nat):=z05z;rw [e];unfold DiskA.free;split <;> omega
  exact ze ⟨rfl,rfl,z2l m hp hok hs⟩
theorem z0cg [hf:Fo l dk d A r] (hs:Sat w l):Ret P F.a28 #[.pointer (some ⟨d,0,none⟩)] w λvs w'=>vs=[.bool A.gone]/\Sat w' (dk d A::r) :=
 zy7 _ <| by
  delta z0ed Ab Ah Ai Aj;obtain ⟨m,FS,hp,hok,hs⟩:=z2h (hs.perm hf.perm)
  (repeat (first|with_reducible (first|refine zh ?_|refine zf ?_|refine z04 ?_|refine z8 hs ?_|refine zl hs ?_|refine ze ?_|refine zt hs λ_ hs=>?_|refine zu hs λ_ _ hs=>?_|refine zr hs λ_ _ hs=>?_|refine zy hs λ_ hs=>?_|refine zv hs λ_ hs=>?_)|(apply wp_must;(focus first|trivial|omega|assumption))|refine z1i ?_|refine wp_lt ?_))
  exact ⟨rfl,by simp,z2l m hp hok hs⟩
end
theorem zbv {fs:List FileA} {n:ByteArray} (hs:(fs.map (·.name)).Nodup) {f:FileA} (hf:f ∈ fs) (hn:f.name=n):fs.find? (λf=>decide (f.name=n))=some f:=by
 subst hn
 induction fs with
 | nil=>cases hf
 | cons g r ih =>
  rw [List.map_cons,List.nodup_cons] at hs
  rcases List.mem_cons.1 hf with rfl|hf
  ·rw [List.find?_cons_of_pos (by simp)]
  ·rw [List.find?_cons_of_neg (by simp;exact λe=>hs.1 (List.mem_map.2 ⟨f,hf,e.symm⟩))];exact ih hs.2 hf
theorem zer {fs:List FileA} {n:ByteArray} (h:∀ f ∈ fs,f.name≠n):fs.find? (λf=>decide (f.name=n))=none:=List.find?_eq_none.2 λf hf=>by simpa using h f hf
theorem z0af {fs:List FileA} {n:ByteArray} (hs:(fs.map (·.name)).Nodup) {f:FileA} (hf:f ∈ fs) (hn:f.name=n):z044 fs n=f.b.length:=by rw [z044,zbv hs hf hn]
section
variable {w:World} {l r:List HP} {d:Nat} {A:DiskA}
theorem zac {FS:List FileM} (hp:(FS.map FileM.f).Perm A.fs) {n:ByteArray} {b:Nat} (h:(n,b) ∈ FS.map λt=>(t.f.name,t.at_)):∃ t ∈ FS,t.at_=b/\t.f.name=n/\t.f ∈ A.fs:=by
 obtain ⟨t,ht,he⟩:=List.mem_map.1 h;simp only [Prod.mk.injEq] at he;exact ⟨t,ht,he.2,he.1,hp.mem_iff.1 (List.mem_map.2 ⟨t,ht,rfl⟩)⟩
theorem z8t {FS:List FileM} (hp:(FS.map FileM.f).Perm A.fs) {n:ByteArray} (h:∀ b,(n,b) ∉ FS.map λt=>(t.f.name,t.at_)):∀ f ∈ A.fs,f.name≠n:=λf hf e=>by
 obtain ⟨t,ht,rfl⟩:=List.mem_map.1 (hp.mem_iff.2 hf);exact h t.at_ (List.mem_map.2 ⟨t,ht,by rw [e]⟩)
theorem apart {FS FS':List FileM} {t:FileM} (hp:(FS.map FileM.f).Perm A.fs) (hok:okA A) (h:FS.Perm (t::FS')) :
  A.fs.Perm (t.f::FS'.map FileM.f)/\(∀ f ∈ FS'.map FileM.f,f.name≠t.f.name)/\t.f ∈ A.fs:=by
 have h1:A.fs.Perm (t.f::FS'.map FileM.f):=hp.symm.trans (h.map FileM.f);have h2:((t.f::FS'.map FileM.f).map (·.name)).Nodup:=(h1.map _).nodup_iff.1 (z3q hok.sorted);rw [List.map_cons,List.nodup_cons] at h2;exact ⟨h1,λf hf e=>h2.1 (List.mem_map.2 ⟨f,hf,e⟩),h1.mem_iff.2 (List.mem_cons_self ..)⟩
theorem z09k (x:Sl) (bs:List UInt8) (hb:bs.length<=100000000) [hf:FocR l x 1 (bs.flatMap zk)] (hs:Sat w l):Ret P F.a0 #[x.v] w λvs w'=>∃ z:Sl,vs=[z.v]/\Sat w' (slc T.a63 1 z (bs.flatMap zk)::l) :=
 zmw x <| by
  delta zf0 Aa Ab Bc;refine zi (λh=>?_) λh=>?_
  ·have:bs=[]:=by
    obtain ⟨hlen,h0|⟨b,off,arr,T',fr,ha,-⟩⟩:=hf.rd w hs
    ·rw [z3z,h0] at hlen;exact List.length_eq_zero_iff.1 (by omega)
    ·rw [h] at ha;cases ha
   subst this;exact ⟨rfl,⟨none,0,0⟩,rfl,hs.slc_nil⟩
  ·refine zav hs ([]:List UInt8) (enc:=zk) bs0 λb w' hs=>wp_app' hs (xs:=([]:List UInt8)) (ys:=bs) (enc:=zk) (λz w' hs=>?_) (by simp;omega);exact ⟨rfl,z,rfl,hs⟩
theorem zj8 (n:ByteArray) [hf:Fo l dk d A r] (hs:Sat w l):Ret P F.a30 #[.pointer (some ⟨d,0,none⟩),.string n] w λvs w' =>
  (∃ f ∈ A.fs,f.name=n/\∃ z:Sl,vs=[z.v,.int .i64 0]/\Sat w' (slc T.a63 1 z (f.b.flatMap zk)::dk d A::r))\/((∀ f ∈ A.fs,f.name≠n)/\vs=[.slice none 0 0,.int .i64 3]/\Sat w' (dk d A::r)) :=
 zy8 _ n <| by
  delta z0ee AN AO Aa Ab Ac Ao Ap Aq;obtain ⟨m,FS,hp,hok,hs⟩:=z2h (hs.perm hf.perm);refine z06 ?_ (by simp)
  (repeat (first|with_reducible (first|refine zh ?_|refine zf ?_|refine z04 ?_|refine z8 hs ?_|refine zl hs ?_|refine ze ?_|refine zt hs λ_ hs=>?_|refine zu hs λ_ _ hs=>?_|refine zr hs λ_ _ hs=>?_|refine zy hs λ_ hs=>?_|refine zv hs λ_ hs=>?_)|(apply wp_must;(focus first|trivial|omega|assumption))|refine z1i ?_|refine wp_lt ?_))
  refine z5p hs (λb hb=>?_) λhb=>?_
  ·obtain ⟨t,ht,rfl,rfl,hA⟩:=zac hp hb;obtain ⟨FS',hpm,hs⟩:=z8d hs ht;refine z06 ?_ (by simp)
   (repeat (first|with_reducible (first|refine zh ?_|refine zf ?_|refine z04 ?_|refine z8 hs ?_|refine zl hs ?_|refine ze ?_|refine zt hs λ_ hs=>?_|refine zu hs λ_ _ hs=>?_|refine zr hs λ_ _ hs=>?_|refine zy hs λ_ hs=>?_|refine zv hs λ_ hs=>?_)|(apply wp_must;(focus first|trivial|omega|assumption))|refine z1i ?_|refine wp_lt ?_))
   have hlen:t.f.b.length<=4194304:=Nat.le_trans (z9i hA) hok.used;refine zb (z09k t.x t.f.b (by omega) hs) λ_ _ hs=>?_;obtain ⟨z,rfl,hs⟩:=hs;refine zd ?_
   (repeat (first|with_reducible (first|refine zh ?_|refine zf ?_|refine z04 ?_|refine z8 hs ?_|refine zl hs ?_|refine ze ?_|refine zt hs λ_ hs=>?_|refine zu hs λ_ _ hs=>?_|refine zr hs λ_ _ hs=>?_|refine zy hs λ_ hs=>?_|refine zv hs λ_ hs=>?_)|(apply wp_must;(focus first|trivial|omega|assumption))|refine z1i ?_|refine wp_lt ?_))
   refine ⟨rfl,.inl ⟨t.f,hA,rfl,z,rfl,?_⟩⟩;have hs:=(z7c t hs).all_perm (hpm.symm.map z45);have hs:=z2l (d:=d) (A:=A) (l':=slc T.a63 1 z (t.f.b.flatMap zk)::r) m hp hok hs;exact hs.sub
  ·refine z18 ?_ (by rfl);exact ⟨rfl,.inr ⟨z8t hp hb,rfl,z2l m hp hok hs⟩⟩
def zai (fs:List FileA) (n:ByteArray):Nat × Nat:=match fs.find? λf=>decide (f.name=n) with
 | some f=>(f.b.length,f.kept)
 | none=>(0,0)
theorem z0gs (n:ByteArray) [hf:Fo l dk d A r] (hs:Sat w l):Ret P F.a34 #[.pointer (some ⟨d,0,none⟩),.string n] w λvs w' =>
  ∃ x:Sl,vs=[.agg [x.v,.int .i64 (zai A.fs n).2].toArray]/\x.len=(zai A.fs n).1/\Sat w' (dk d A::r) :=
 zyc _ n <| by
  delta z0ei AH AI AJ AK AL AM Aa Ab Ac Ah Ao Ap Aq;obtain ⟨m,FS,hp,hok,hs⟩:=z2h (hs.perm hf.perm)
  (repeat (first|with_reducible (first|refine zh ?_|refine zf ?_|refine z04 ?_|refine z8 hs ?_|refine zl hs ?_|refine ze ?_|refine zt hs λ_ hs=>?_|refine zu hs λ_ _ hs=>?_|refine zr hs λ_ _ hs=>?_|refine zy hs λ_ hs=>?_|refine zv hs λ_ hs=>?_)|(apply wp_must;(focus first|trivial|omega|assumption))|refine z1i ?_|refine wp_lt ?_))
  refine z5p hs (λb hb=>?_) λhb=>?_
  ·obtain ⟨t,ht,rfl,rfl,hA⟩:=zac hp hb;refine z06 ?_ (by simp)
   (repeat (first|with_reducible (first|refine zh ?_|refine zf ?_|refine z04 ?_|refine z8 hs ?_|refine zl hs ?_|refine ze ?_|refine zt hs λ_ hs=>?_|refine zu hs λ_ _ hs=>?_|refine zr hs λ_ _ hs=>?_|refine zy hs λ_ hs=>?_|refine zv hs λ_ hs=>?_)|(apply wp_must;(focus first|trivial|omega|assumption))|refine z1i ?_|refine wp_lt ?_))
   refine z5p hs (λb2 hb2=>?_) λhb2=>absurd hb (hb2 _);obtain ⟨t2,ht2,rfl,hn2,hA2⟩:=zac hp hb2;obtain ⟨FS',hpm,hs⟩:=z8d hs ht2
   (repeat (first|with_reducible (first|refine zh ?_|refine zf ?_|refine z04 ?_|refine z8 hs ?_|refine zl hs ?_|refine ze ?_|refine zt hs λ_ hs=>?_|refine zu hs λ_ _ hs=>?_|refine zr hs λ_ _ hs=>?_|refine zy hs λ_ hs=>?_|refine zv hs λ_ hs=>?_)|(apply wp_must;(focus first|trivial|omega|assumption))|refine z1i ?_|refine wp_lt ?_))
   refine ⟨rfl,t2.x,?_,?_,?_⟩
   ·rw [zai,zbv (z3q hok.sorted) hA2 hn2]
   ·rw [zai,zbv (z3q hok.sorted) hA2 hn2];exact hs.slen t2.x
   ·have hs:=(z7c t2 hs).all_perm (hpm.symm.map z45);exact z2l m hp hok hs
  ·refine z18 ?_ (by simp)
   (repeat (first|with_reducible (first|refine zh ?_|refine zf ?_|refine z04 ?_|refine z8 hs ?_|refine zl hs ?_|refine ze ?_|refine zt hs λ_ hs=>?_|refine zu hs λ_ _ hs=>?_|refine zr hs λ_ _ hs=>?_|refine zy hs λ_ hs=>?_|refine zv hs λ_ hs=>?_)|(apply wp_must;(focus first|trivial|omega|assumption))|refine z1i ?_|refine wp_lt ?_))
   refine ⟨rfl,⟨none,0,0⟩,?_,?_,z2l m hp hok hs⟩
   ·rw [zai,zer (z8t hp hb)];rfl
   ·rw [zai,zer (z8t hp hb)]
theorem z0dd (n:ByteArray) [hf:Fo l dk d A r] (hs:Sat w l):Ret P F.a32 #[.pointer (some ⟨d,0,none⟩),.string n] w λvs w'=>vs=[.int .i64 (zai A.fs n).1]/\Sat w' (dk d A::r) :=
 zya _ n <| by
  delta z0eg Ab Ac Ad Ak Al;refine zb (z0gs n hs) λ_ _ hs=>?_;obtain ⟨x,rfl,hx,hs⟩:=hs;refine zd ?_;rw [hx]
  (repeat (first|with_reducible (first|refine zh ?_|refine zf ?_|refine z04 ?_|refine z8 hs ?_|refine zl hs ?_|refine ze ?_|refine zt hs λ_ hs=>?_|refine zu hs λ_ _ hs=>?_|refine zr hs λ_ _ hs=>?_|refine zy hs λ_ hs=>?_|refine zv hs λ_ hs=>?_)|(apply wp_must;(focus first|trivial|omega|assumption))|refine z1i ?_|refine wp_lt ?_))
  exact ⟨rfl,rfl,hs⟩
end
theorem zvv {fs fs':List FileA} {f:FileA} (hp:fs.Perm (f::fs')) (hne:∀ g ∈ fs',g.name≠f.name):(z6i f.name fs).Perm fs':=by
 have h1:=hp.filter λg=>!decide (g.name=f.name);rw [List.filter_cons_of_neg (by simp)] at h1
 have h2:fs'.filter (λg=>!decide (g.name=f.name))=fs':=List.filter_eq_self.2 λg hg=>by simpa using hne g hg
 rw [h2] at h1;exact h1
theorem zvu {fs:List FileA} {n:ByteArray} (h:∀ f ∈ fs,f.name≠n):z6i n fs=fs:=List.filter_eq_self.2 λg hg=>by simpa using h g hg
theorem z7w {fs fs':List FileA} {f:FileA} {g:FileA->FileA} (hp:fs.Perm (f::fs')) (hne:∀ g ∈ fs',g.name≠f.name):(fs.map (z26 f.name g)).Perm (g f::fs'):=by
 have h1:=hp.map (z26 f.name g);rw [List.map_cons] at h1
 have h2:fs'.map (z26 f.name g)=fs':=by
  conv=>rhs;rw [<- List.map_id fs']
  exact List.map_congr_left λx hx=>by rw [z26,if_neg (hne x hx)];rfl
 rw [h2,z26,if_pos rfl] at h1;exact h1
theorem za3 {n:ByteArray} {g:FileA->FileA} (hg:∀ f,(g f).name=f.name) (f:FileA):(z26 n g f).name=f.name:=by
 unfold z26;split
 ·exact hg f
 ·rfl
theorem zdy {fs:List FileA} {g:FileA->FileA} (hg:∀ f,(g f).name=f.name) (h:fs.Pairwise λa b=>ltS a.name b.name=true):(fs.map g).Pairwise λa b=>ltS a.name b.name=true:=by
 rw [List.pairwise_map]
 exact h.imp λ{a b} hab=>by rw [hg,hg];exact hab
theorem zps {fs:List FileA} (n:ByteArray) (h:fs.Pairwise λa b=>ltS a.name b.name=true):(z6i n fs).Pairwise λa b=>ltS a.name b.name=true:=h.filter _
theorem zm3 {fs:List FileA} {n:ByteArray} {f:FileA}:f ∈ z6i n fs↔f ∈ fs/\f.name≠n:=by simp [z6i,List.mem_filter]
theorem z6y (x:FileA):∀ fs:List FileA,(z4s x fs).Perm (x::fs)
 | []=>.refl _
 | f::r=>by
  rw [z4s];split
  ·exact .refl _
  ·exact (List.Perm.cons f (z6y x r)).trans (.swap _ _ _)
theorem zhw {x f:FileA} {fs:List FileA}:f ∈ z4s x fs↔f=x\/f ∈ fs:=by rw [(z6y x fs).mem_iff,List.mem_cons]
theorem zh1 (x:FileA):∀ {fs:List FileA},(∀ f ∈ fs,f.name≠x.name)->(fs.Pairwise λa b=>ltS a.name b.name=true)->(z4s x fs).Pairwise λa b=>ltS a.name b.name=true
 | [],_,_=>by simp [z4s]
 | f::r,hne,h=>by
  rw [List.pairwise_cons] at h;rw [z4s];split
  ·rename_i hlt
   rw [List.pairwise_cons];refine ⟨λg hg=>?_,by rw [List.pairwise_cons];exact h⟩
   rcases List.mem_cons.1 hg with rfl|hg
   ·exact hlt
   ·exact z8g hlt (h.1 g hg)
  ·rename_i hlt
   rw [List.pairwise_cons];refine ⟨λg hg=>?_,zh1 x (λg hg=>hne g (List.mem_cons_of_mem _ hg)) h.2⟩
   rcases zhw.1 hg with rfl|hg
   ·rcases zm0 f.name g.name with h1|h1|h1
    ·exact h1
    ·exact absurd h1 (hne f (List.mem_cons_self ..))
    ·exact absurd h1 hlt
   ·exact h.1 g hg
theorem zhx {A:DiskA} (h:okA A):okA (z3e A):=by
 unfold z3e;split
 ·exact ⟨h.room,h.used,h.many,by have:=h.left;show -1<=A.left-1/\A.left-1<=_;omega,h.sorted,h.kept,h.names⟩
 ·exact h
theorem z93 (A:DiskA):(z3e A).fs=A.fs:=by unfold z3e;split <;> rfl
theorem zih (A:DiskA):(z3e A).room=A.room:=by unfold z3e;split <;> rfl
section
variable {w:World} {l r:List HP} {d:Nat} {A:DiskA}
theorem zdz {m:Nat} {FS:List FileM} {fs':List FileA} {room left u:Int} {r1 r2 r3 l':List HP} (hg:A.gone=false) (hok':okA { A with fs:=fs' }) (hp:(FS.map FileM.f).Perm fs') (hs:Sat w l)
  [h1:FocB l d (.cells [.int .i64 left,.bool false,.int .i64 room,.int .i64 u,.map (some m)].toArray T.a8) r1] [h2:FoM r1 m ekS evF (FS.map λt=>(t.f.name,t.at_)) r2] [h3:Foc r2 (HP.all (FS.map z45)) r3] [h4:Sub r3 l']
  (hu:u=(used fs':Nat):=by rfl) (hl:left=A.left:=by rfl) (hr:room=A.room:=by rfl) :
  Ret P F.a39 #[.pointer (some (Addr.add ⟨d,0,none⟩ 0))] w λvs w'=>vs=[]/\Sat w' (dk d (z3e { A with fs:=fs' })::l'):=by
 subst hu hl hr;have hl:=hok'.left
 refine Calls.mono (z0ba (d:=d) (m:=m) ⟨hl.2,hl.1⟩ hs) λe w' ⟨vs,he,hv,hs⟩=>⟨vs,he,hv,?_⟩
 have hd:=z03a { A with fs:=fs' } hg;rw [hd];have hok2:=zhx hok';rw [hd] at hok2;exact z2l m (A:=⟨A.room,if A.left>0 then A.left-1 else A.left,if A.left>0 then decide (A.left-1=0) else false,fs'⟩) hp hok2 hs
theorem z0c3 (n:ByteArray) (m:Nat) {FS:List FileM} (hp:(FS.map FileM.f).Perm A.fs) (hok:okA A)
  (hs:Sat w (pt d (.cells #[.int .i64 A.left,.bool A.gone,.int .i64 A.room,.int .i64 (used A.fs),.map (some m)] T.a8)::z03 ekS evF m (FS.map λt=>(t.f.name,t.at_))::HP.all (FS.map z45)::r)) :
  Ret P F.a35 #[.pointer (some ⟨d,0,none⟩),.string n] w λvs w'=>vs=[]/\∃ FS':List FileM,(FS'.map FileM.f).Perm (z6i n A.fs)/\(∀ t ∈ FS',t ∈ FS/\t.f.name≠n)/\(∀ t ∈ FS,t.f.name≠n->t ∈ FS') /\
   Sat w' (pt d (.cells #[.int .i64 A.left,.bool A.gone,.int .i64 A.room,.int .i64 (used (z6i n A.fs)),.map (some m)] T.a8)::z03 ekS evF m (FS'.map λt=>(t.f.name,t.at_))::HP.all (FS'.map z45)::r) :=
 zyd _ n <| by
  delta z0ej AC AE AN AR AS AT Aa Ab Ac Ak Ao Ap Aq Av Az
  (repeat (first|with_reducible (first|refine zh ?_|refine zf ?_|refine z04 ?_|refine z8 hs ?_|refine zl hs ?_|refine ze ?_|refine zt hs λ_ hs=>?_|refine zu hs λ_ _ hs=>?_|refine zr hs λ_ _ hs=>?_|refine zy hs λ_ hs=>?_|refine zv hs λ_ hs=>?_)|(apply wp_must;(focus first|trivial|omega|assumption))|refine z1i ?_|refine wp_lt ?_))
  refine z5p hs (λb hb=>?_) λhb=>?_
  ·obtain ⟨t,ht,rfl,rfl,hA⟩:=zac hp hb
   obtain ⟨FS',hpm,hs⟩:=z8d hs ht
   obtain ⟨h1,h2,-⟩:=apart hp hok hpm
   have hd:=zvv h1 h2
   have hu:used A.fs=t.f.b.length+used (z6i t.f.name A.fs):=by rw [z4d h1,z2a,z4d hd]
   have h3:=hok.used
   refine z3j ?_
   refine z18 ?_ (by simp)
   refine zt hs λw' hs=>?_
   refine zf ?_
   refine z8 hs ?_
   refine zf ?_
   refine z8 hs ?_
   rw [hs.slen t.x (xs:=t.f.b) (enc:=zk),z05z (y:=(used (z6i t.f.name A.fs):Nat))]
   (repeat (first|with_reducible (first|refine zh ?_|refine zf ?_|refine z04 ?_|refine z8 hs ?_|refine zl hs ?_|refine ze ?_|refine zt hs λ_ hs=>?_|refine zu hs λ_ _ hs=>?_|refine zr hs λ_ _ hs=>?_|refine zy hs λ_ hs=>?_|refine zv hs λ_ hs=>?_)|(apply wp_must;(focus first|trivial|omega|assumption))|refine z1i ?_|refine wp_lt ?_))
   refine zga hs (FS'.map λt=>(t.f.name,t.at_)) (.inl ⟨t.at_,hpm.map _⟩) λw' hs=>?_
   refine z5a ?_
   refine ⟨rfl,rfl,FS',hd.symm,λt' ht'=>⟨hpm.mem_iff.2 (List.mem_cons_of_mem _ ht'),h2 _ (List.mem_map.2 ⟨t',ht',rfl⟩)⟩,λt' ht' hne=>?_,hs.sub⟩
   rcases List.mem_cons.1 (hpm.mem_iff.1 ht') with rfl|h
   ·exact absurd rfl hne
   ·exact h
  ·have hn:=z8t hp hb
   refine z3j ?_
   refine z06 ?_ (by simp)
   refine z5a ?_
   rw [zvu hn]
   exact ⟨rfl,rfl,FS,hp,λt ht=>⟨ht,hn _ (hp.mem_iff.1 (List.mem_map.2 ⟨t,ht,rfl⟩))⟩,λt ht _=>ht,hs⟩
theorem z04g {A:DiskA} (h:okA A) (n:ByteArray):okA { A with fs:=z6i n A.fs }:=by
 have hle:used (z6i n A.fs)<=used A.fs:=by
  have:∀ fs:List FileA,used (z6i n fs)<=used fs:=λfs=>by
   induction fs with
   | nil=>exact Nat.le_refl _
   | cons f r ih =>
    unfold z6i at *;rw [z2a,List.filter_cons];split
    ·rw [z2a];omega
    ·omega
  exact this _
 exact ⟨h.room,Nat.le_trans hle h.used,Nat.le_trans (List.length_filter_le _ _) h.many,h.left,zps n h.sorted,λf hf=>h.kept f (zm3.1 hf).1,λf hf=>h.names f (zm3.1 hf).1⟩
theorem ziz {k:Prog} {Q:List Value->World->Prop} (hs:Sat w l) [hf:Fo l dk d A r] (h1:A.gone=true->∀ w',Sat w' (dk d A::r)->Q [.int .i64 9] w') (h0:A.gone=false->∀ w',Sat w' (dk d A::r)->k.wp P tt w' λe vs w=>e=0/\Q vs w) :
  (Prog.call F.a36 [.pointer (some ⟨d,0,none⟩)] (sI .i64) (u1 λ(n0:Int)=>.lt (.int .i64) (n0) λ(n1:Int)=>.ite (n1 != 0) (.lt (.int .i64) (n1) λ(n2:Int)=>.done 0 [.int .i64 n2]) k)).wp P tt w λe vs w=>e=0/\Q vs w:=by
 refine zb (z0gg hs) λ_ _ hs=>?_;obtain ⟨rfl,hs⟩:=hs;refine zd (wp_lt ?_)
 by_cases hg:A.gone=true
 ·rw [if_pos hg];refine z18 ?_ (by decide);exact wp_lt ⟨rfl,h1 hg _ hs⟩
 ·rw [if_neg hg];refine z06 ?_ (by decide);exact h0 (by simpa using hg) _ hs
theorem zdu (n:ByteArray) [hf:Fo l dk d A r] (hs:Sat w l):Ret P F.a31 #[.pointer (some ⟨d,0,none⟩),.string n] w λvs w'=>vs=[.int .i64 (z2c A n).1]/\Sat w' (dk d (z2c A n).2::r) :=
 zy9 _ n <| by
  delta z0ef Aa Ab Ac Ad Al Am An Ao Ap Aq Ar;unfold z2c;refine ziz hs (λhg w' hs=>?_) λhg w' hs=>?_
  ·rw [if_pos hg];exact ⟨rfl,hs⟩
  rw [if_neg (by rw [hg];simp)];obtain ⟨m,FS,hp,hok,hs⟩:=z2h hs
  (repeat (first|with_reducible (first|refine zh ?_|refine zf ?_|refine z04 ?_|refine z8 hs ?_|refine zl hs ?_|refine ze ?_|refine zt hs λ_ hs=>?_|refine zu hs λ_ _ hs=>?_|refine zr hs λ_ _ hs=>?_|refine zy hs λ_ hs=>?_|refine zv hs λ_ hs=>?_)|(apply wp_must;(focus first|trivial|omega|assumption))|refine z1i ?_|refine wp_lt ?_))
  refine z5p hs (λb hb=>?_) λhb=>?_
  ·obtain ⟨t,ht,rfl,rfl,hA⟩:=zac hp hb;refine z06 ?_ (by simp);rw [if_neg (by rw [z6t.2 ⟨_,hA,rfl⟩];simp)];refine zb (z0c3 t.f.name m hp hok hs) λ_ _ hs=>?_;obtain ⟨rfl,FS',hp',-,-,hs⟩:=hs;refine zd ?_
   (repeat (first|with_reducible (first|refine zh ?_|refine zf ?_|refine z04 ?_|refine z8 hs ?_|refine zl hs ?_|refine ze ?_|refine zt hs λ_ hs=>?_|refine zu hs λ_ _ hs=>?_|refine zr hs λ_ _ hs=>?_|refine zy hs λ_ hs=>?_|refine zv hs λ_ hs=>?_)|(apply wp_must;(focus first|trivial|omega|assumption))|refine z1i ?_|refine wp_lt ?_))
   rw [hg] at hs;refine zb (zdz (l':=r) hg (z04g hok t.f.name) hp' hs) λ_ _ hs=>?_;obtain ⟨rfl,hs⟩:=hs;refine zd ?_
   (repeat (first|with_reducible (first|refine zh ?_|refine zf ?_|refine z04 ?_|refine z8 hs ?_|refine zl hs ?_|refine ze ?_|refine zt hs λ_ hs=>?_|refine zu hs λ_ _ hs=>?_|refine zr hs λ_ _ hs=>?_|refine zy hs λ_ hs=>?_|refine zv hs λ_ hs=>?_)|(apply wp_must;(focus first|trivial|omega|assumption))|refine z1i ?_|refine wp_lt ?_))
   exact ⟨rfl,rfl,hs⟩
  ·refine z18 ?_ (by rfl);rw [if_pos (z6u.2 (z8t hp hb))];exact ⟨rfl,rfl,z2l m hp hok hs⟩
theorem ze5 {fs fs':List FileA} {f:FileA} {g:FileA->FileA} (hp:fs.Perm (f::fs')) (hne:∀ g ∈ fs',g.name≠f.name):used (fs.map (z26 f.name g))=(g f).b.length+used fs':=by
 rw [z4d (z7w hp hne),z2a]
theorem z0g7 (n:ByteArray) (k:Int) [hf:Fo l dk d A r] (hs:Sat w l):Ret P F.a26 #[.pointer (some ⟨d,0,none⟩),.string n,.int .i64 k] w λvs w'=>vs=[.int .i64 (cutA' A n k).1]/\Sat w' (dk d (cutA' A n k).2::r) :=
 zy5 _ n k <| by
  delta z0eb AC AE AN AP AR AS AZ Aa Ab Ac Ad Ah Ak Al Am An Ao Ap Aq Ar Av;unfold cutA';refine ziz hs (λhg w' hs=>?_) λhg w' hs=>?_
  ·rw [if_pos hg];exact ⟨rfl,hs⟩
  rw [if_neg (by rw [hg];simp)];obtain ⟨m,FS,hp,hok,hs⟩:=z2h hs
  (repeat (first|with_reducible (first|refine zh ?_|refine zf ?_|refine z04 ?_|refine z8 hs ?_|refine zl hs ?_|refine ze ?_|refine zt hs λ_ hs=>?_|refine zu hs λ_ _ hs=>?_|refine zr hs λ_ _ hs=>?_|refine zy hs λ_ hs=>?_|refine zv hs λ_ hs=>?_)|(apply wp_must;(focus first|trivial|omega|assumption))|refine z1i ?_|refine wp_lt ?_))
  refine z5p hs (λb hb=>?_) λhb=>?_
  ·obtain ⟨t,ht,rfl,rfl,hA⟩:=zac hp hb;refine wp_lt (z06 ?_ (by simp));rw [if_neg (by rw [z6t.2 ⟨_,hA,rfl⟩];simp),z0af (z3q hok.sorted) hA rfl];obtain ⟨FS',hpm,hs⟩:=z8d hs ht;obtain ⟨h1,h2,-⟩:=apart hp hok hpm;have hlen:=hs.slen t.x (xs:=t.f.b) (enc:=zk);have hcap:=(hs.focS t.x).slc_cap
   (repeat (first|with_reducible (first|refine zh ?_|refine zf ?_|refine z04 ?_|refine z8 hs ?_|refine zl hs ?_|refine ze ?_|refine zt hs λ_ hs=>?_|refine zu hs λ_ _ hs=>?_|refine zr hs λ_ _ hs=>?_|refine zy hs λ_ hs=>?_|refine zv hs λ_ hs=>?_)|(apply wp_must;(focus first|trivial|omega|assumption))|refine z1i ?_|refine wp_lt ?_))
   refine zi (λh=>?_) λh=>?_
   ·rw [if_pos (by omega)];have hs:=(z7c t hs).all_perm (hpm.symm.map z45);exact ⟨rfl,rfl,z2l m hp hok hs⟩
   ·rw [if_neg (by omega)]
    obtain ⟨k,rfl⟩:∃ j:Nat,k=j:=⟨k.toNat,by omega⟩
    rw [Int.toNat_natCast]
    have hk:k<=t.f.b.length:=by omega
    have hu0:used A.fs=t.f.b.length+used (FS'.map FileM.f):=by rw [z4d h1,z2a]
    have hu1:=ze5 (g:=λf=>{ f with b:=f.b.take k,kept:=min f.kept k }) h1 h2
    have hu2:used (A.fs.map (z26 t.f.name λf=>{ f with b:=f.b.take k,kept:=min f.kept k }))=k+used (FS'.map FileM.f):=by
     rw [hu1];show (t.f.b.take k).length+_=_;rw [List.length_take,Nat.min_eq_left hk]
    have hou:=hok.used;refine zt hs λw' hs=>zf (z8 hs ?_);refine zf (z8 hs ?_)
    have e1:IntKind.wrap .i64 ((used A.fs:Nat)-IntKind.wrap .i64 (((t.x.len:Nat):Int)-(k:Int)))=(used (A.fs.map (z26 t.f.name λf=>{ f with b:=f.b.take k,kept:=min f.kept k })):Nat):=by
     rw [w64 (x:=((t.x.len:Nat):Int)-(k:Int)) (by omega) (by omega),w64 (by omega) (by omega)];omega
    rw [e1]
    (repeat (first|with_reducible (first|refine zh ?_|refine zf ?_|refine z04 ?_|refine z8 hs ?_|refine zl hs ?_|refine ze ?_|refine zt hs λ_ hs=>?_|refine zu hs λ_ _ hs=>?_|refine zr hs λ_ _ hs=>?_|refine zy hs λ_ hs=>?_|refine zv hs λ_ hs=>?_)|(apply wp_must;(focus first|trivial|omega|assumption))|refine z1i ?_|refine wp_lt ?_))
    have hs:=(hs.focS t.x).slc_cut (n:=k) (by omega);rw [z5u] at hs
    have e2:(if (k:Int)<((t.f.kept:Nat):Int) then (k:Int) else ((t.f.kept:Nat):Int))=((min t.f.kept k:Nat):Int):=by split <;> omega
    rw [e2] at hs;have hs:=z7c (FS:=FS') ⟨t.at_,⟨t.x.a,k,k⟩,⟨t.f.name,t.f.b.take k,min t.f.kept k⟩⟩ hs
    have hp':(((⟨t.at_,⟨t.x.a,k,k⟩,⟨t.f.name,t.f.b.take k,min t.f.kept k⟩⟩:FileM)::FS').map FileM.f).Perm (A.fs.map (z26 t.f.name λf=>{ f with b:=f.b.take k,kept:=min f.kept k })) :=
     (z7w (g:=λf=>{ f with b:=f.b.take k,kept:=min f.kept k }) h1 h2).symm
    have hok':okA { A with fs:=A.fs.map (z26 t.f.name λf=>{ f with b:=f.b.take k,kept:=min f.kept k }) }:=by
     refine ⟨hok.room,by show used (A.fs.map _)<=_;omega,by show (A.fs.map _).length<=_;rw [List.length_map];exact hok.many,hok.left,zdy (za3 λ_=>rfl) hok.sorted,λf hf=>?_,λf hf=>?_⟩;rotate_left
     ·obtain ⟨g,hg,rfl⟩:=List.mem_map.1 hf;rw [za3 (by intro _;rfl)];exact hok.names g hg
     obtain ⟨g,hg,rfl⟩:=List.mem_map.1 hf;have:=hok.kept g hg;unfold z26;split
     ·show min g.kept k<=(g.b.take k).length;rw [List.length_take];omega
     ·exact this
    have hs:Sat _ (z03 ekS evF m (((⟨t.at_,⟨t.x.a,k,k⟩,⟨t.f.name,t.f.b.take k,min t.f.kept k⟩⟩:FileM)::FS').map λt=>(t.f.name,t.at_))::_):=(hs.pick [2]).mapPerm (hpm.map λt=>(t.f.name,t.at_));rw [hg] at hs;refine zb (zdz (l':=r) hg hok' hp' hs) λ_ _ hs=>?_;obtain ⟨rfl,hs⟩:=hs;refine zd ?_
    (repeat (first|with_reducible (first|refine zh ?_|refine zf ?_|refine z04 ?_|refine z8 hs ?_|refine zl hs ?_|refine ze ?_|refine zt hs λ_ hs=>?_|refine zu hs λ_ _ hs=>?_|refine zr hs λ_ _ hs=>?_|refine zy hs λ_ hs=>?_|refine zv hs λ_ hs=>?_)|(apply wp_must;(focus first|trivial|omega|assumption))|refine z1i ?_|refine wp_lt ?_))
    exact ⟨rfl,rfl,hs⟩
  ·refine wp_lt (z18 ?_ (by rfl));rw [if_pos (z6u.2 (z8t hp hb))];exact ⟨rfl,rfl,z2l m hp hok hs⟩
end
section
variable {w:World} {l r:List HP} {d:Nat} {A:DiskA}
theorem zwh {s:ByteArray} (h:z3u s=true):s.size<=24:=by
 simp only [z3u,Bool.and_eq_true,decide_eq_true_eq] at h;exact h.2.2
end
structure TbC where
 next:Int
 l:List AtM
def z0j (l:List AtM) (k:ByteArray):Nat:=(l.filter λa=>ltS a.r.key k).length
def z4j (l:List AtM) (k:ByteArray):Bool:=(l[z0j l k]?).any λa=>decide (a.r.key=k)
def z1w (T:TbC) (r:AtM):TbC:=⟨r.off+1,if z4j T.l r.r.key=true then (if r.r.gone=true then T.l.take (z0j T.l r.r.key)++T.l.drop (z0j T.l r.r.key+1) else T.l.set (z0j T.l r.r.key) r) else if r.r.gone=true then T.l else T.l.take (z0j T.l r.r.key)++r::T.l.drop (z0j T.l r.r.key)⟩
def z1p:Int->List AtM->Bool
 | _,[]=>true
 | f,a::l=>if a.off<f then false else z1p (a.off+1) l
def z5i (l:List AtM):Prop:=l.Pairwise λa b=>ltS a.r.key b.r.key=true
def z7v (xs:List AtM):Bool:=xs.getLast?.any λa=>decide (a.off>1099511627776)
def z2k (T:TbC) (xs:List AtM):Int × TbC:=if z1p T.next xs=false\/z7v xs=true then (8,T) else (0,xs.foldl z1w T)
def zb2 (l:List AtM) (k:ByteArray):Option AtM:=if z4j l k=true then l[z0j l k]? else none
theorem zk7 (l:List AtM) (k:ByteArray):z0j l k<=l.length:=List.length_filter_le ..
theorem z03f {l:List AtM} {k:ByteArray} {i:Nat} (hs:z5i l) (hi:i<=l.length) (h1:∀ (h:i-1<l.length),0<i->ltS l[i-1].r.key k=true) (h2:∀ h:i<l.length,ltS l[i].r.key k=false):z0j l k=i:=by
 unfold z0j;rw [zjd (p:=λa=>ltS a.r.key k) hi (hs.imp λ{a b} hab hb=>z8g hab hb) h1 h2,List.length_take];omega
theorem z7d:∀ {l:List AtM} {k:ByteArray},z5i l->(∀ a ∈ l.take (z0j l k),ltS a.r.key k=true)/\∀ a ∈ l.drop (z0j l k),ltS a.r.key k=false
 | [],k,_=>⟨λa h=>by simp at h,λa h=>by simp at h⟩
 | a::l,k,hs=>by
  obtain ⟨h1,h2⟩:=List.pairwise_cons.1 hs;obtain ⟨i1,i2⟩:=z7d (l:=l) (k:=k) h2
  by_cases h:ltS a.r.key k=true
  ·have e:z0j (a::l) k=z0j l k+1:=by unfold z0j;rw [List.filter_cons_of_pos (by simpa using h),List.length_cons]
   rw [e,List.take_succ_cons,List.drop_succ_cons];refine ⟨λb hb=>?_,i2⟩
   rcases List.mem_cons.1 hb with rfl|hb
   ·exact h
   ·exact i1 b hb
  ·have h0:∀ b ∈ a::l,ltS b.r.key k=false:=λb hb=>by
    rcases List.mem_cons.1 hb with rfl|hb
    ·simpa using h
    ·cases hk:ltS b.r.key k with
     | false=>rfl
     | true=>exact absurd (z8g (h1 b hb) hk) h
   have e:z0j (a::l) k=0:=by
    unfold z0j;rw [List.filter_eq_nil_iff.2 λb hb=>by simp [h0 b hb]];rfl
   rw [e];exact ⟨λb hb=>by simp at hb,λb hb=>h0 b (by simpa using hb)⟩
theorem z77 {l:List AtM} {k:ByteArray}:z4j l k=true↔∃ h:z0j l k<l.length,l[z0j l k].r.key=k:=by
 unfold z4j
 by_cases h:z0j l k<l.length
 ·rw [List.getElem?_eq_getElem h];simp [h]
 ·rw [List.getElem?_eq_none (by omega)];simp [h]
theorem zty {l:List AtM} {k:ByteArray} (hs:z5i l) (ht:z4j l k=false):∀ a ∈ l.drop (z0j l k),ltS k a.r.key=true:=λa ha=>by
 have h1:=(z7d (k:=k) hs).2;have hd:(l.drop (z0j l k)).Pairwise λa b=>ltS a.r.key b.r.key=true:=hs.sublist (List.drop_sublist ..)
 have hnt:¬ ∃ h:z0j l k<l.length,l[z0j l k].r.key=k:=λh=>by rw [z77.2 h] at ht;cases ht
 by_cases hl:z0j l k<l.length
 ·rw [List.drop_eq_getElem_cons hl] at ha hd h1
  have h0:ltS k l[z0j l k].r.key=true:=by
   rcases zm0 k l[z0j l k].r.key with h|h|h
   ·exact h
   ·exact absurd ⟨hl,h.symm⟩ hnt
   ·rw [h1 _ (List.mem_cons_self ..)] at h;cases h
  rcases List.mem_cons.1 ha with rfl|ha
  ·exact h0
  ·exact z8g h0 ((List.pairwise_cons.1 hd).1 a ha)
 ·rw [List.drop_eq_nil_of_le (by omega)] at ha;cases ha
theorem zi2 {T:TbC} (r:AtM) (hs:z5i T.l):z5i (z1w T r).l:=by
 unfold z1w;split
 ·rename_i ht
  obtain ⟨hi,hk⟩:=z77.1 ht;split
  ·rw [<- List.eraseIdx_eq_take_drop_succ];exact hs.sublist (List.eraseIdx_sublist ..)
  ·have e:(T.l.set (z0j T.l r.r.key) r).map (λa=>a.r.key)=T.l.map λa=>a.r.key:=by
    rw [List.map_set];apply List.ext_getElem (by simp);intro j h1 h2;rw [List.getElem_set];split
    ·rename_i e;subst e;simp [hk]
    ·rfl
   have h1:(T.l.map λa=>a.r.key).Pairwise λa b=>ltS a b=true:=by rw [List.pairwise_map];exact hs
   rw [<- e,List.pairwise_map] at h1;exact h1
 ·rename_i ht
  have ht:z4j T.l r.r.key=false:=by simpa using ht
  split
  ·exact hs
  ·have hg:=zty hs ht;obtain ⟨h1,-⟩:=z7d (k:=r.r.key) hs;refine List.pairwise_append.2 ⟨hs.sublist (List.take_sublist ..),List.pairwise_cons.2 ⟨hg,hs.sublist (List.drop_sublist ..)⟩,λa ha b hb=>?_⟩
   rcases List.mem_cons.1 hb with rfl|hb
   ·exact h1 a ha
   ·exact z8g (h1 a ha) (hg b hb)
theorem zv1 (T:TbC) (r:AtM):(z1w T r).l.length<=T.l.length+1:=by
 unfold z1w;have:=zk7 T.l r.r.key;split
 ·split
  ·simp only [List.length_append,List.length_take,List.length_drop];omega
  ·simp
 ·split
  ·exact Nat.le_succ _
  ·simp only [List.length_append,List.length_cons,List.length_take,List.length_drop];omega
theorem zdx:∀ (xs:List AtM) (T:TbC),(xs.foldl z1w T).l.length<=T.l.length+xs.length
 | [],T=>Nat.le_refl _
 | x::xs,T=>by
  have h1:=zdx xs (z1w T x);have h2:=zv1 T x;rw [List.foldl_cons,List.length_cons];omega
theorem zb8 {a b:ByteArray} (h:ltS a b=true):a≠b:=λe=>by rw [e,z8q] at h;cases h
theorem zcs {l:List AtM} {k:ByteArray} {a:AtM} (hs:z5i l):zb2 l k=some a↔a ∈ l/\a.r.key=k:=by
 unfold zb2;constructor
 ·intro h;split at h
  ·rename_i ht
   obtain ⟨hi,hk⟩:=z77.1 ht;rw [List.getElem?_eq_getElem hi] at h;obtain rfl:=Option.some.inj h;exact ⟨List.getElem_mem hi,hk⟩
  ·cases h
 ·rintro ⟨hm,hk⟩;obtain ⟨h1,h2⟩:=z7d (k:=k) hs
  have hm':a ∈ l.take (z0j l k)++l.drop (z0j l k):=by rw [List.take_append_drop];exact hm
  rcases List.mem_append.1 hm' with hm|hm
  ·exact absurd hk (zb8 (h1 a hm))
  ·by_cases hi:z0j l k<l.length
   ·have hd:(l.drop (z0j l k)).Pairwise λa b=>ltS a.r.key b.r.key=true:=hs.sublist (List.drop_sublist ..);rw [List.drop_eq_getElem_cons hi] at hm h2 hd
    rcases List.mem_cons.1 hm with rfl|hm
    ·rw [if_pos (z77.2 ⟨hi,hk⟩),List.getElem?_eq_getElem hi]
    ·have:=(List.pairwise_cons.1 hd).1 a hm;rw [hk,h2 _ (List.mem_cons_self ..)] at this;cases this
   ·rw [List.drop_eq_nil_of_le (by omega)] at hm;cases hm
theorem zfp {l:List AtM} {k:ByteArray}:z4j l k=(zb2 l k).isSome:=by
 unfold zb2;split
 ·rename_i h
  obtain ⟨hi,-⟩:=z77.1 h;rw [h,List.getElem?_eq_getElem hi];rfl
 ·rename_i h
  simpa using h
theorem zug {T:TbC} {r x:AtM} (hs:z5i T.l):x ∈ (z1w T r).l↔(x=r/\r.r.gone=false)\/(x ∈ T.l/\x.r.key≠r.r.key):=by
 obtain ⟨h1,h2⟩:=z7d (k:=r.r.key) hs;have h1:∀ a ∈ T.l.take (z0j T.l r.r.key),a.r.key≠r.r.key:=λa ha=>zb8 (h1 a ha)
 have hl:x ∈ T.l↔x ∈ T.l.take (z0j T.l r.r.key)\/x ∈ T.l.drop (z0j T.l r.r.key):=by
  rw [<- List.mem_append,List.take_append_drop]
 unfold z1w
 by_cases ht:z4j T.l r.r.key=true
 ·obtain ⟨hi,hk⟩:=z77.1 ht;have hd:(T.l.drop (z0j T.l r.r.key)).Pairwise λa b=>ltS a.r.key b.r.key=true:=hs.sublist (List.drop_sublist ..);rw [List.drop_eq_getElem_cons hi] at hd hl
  have h3:∀ a ∈ T.l.drop (z0j T.l r.r.key+1),a.r.key≠r.r.key:=λa ha e=>by
   have:=(List.pairwise_cons.1 hd).1 a ha;rw [hk] at this;exact zb8 this e.symm
  rw [if_pos ht,hl]
  by_cases hg:r.r.gone=true
  ·rw [if_pos hg];simp only [List.mem_append,List.mem_cons,hg,Bool.true_eq_false,and_false,false_or];constructor
   ·rintro (h|h)
    ·exact ⟨.inl h,h1 _ h⟩
    ·exact ⟨.inr (.inr h),h3 _ h⟩
   ·rintro ⟨h|h|h,hne⟩
    ·exact .inl h
    ·exact absurd (by rw [h];exact hk) hne
    ·exact .inr h
  ·have hg:r.r.gone=false:=by simpa using hg
   rw [if_neg (by rw [hg];simp),List.set_eq_take_append_cons_drop,if_pos hi];simp only [List.mem_append,List.mem_cons,hg,and_true];constructor
   ·rintro (h|h|h)
    ·exact .inr ⟨.inl h,h1 _ h⟩
    ·exact .inl h
    ·exact .inr ⟨.inr (.inr h),h3 _ h⟩
   ·rintro (h|⟨h|h|h,hne⟩)
    ·exact .inr (.inl h)
    ·exact .inl h
    ·exact absurd (by rw [h];exact hk) hne
    ·exact .inr (.inr h)
 ·have ht:z4j T.l r.r.key=false:=by simpa using ht
  have h3:∀ a ∈ T.l.drop (z0j T.l r.r.key),a.r.key≠r.r.key:=λa ha=>(zb8 (zty hs ht a ha)).symm;rw [if_neg (by rw [ht];simp)]
  by_cases hg:r.r.gone=true
  ·rw [if_pos hg];simp only [hg,Bool.true_eq_false,and_false,false_or];constructor
   ·intro h;refine ⟨h,?_⟩
    rcases hl.1 h with h|h
    ·exact h1 _ h
    ·exact h3 _ h
   ·exact λh=>h.1
  ·have hg:r.r.gone=false:=by simpa using hg
   rw [if_neg (by rw [hg];simp),hl];simp only [List.mem_append,List.mem_cons,hg,and_true];constructor
   ·rintro (h|h|h)
    ·exact .inr ⟨.inl h,h1 _ h⟩
    ·exact .inl h
    ·exact .inr ⟨.inr h,h3 _ h⟩
   ·rintro (h|⟨h|h,hne⟩)
    ·exact .inr (.inl h)
    ·exact .inl h
    ·exact .inr (.inr h)
theorem z09z {T:TbC} {r:AtM} (hs:z5i T.l) (k:ByteArray):zb2 (z1w T r).l k=if r.r.key=k then (if r.r.gone=true then none else some r) else zb2 T.l k:=by
 apply Option.ext;intro a;rw [zcs (zi2 r hs),zug hs]
 by_cases hk:r.r.key=k
 ·rw [if_pos hk]
  by_cases hg:r.r.gone=true
  ·rw [if_pos hg];simp only [hg,Bool.true_eq_false,and_false,false_or,reduceCtorEq,iff_false];rintro ⟨⟨h,h1⟩,h2⟩;exact h1 (h2.trans hk.symm)
  ·rw [if_neg hg]
   have hg:r.r.gone=false:=by simpa using hg
   simp only [hg,and_true,Option.some.injEq];constructor
   ·rintro ⟨h|⟨h,h1⟩,h2⟩
    ·exact h.symm
    ·exact absurd (h2.trans hk.symm) h1
   ·rintro rfl;exact ⟨.inl rfl,hk⟩
 ·rw [if_neg hk,zcs hs];constructor
  ·rintro ⟨⟨h,-⟩|⟨h,h1⟩,h2⟩
   ·rw [h] at h2;exact absurd h2 hk
   ·exact ⟨h,h2⟩
  ·rintro ⟨h,h2⟩;exact ⟨.inr ⟨h,λe=>hk (e.symm.trans h2)⟩,h2⟩
def zn6 (L:List RecM) (k:ByteArray):Option RecM:=L.reverse.find? λr=>decide (r.key=k)
def zab (L:List RecM) (k:ByteArray):Option RecM:=(zn6 L k).filter λr=>!r.gone
theorem zlx (L:List RecM) (x:RecM) (k:ByteArray):zn6 (L++[x]) k=if x.key=k then some x else zn6 L k:=by
 unfold zn6;rw [List.reverse_append];show ([x]++L.reverse).find? _=_;rw [List.singleton_append,List.find?_cons]
 by_cases h:x.key=k
 ·rw [if_pos h,decide_eq_true h]
 ·rw [if_neg h,decide_eq_false h]
structure InvL (T:TbC) (L:List RecM):Prop where
 sort:z5i T.l
 gone:∀ a ∈ T.l,a.r.gone=false
 get:∀ k,(zb2 T.l k).map (·.r)=zab L k
theorem zoj (n:Int):InvL ⟨n,[]⟩ []:=⟨.nil,λ_ h=>(by cases h),λk=>rfl⟩
theorem z03v {T:TbC} {L:List RecM} (r:AtM) (h:InvL T L):InvL (z1w T r) (L++[r.r]):=by
 refine ⟨zi2 r h.sort,λa ha=>?_,λk=>?_⟩
 ·rcases (zug h.sort).1 ha with ⟨rfl,h1⟩|⟨h1,-⟩
  ·exact h1
  ·exact h.gone a h1
 ·rw [z09z h.sort];unfold zab;rw [zlx]
  by_cases hk:r.r.key=k
  ·rw [if_pos hk,if_pos hk]
   by_cases hg:r.r.gone=true
   ·rw [if_pos hg,Option.filter_some,if_neg (by rw [hg];simp)];rfl
   ·rw [if_neg hg,Option.filter_some,if_pos (by simpa using hg)];rfl
  ·rw [if_neg hk,if_neg hk];exact h.get k
theorem zez:∀ (xs:List AtM) {T:TbC} {L:List RecM},InvL T L->InvL (xs.foldl z1w T) (L++xs.map (·.r))
 | [],T,L,h=>by rw [List.map_nil,List.append_nil];exact h
 | x::xs,T,L,h=>by
  have:=zez xs (z03v x h);rw [List.append_assoc] at this;exact this
theorem zw5 {T:TbC} {L:List RecM} (h:InvL T L) (k:ByteArray):k ∈ T.l.map (λa=>a.r.key)↔(zab L k).isSome=true:=by
 rw [<- h.get k,Option.isSome_map,<- zfp,List.mem_map];constructor
 ·rintro ⟨a,ha,rfl⟩;rw [zfp,(zcs h.sort).2 ⟨ha,rfl⟩];rfl
 ·intro ht;rw [zfp,Option.isSome_iff_exists] at ht;obtain ⟨a,ha⟩:=ht;obtain ⟨h1,h2⟩:=(zcs h.sort).1 ha;exact ⟨a,h1,h2⟩
structure RowA where
 pid:Int
 epoch:Int
 seq:Int
 count:Int
 base:Int
 frm:Int
 time:Int
def zk2 (t:RowA):List Value:=[.int .i64 t.pid,.int .i64 t.epoch,.int .i64 t.seq,.int .i64 t.count,.int .i64 t.base,.int .i64 t.frm,.int .i64 t.time]
abbrev evW (t:RowA):Value:=.agg #[.int .i64 t.pid,.int .i64 t.epoch,.int .i64 t.seq,.int .i64 t.count,.int .i64 t.base,.int .i64 t.frm,.int .i64 t.time]
theorem zm4 {K V:Type} {kk:K} {v v':V}:∀ {es:List (K × V)},(es.map Prod.fst).Nodup->(kk,v) ∈ es->(kk,v') ∈ es->v'=v
 | a::r,hnd,hv,hv'=>by
  rw [List.map_cons,List.nodup_cons] at hnd
  rcases List.mem_cons.1 hv with h1|h1 <;> rcases List.mem_cons.1 hv' with h2|h2
  ·rw [<- h1] at h2;exact (Prod.mk.inj h2).2
  ·exact absurd (List.mem_map.2 ⟨_,h2,by rw [<- h1]⟩) hnd.1
  ·exact absurd (List.mem_map.2 ⟨_,h1,by rw [<- h2]⟩) hnd.1
  ·exact zm4 hnd.2 h1 h2
section
variable {K V:Type} {ek:K->Value} {ev:V->Value} {m:Nat} {es:List (K × V)} {P:Program} {w:World} {l r:List HP} {Q:Post} {S:World->Prop} {T kt:TypeId} {z:Value} {g:Prop} {kk:K} {kv:Value}
theorem zua [hf:FoM l m ek ev es r] [hT:MapT P T kt z] [hk:KeyT P kt ek] [hkv:IsK ek kv kk] (hs:Sat w l) {v:V} (hv:(kk,v) ∈ es) {ss:List Sh1} {x:HL (prims ss)} (hx:z1e ss x=[ev v,.bool true]) :
  (Instr.lookup T (.map (some m)) kv true).run P w=.ok ((Sh.tup ss).mk x) w:=by
 have hs:=hs.perm hf.perm;have hnd:=hs.mapNodup
 rcases zdv (P:=P) (T:=T) true hs kk with ⟨v',hv',hr⟩|⟨hno,-⟩
 ·have:v'=v:=zm4 hnd hv hv';rw [hkv.ok,hr,this];show Result.ok (Value.tuple #[ev v,.bool true]) w=Result.ok (Value.tuple (z1e ss x).toArray) w;rw [hx]
 ·exact absurd hv (hno _)
theorem zop [hf:FoM l m ek ev es r] [hT:MapT P T kt z] [hk:KeyT P kt ek] [hkv:IsK ek kv kk] (hs:Sat w l) (hv:∀ v,(kk,v) ∉ es) {ss:List Sh1} {x:HL (prims ss)} (hx:z1e ss x=[z,.bool false]) :
  (Instr.lookup T (.map (some m)) kv true).run P w=.ok ((Sh.tup ss).mk x) w:=by
 have hs:=hs.perm hf.perm
 rcases zdv (P:=P) (T:=T) true hs kk with ⟨v',hv',hr⟩|⟨-,hr⟩
 ·exact absurd hv' (hv _)
 ·rw [hkv.ok,hr];show Result.ok (Value.tuple #[z,.bool false]) w=Result.ok (Value.tuple (z1e ss x).toArray) w;rw [hx]
theorem ze8 {ss:List Sh1} {k:HL (prims ss)->Prog} [hf:FoM l m ek ev es r] [hT:MapT P T kt z] [hk:KeyT P kt ek] [hkv:IsK ek kv kk] (hs:Sat w l) (o:Option V) (ho:(∃ v,o=some v/\(kk,v) ∈ es)\/(o=none/\∀ v,(kk,v) ∉ es)) (d:Option V->HL (prims ss))
  (h:(k (d o)).wp P (λw'=>S w'/\(g->(Instr.lookup T (.map (some m)) kv true).run P w'=.ok ((Sh.tup ss).mk (d o)) w')) w Q) (h1:∀ v,z1e ss (d (some v))=[ev v,.bool true]:=by intros;rfl) (h0:z1e ss (d none)=[z,.bool false]:=by rfl) :
  (Prog.hold g (Instr.lookup T (.map (some m)) kv true) (.tup ss) k).wp P S w Q:=by
 refine ⟨d o,λ_=>?_,h⟩
 rcases ho with ⟨v,rfl,hv⟩|⟨rfl,hv⟩
 ·exact zua hs hv (h1 v)
 ·exact zop hs hv h0
theorem z9v {ss:List Sh1} [hf:FoM l m ek ev es r] [hT:MapT P T kt z] [hk:KeyT P kt ek] [hkv:IsK ek kv kk] (hs:Sat w l) {o:Option V} (ho:(∃ v,o=some v/\(kk,v) ∈ es)\/(o=none/\∀ v,(kk,v) ∉ es)) (d:Option V->HL (prims ss))
  (h1:∀ v,z1e ss (d (some v))=[ev v,.bool true]:=by intros;rfl) (h0:z1e ss (d none)=[z,.bool false]:=by rfl) :
  (Instr.lookup T (.map (some m)) kv true).run P w=.ok ((Sh.tup ss).mk (d o)) w:=by
 rcases ho with ⟨v,rfl,hv⟩|⟨rfl,hv⟩
 ·exact zua hs hv (h1 v)
 ·exact zop hs hv h0
theorem z063 {ss:List Sh1} {k:HL (prims ss)->Prog} [hf:FoM l m ek ev es r] [hT:MapT P T kt z] [hk:KeyT P kt ek] [hkv:IsK ek kv kk] (hs:Sat w l) (o:Option V) (ho:(∃ v,o=some v/\(kk,v) ∈ es)\/(o=none/\∀ v,(kk,v) ∉ es)) (d:Option V->HL (prims ss))
  (h:(k (d o)).wp P S w Q) (h1:∀ v,z1e ss (d (some v))=[ev v,.bool true]:=by intros;rfl) (h0:z1e ss (d none)=[z,.bool false]:=by rfl) :
  (Prog.read g (Instr.lookup T (.map (some m)) kv true) (.tup ss) k).wp P S w Q :=
 ⟨d o,λ_=>z9v hs ho d h1 h0,h⟩
end
section
variable {P:Program} {w:World} {l r:List HP} {Q:Post} {S:World->Prop} {t:TypeId} {sz:Nat}
theorem zve {α:Type} {enc:α->List Value} {xs:List α} {x:Sl} {T:TypeId} {m q:Nat} {ii:Int} {gg g':Prop} {ps:List Pr} {dec:α->HL ps} {k:HL ps->Prog} (hs:Sat w l) [hf:FocR l x sz (xs.flatMap enc)] [hE:EncN enc sz] [hD:EncA enc ps dec] [hT:Agg P T q]
  (n:Nat) (hn:n<xs.length) (h:(k (dec xs[n])).wp P S w Q) (hm:m=n*sz:=by rfl) (hi:ii=n:=by rfl) (hq:Nat.beq sz q=true:=by rfl) :
  (Prog.ex [.adr] (c1 λa=>gg->(0:Int)<=ii/\ii<((x.len:Nat):Int)/\x.a=some a) (u1 λa=>.read g' (ld T (Addr.add a m)) (.one (.agg ps)) k)).wp P S w Q:=by
 have hq:=Nat.eq_of_beq_eq_true hq;subst hm hi hq;have hr:=hf.rd w hs;have hl:x.len=xs.length:=hr.len hE.len hE.pos;obtain ⟨a,ha,he⟩:=hr.el hE.len (by omega);refine ⟨(a,()),λ_=>⟨by omega,by omega,ha⟩,dec xs[n],λ_=>?_,h⟩;have:=he n hn;have h2:=At.ldA (P:=P) (T:=T) this (hE.len _);rw [hD.ok] at h2;exact h2
theorem zne {α β γ δ:Type} {f:α->β->γ->δ->Prog} (a:α) (b:β) (c:γ) (d:δ) (h:(f a b c d).wp P S w Q):(u4 f (a,b,c,d,())).wp P S w Q:=h
theorem FocR.nil' (sz:Nat):FocR l ⟨none,0,0⟩ sz ([]:List Value):=⟨λ_ _=>⟨(Nat.zero_mul sz).symm,.inl rfl⟩⟩
theorem z9k {α:Type} {enc:α->List Value} {n:Nat} {ps:Array (Nat × Value)} {el:TypeId} {bytes:Nat} {k:Sl->Prog} (hs:Sat w l) [ht:SlT P t el sz bytes] [hE:EncN enc sz] (xs:List α)
  (h:∀ x w',Sat w' (slc el sz x (xs.flatMap enc)::l)->(k x).wp P S w' Q) (hc:z4e P t n ps=some (el,(xs.flatMap enc).toArray):=by kernel_rfl) (hn:xs.length=n:=by rfl) (hS:∀ w',S w':=by exact λ_=>trivial) :
  (Prog.act (Instr.buildSlice t n ps) sL (u1 k)).wp P S w Q:=zav hs xs hc (λb w' hs=>h _ w' hs) (by simp) hn hS
end
section
variable {P:Program} {w:World} {l r:List HP} {Q:Post} {S:World->Prop} {α β γ δ ε ζ η θ:Type}
theorem z23 {f:α->β->Prog} (a:α) (b:β) (h:(f a b).wp P S w Q):(u2 f (a,b,())).wp P S w Q:=h
theorem z90 {f:α->β->γ->Prog} (a:α) (b:β) (c:γ) (h:(f a b c).wp P S w Q):(u3 f (a,b,c,())).wp P S w Q:=h
theorem z81 {f:α->β->γ->δ->ε->Prog} (a:α) (b:β) (c:γ) (d:δ) (e:ε) (h:(f a b c d e).wp P S w Q):(u5 f (a,b,c,d,e,())).wp P S w Q:=h
theorem zxi {f:α->β->γ->δ->ε->ζ->η->Prog} (a:α) (b:β) (c:γ) (d:δ) (e:ε) (z:ζ) (y:η) (h:(f a b c d e z y).wp P S w Q):(u7 f (a,b,c,d,e,z,y,())).wp P S w Q:=h
theorem zgc {f:α->β->γ->δ->ε->ζ->η->θ->Prog} (a:α) (b:β) (c:γ) (d:δ) (e:ε) (z:ζ) (y:η) (x:θ) (h:(f a b c d e z y x).wp P S w Q):(u8 f (a,b,c,d,e,z,y,x,())).wp P S w Q:=h
theorem z0bm {α:Type} {enc:α->List Value} {xs:List α} {i i':Int} {x:Sl} {T t:TypeId} {sz n':Nat} {k:Prog} {us:List Value} (hs:Sat w l) [hf:FocS l x T sz (xs.flatMap enc) r] [hE:EncN enc sz] [hT:Agg P t n'] (n:Nat) (hn:n<xs.length) (y:α)
  (h:∀ w',Sat w' (slc T sz x ((xs.set n y).flatMap enc)::r)->k.wp P S w' Q) (hy:us=enc y:=by rfl) (hi:i=n:=by first|rfl|omega) (hi':i'=i:=by rfl) (hz:Nat.beq sz n'=true:=by rfl) (hS:∀ w',S w':=by exact λ_=>trivial) :
  (Prog.ex [.adr] (c1 λa=>0<=i/\i<((x.len:Nat):Int)/\x.a=some a) (u1 λa=>.actU (st t (Addr.add a (Int.toNat i'*sz)) (.agg us.toArray)) k)).wp P S w Q:=by
 have hz:=Nat.eq_of_beq_eq_true hz;subst hi hi' hz;have hr:=(hs.focS x).rd;have hl:x.len=xs.length:=hr.len hE.len hE.pos;obtain ⟨a,ha,he⟩:=hr.el hE.len (by omega);refine ⟨(a,()),⟨by omega,by omega,ha⟩,?_⟩
 exact zjr (xs:=xs) (i:=n) (y:=y) hE.len hs ha hn (λb o e=>by subst e;rw [z2d,Int.toNat_natCast]) hT.ok.2 (by show us.toArray.toList=_;rw [hy]) (hE.one y) λw' hs'=>⟨hS _,h w' hs'⟩
theorem z02j {f : FuncId} {cap : Array Value} {args : List Value} {s : Sh} {k : HL s.prims → Prog} {vs₀ : List Value} {R : World → Prop} (hok : (P.funcs[f]?).any (fun fn => fn.body.isSome && fn.name != "runtime.NumGoroutine") = true) (x : HL s.prims)
  (hc:Ret P f (args.toArray++cap) w λvs w'=>vs=vs₀/\R w') (hx:z9e vs₀=s.mk x) (h:∀ w',R w'->S w'/\(k x).wp P S w' Q):(Prog.callv (.func (.func f) #[] cap) args s k).wp P S w Q:=by
 refine ⟨f,#[],cap,rfl,hok,?_⟩
 have e:(#[]:Array Value)++args.toArray++cap=args.toArray++cap:=by simp
 rw [e];exact Calls.mono hc λe w' ⟨vs,he,hv,hR⟩=>⟨x,by rw [he,hv,hx],h w' hR⟩
end
section
variable {P:Program} {w:World} {l r:List HP} {Q:Post} {S:World->Prop} {b off:Nat} {T T':TypeId} {g:Prop}
theorem z0b3 {a:Addr} {vs:List Value} {fr:Nat × Nat} {ps:List Pr} (x:HL ps) {n:Nat} (hs:Sat w l) [ha:AddrIs a b off] [hb:FocB l b (.cells vs.toArray T' fr) r] [hT:Agg P T n] (hx:(vs.drop off).take n=HL.vals ps x) (hn:(HL.vals ps x).length=n) :
  (ld T a).run P w=.ok ((Sh.one (.agg ps)).mk x) w:=by
 rw [ha.ok];refine At.ldA (P:=P) (T:=T) (vs:=HL.vals ps x) ⟨b,off,vs.toArray,T',fr,rfl,(hs.focB b).get,λi hi=>?_⟩ hn;rw [<- hx,List.getElem?_take,if_pos (by omega),List.getElem?_drop];simp
theorem zq4 {a:Addr} {vs:List Value} {fr:Nat × Nat} {ps:List Pr} {k:HL ps->Prog} (hs:Sat w l) (x:HL ps) {n:Nat} [ha:AddrIs a b off] [hb:FocB l b (.cells vs.toArray T' fr) r] [hT:Agg P T n] {p:Prog} [hA:App k x p]
  (h:p.wp P S w Q) (hx:(vs.drop off).take n=HL.vals ps x:=by rfl) (hn:(HL.vals ps x).length=n:=by rfl):(Prog.read g (ld T a) (.one (.agg ps)) k).wp P S w Q :=
 ⟨x,λ_=>z0b3 (T:=T) x hs hx hn,by rw [hA.ok];exact h⟩
end
structure TabA where
 most:Int
 next:Int
 rows:List RowA
def z62 (A:TabA) (pid:Int):Option RowA:=A.rows.find? λr=>decide (r.pid=pid)
def z0da (pid:Int):RowA:=⟨pid,-1,0,0,0,-1,0⟩
def z12 (A:TabA) (pid:Int):RowA:=(z62 A pid).getD (z0da pid)
def zaf (rs:List RowA):List RowA:=rs.filter λr=>decide (0<=r.frm)
structure okRw (r:RowA) (next:Int):Prop where
 pid:1<=r.pid/\r.pid<=1048576
 epoch:0<=r.epoch/\r.epoch<=32768
 time:0<=r.time/\r.time<=1099511627776
 count:0<=r.count/\r.count<=64
 seq:0<=r.seq
 base:0<=r.base
 frm : -1<=r.frm
 none_:r.count=0->r.seq=0/\r.base=0/\r.frm = -1
 some_:0<r.count->r.epoch<=32767/\r.seq+r.count<=2147483648/\r.base+r.count<=next/\r.frm<=r.base
structure okTb (A:TabA):Prop where
 most:1<=A.most/\A.most<=4096
 next:0<=A.next/\A.next<=1099511627777
 many:(A.rows.length:Int)<=A.most
 row:∀ r ∈ A.rows,okRw r A.next
 byPid:A.rows.Pairwise λa b=>a.pid<b.pid
 apart:(zaf A.rows).Pairwise λa b=>a.frm≠b.frm
instance:KeyT P T.a14 ekI:=zol (by kernel_rfl)
instance:MapT P T.a20 T.a14 (.agg #[.int .i64 0,.int .i64 0,.int .i64 0,.int .i64 0,.int .i64 0,.int .i64 0,.int .i64 0]):=⟨T.a5,by kernel_rfl,by kernel_rfl⟩
def z3s (rs:List RowA):List (Int × RowA):=rs.map λr=>(r.pid,r)
def tb (t:Nat) (A:TabA):HP:=HP.ex λm:Nat=>HP.and (okTb A) (HP.star (pt t (.cells #[.int .i64 A.most,.int .i64 A.next,.map (some m)] T.a6)) (z03 ekI evW m (z3s A.rows)))
theorem okRw.seqs {r:RowA} {next:Int} (h:okRw r next):r.seq+r.count<=2147483648:=by
 have h1:=h.count;have h2:=h.seq
 rcases Int.lt_or_le 0 r.count with h3|h3
 ·exact (h.some_ h3).2.1
 ·have:=(h.none_ (by omega)).1;omega
theorem z2z {A:TabA} {pid:Int} {t:RowA} (h:z62 A pid=some t):t ∈ A.rows/\t.pid=pid:=⟨List.mem_of_find?_eq_some h,by simpa using List.find?_some h⟩
theorem zfm {A:TabA} {pid:Int} (h:z62 A pid=none):∀ t ∈ A.rows,t.pid≠pid:=λt ht=>by simpa using List.find?_eq_none.1 h t ht
theorem zmg (A:TabA) (pid:Int):(∃ t,z62 A pid=some t/\(pid,t) ∈ z3s A.rows)\/(z62 A pid=none/\∀ t,(pid,t) ∉ z3s A.rows):=by
 cases h:z62 A pid with
 | some t=>exact .inl ⟨t,rfl,List.mem_map.2 ⟨t,(z2z h).1,by rw [(z2z h).2]⟩⟩
 | none=>exact .inr ⟨rfl,λt ht=>by
   obtain ⟨u,hu,e⟩:=List.mem_map.1 ht;simp only [Prod.mk.injEq] at e
   exact zfm h u hu e.1⟩
theorem zkm {A:TabA} (hok:okTb A) (pid:Int):0<=(z12 A pid).seq/\0<=(z12 A pid).count/\(z12 A pid).seq+(z12 A pid).count<=2147483648 /\ -1<=(z12 A pid).epoch/\(z12 A pid).epoch<=32768 /\ -1<=(z12 A pid).frm/\(z12 A pid).pid=pid:=by
 unfold z12
 cases h:z62 A pid with
 | none=>simp [z0da]
 | some t =>
  have h1:=hok.row t (z2z h).1;have:=h1.seqs;have:=h1.seq;have:=h1.count;have:=h1.epoch;have:=h1.frm;have:=(z2z h).2;simp only [Option.getD_some];omega
section
variable {w:World} {l r r1 r2 l':List HP} {t:Nat} {A:TabA}
theorem zd1 (hs:Sat w (tb t A::l)):∃ m:Nat,okTb A/\Sat w (pt t (.cells #[.int .i64 A.most,.int .i64 A.next,.map (some m)] T.a6)::z03 ekI evW m (z3s A.rows)::l):=by
 obtain ⟨m,hs⟩:=hs.ex;obtain ⟨hok,hs⟩:=hs.and;exact ⟨m,hok,hs.star⟩
theorem z0gl (m:Nat) (hok:okTb A) (hs:Sat w (pt t (.cells #[.int .i64 A.most,.int .i64 A.next,.map (some m)] T.a6)::z03 ekI evW m (z3s A.rows)::l)):Sat w (tb t A::l):=.ex_mk m (.and_mk hok (.star_mk hs))
theorem z40 (m:Nat) (hok:okTb A) (hs:Sat w l) {es1:List (Int × RowA)} [h1:FocB l t (.cells [.int .i64 A.most,.int .i64 A.next,.map (some m)].toArray T.a6) r1] [h2:FoM r1 m ekI evW es1 r2] [h4:Sub r2 l']
  (hp1:es1.Perm (z3s A.rows):=by exact .refl _):Sat w (tb t A::l'):=by
 have hs:=hs.perm (h1.perm.trans (.cons _ h2.perm));have hs:=((hs.pick [1]).mapPerm hp1).pick [1];have hs:Sat w (tb t A::r2):=z0gl m hok hs;exact hs.sub
theorem z06o (hs:Sat w (tb t A::l)):okTb A:=(zd1 hs).choose_spec.1
instance {r:RowA} {b:Bool}:IsR (.tup [.agg [.int .i64,.int .i64,.int .i64,.int .i64,.int .i64,.int .i64,.int .i64],.one .bool]) [.agg (zk2 r).toArray,.bool b] (r.pid,r.epoch,r.seq,r.count,r.base,r.frm,r.time,b,()):=⟨rfl⟩
def z0gf (o:Option RowA):Int × Int × Int × Int × Int × Int × Int × Bool × Unit :=
 ((o.getD ⟨0,0,0,0,0,0,0⟩).pid,(o.getD ⟨0,0,0,0,0,0,0⟩).epoch,(o.getD ⟨0,0,0,0,0,0,0⟩).seq,(o.getD ⟨0,0,0,0,0,0,0⟩).count,(o.getD ⟨0,0,0,0,0,0,0⟩).base,(o.getD ⟨0,0,0,0,0,0,0⟩).frm,(o.getD ⟨0,0,0,0,0,0,0⟩).time,o.isSome,())
theorem z0dj (most:Int) (hs:Sat w l):Ret P F.a15 #[.int .i64 most] w λvs w' =>
  (1<=most/\most<=4096/\∃ t,vs=[.pointer (some ⟨t,0,none⟩),.int .i64 0]/\Sat w' (tb t ⟨most,0,[]⟩::l))\/((most<1\/most>4096)/\vs=[.pointer none,.int .i64 2]/\Sat w' l) :=
 zxp most <| by
  delta z0e1 Aa Ab Ac Ad Ae Af Ag;refine zi (λh=>?_) λh=>?_
  ·exact ⟨rfl,.inr ⟨h,rfl,hs⟩⟩
  refine z8a ekI evW hs λm w' hs=>zr hs λt w' hs=>⟨rfl,.inl ⟨by omega,by omega,t,rfl,?_⟩⟩;exact z40 m (A:=⟨most,0,[]⟩) ⟨by show 1<=most/\most<=4096;omega,by show (0:Int)<=0/\(0:Int)<=_;omega,by show (0:Int)<=most;omega,by simp,by simp,by simp [zaf]⟩ hs
theorem z02d (pid:Int) [hf:Fo l tb t A r] (hs:Sat w l):Ret P F.a22 #[.pointer (some ⟨t,0,none⟩),.int .i64 pid] w λvs w'=>vs=[.agg (zk2 (z12 A pid)).toArray,.bool (z62 A pid).isSome]/\Sat w' (tb t A::r) :=
 zy1 _ _ <| by
  delta z0e7 AH AK Aa Ab Ac Aj Ao Ap BS BT
  obtain ⟨m,hok,hs⟩:=zd1 (hs.perm hf.perm)
  refine zu hs λa0 w' hs=>?_
  refine zf ?_
  refine z8 hs ?_
  have ho:=zmg A pid
  unfold z12
  generalize z62 A pid=o at ho ⊢
  refine z063 hs o ho z0gf ?_
  refine zgc _ _ _ _ _ _ _ _ ?_
  refine zu hs λa12 w' hs=>?_
  refine zv hs λw' hs=>?_
  refine wp_lt ?_
  cases o with
  | none =>
   refine z18 ?_ (by simp)
   refine zv hs λw' hs=>?_
   refine zl hs ?_
   exact ⟨rfl,rfl,z40 m hok hs⟩
  | some x =>
   refine z06 ?_ (by simp)
   refine zl hs ?_
   refine zv hs λw' hs=>?_
   refine zl hs ?_
   exact ⟨rfl,rfl,z40 m hok hs⟩
theorem zvb (x:RowA) (h1:0<=x.seq+x.count/\x.seq+x.count<=2147483648) (hs:Sat w l):Ret P F.a16 #[.agg (zk2 x).toArray] w λvs w'=>vs=[.int .i64 (x.seq+x.count)]/\Sat w' l :=
 zxq x.pid x.epoch x.seq x.count x.base x.frm x.time <| by
  delta z0e2 AR Ab Ac Af Al Av BS;refine zr hs λa0 w' hs=>z8 hs (z8 hs ?_);exact z1i ⟨rfl,rfl,hs.tail⟩
theorem zuy (x:RowA) (hs:Sat w l):Ret P F.a17 #[.agg (zk2 x).toArray] w λvs w'=>vs=[.bool (decide (0<=x.frm))]/\Sat w' l :=
 zxw x.pid x.epoch x.seq x.count x.base x.frm x.time <| by
  delta z0e3 AR Ab Af Aj BS;refine zr hs λa0 w' hs=>z8 hs (wp_lt ?_);exact ⟨rfl,rfl,hs.tail⟩
theorem zkq (b:BatM) (hs:Sat w l):Ret P F.a24 #[.agg (z01 b).toArray] w λvs w'=>vs=[.bool (z0i b)]/\Sat w' l :=
 zy3 b.base b.pid b.epoch b.seq b.kind b.time b.x <| by
  delta z0e9 AD AR Ab Af Aj Bw;refine zr hs λa0 w' hs=>z8 hs (z8 hs ?_);exact wp_lt ⟨rfl,rfl,hs.tail⟩
end
structure VerA where
 again:Bool
 base:Int
def zij (v:VerA):List Value:=[.bool v.again,.int .i64 v.base]
def z9s (r:RowA) (b:BatM):VerA × Bool :=
 if b.epoch≠r.epoch\/b.seq+b.rs.length>r.seq+r.count then (⟨false,0⟩,false) else if b.seq=r.seq/\(b.rs.length:Int)=r.count then (⟨true,r.base⟩,true) else (⟨true,-1⟩,true)
def zcq (A:TabA) (r:RowA) (there:Bool) (b:BatM):Int :=
 if 0<=r.frm/\(b.epoch>r.epoch\/b.kind=0) then 22
 else if z0i b=false/\b.seq≠(if b.epoch>r.epoch then 0 else r.seq+r.count) then 21
 else if there=false/\(A.rows.length:Int)>=A.most then 5 else 0
def z1k (A:TabA) (b:BatM):VerA × Int :=
 if z02 b≠0\/b.pid=0 then (⟨false,0⟩,z02 b)
 else if b.epoch<(z12 A b.pid).epoch then (if z0i b then (⟨true,-1⟩,0) else (⟨false,0⟩,20))
 else if z0i b=false/\(z9s (z12 A b.pid) b).2=true then ((z9s (z12 A b.pid) b).1,0)
 else (⟨false,0⟩,zcq A (z12 A b.pid) (z62 A b.pid).isSome b)
instance {v:VerA} {b:Bool}:IsR (.tup [.agg [.bool,.int .i64],.one .bool]) [.agg (zij v).toArray,.bool b] (v.again,v.base,b,()):=⟨rfl⟩
instance {v:VerA} {n:Int}:IsR (.tup [.agg [.bool,.int .i64],.one (.int .i64)]) [.agg (zij v).toArray,.int .i64 n] (v.again,v.base,n,()):=⟨rfl⟩
section
variable {w:World} {l r r1 r2 l':List HP} {t:Nat} {A:TabA}
theorem z05m (x:RowA) (b:BatM) [hb:FocR l b.x 4 (b.rs.flatMap z0f)] (h1:0<=x.seq+x.count/\x.seq+x.count<=2147483648) (h2:0<=b.seq/\b.seq<=2147483647) (h3:b.rs.length<=64) (hs:Sat w l) :
  Ret P F.a23 #[.agg (zk2 x).toArray,.agg (z01 b).toArray] w λvs w'=>vs=[.agg (zij (z9s x b).1).toArray,.bool (z9s x b).2]/\Sat w' l :=
 zy2 x.pid x.epoch x.seq x.count x.base x.frm x.time b.base b.pid b.epoch b.seq b.kind b.time b.x <| by
  delta z0e8 AB AC AD AE AH AK AR AZ Aa Ab Ac Af Ak Am Av BN BS BV Bu Bw;unfold z9s
  have hl:=hs.slen b.x (xs:=b.rs) (enc:=z0f)
  refine zr hs λa0 w' hs=>?_
  refine zr hs λa1 w' hs=>?_
  refine zu hs λa2 w' hs=>?_
  have hs:Sat w' (pt a2 (.cells #[.bool false,.int .i64 0] T.a7)::pt a1 (.cells #[.int .i64 b.base,.int .i64 b.pid,.int .i64 b.epoch,.int .i64 b.seq,.int .i64 b.kind,.int .i64 b.time,.slice b.x.a b.x.len b.x.cap] T.a0) ::
   pt a0 (.cells #[.int .i64 x.pid,.int .i64 x.epoch,.int .i64 x.seq,.int .i64 x.count,.int .i64 x.base,.int .i64 x.frm,.int .i64 x.time] T.a5)::l):=hs
  refine zj (λv w'=>v=(decide (b.epoch≠x.epoch\/b.seq+b.rs.length>x.seq+x.count),())/\Sat w' (pt a2 (.cells #[.bool false,.int .i64 0] T.a7)::pt a1 (.cells #[.int .i64 b.base,.int .i64 b.pid,.int .i64 b.epoch,.int .i64 b.seq,.int .i64 b.kind,.int .i64 b.time,.slice b.x.a b.x.len b.x.cap] T.a0) ::
   pt a0 (.cells #[.int .i64 x.pid,.int .i64 x.epoch,.int .i64 x.seq,.int .i64 x.count,.int .i64 x.base,.int .i64 x.frm,.int .i64 x.time] T.a5)::l)) ?_ ?_
  ·refine zt hs λw' hs=>?_
   refine z8 hs ?_
   refine z8 hs ?_
   refine z0y hs ?_
   refine z0y hs ?_
   refine zl hs ?_
   refine zi (λh=>?_) λh=>?_
   ·refine ze ?_
    exact zg ⟨by rw [decide_eq_true (.inl h)],hs⟩
   ·refine zb (zvb x h1 hs) λ_ w' hs=>?_
    obtain ⟨rfl,hs⟩:=hs
    refine zd ?_ ⟨⟨trivial,λ_=>z09 hs⟩,λ_=>z09 hs⟩
    refine ze ?_
    refine zg ⟨?_,hs⟩
    rw [w64 (by omega) (by omega),hl]
    have:(b.epoch≠x.epoch\/b.seq+b.rs.length>x.seq+x.count)↔b.seq+((b.rs.length:Nat):Int)>x.seq+x.count:=⟨λh'=>h'.resolve_left h,.inr⟩
    rw [decide_eq_decide.2 this]
  clear hs
  rintro _ w ⟨rfl,hs⟩
  refine zh ?_
  refine zi (λh=>?_) λh=>?_
  ·rw [if_pos h]
   refine zv hs λw' hs=>?_
   refine zl hs ?_
   exact ⟨rfl,rfl,hs.sub⟩
  rw [if_neg h]
  refine z8 hs ?_
  refine z8 hs ?_
  refine z8 hs ?_
  refine z8 hs ?_
  refine zi (λh=>?_) λh=>?_
  ·rw [if_pos (by rw [hl] at h;exact h)]
   refine z8 hs ?_
   refine zv hs λw' hs=>?_
   refine zl hs ?_
   exact ⟨rfl,rfl,hs.sub⟩
  ·rw [if_neg (by rw [hl] at h;exact h)]
   refine zv hs λw' hs=>?_
   refine zl hs ?_
   exact ⟨rfl,rfl,hs.sub⟩
theorem z05p (x:RowA) (there:Bool) (b:BatM) [hf:Fo l tb t A r] (h1:0<=x.seq+x.count/\x.seq+x.count<=2147483648) (hs:Sat w l) :
  Ret P F.a21 #[.pointer (some ⟨t,0,none⟩),.agg (zk2 x).toArray,.bool there,.agg (z01 b).toArray] w λvs w'=>vs=[.int .i64 (zcq A x there b)]/\Sat w' (tb t A::r) :=
 zy0 _ x.pid x.epoch x.seq x.count x.base x.frm x.time there b.base b.pid b.epoch b.seq b.kind b.time b.x <| by
  delta z0e6 AA AC AD AE AI AP AR Aa Ab Ac Af Ah Aj Al Am Aw BS BT BY Bw Bx;unfold zcq;obtain ⟨m,hok,hs⟩:=zd1 (hs.perm hf.perm);refine zr hs λa0 w' hs=>zr hs λa1 w' hs=>zl hs (zb (zvb x h1 hs) λ_ _ hs=>?_);obtain ⟨rfl,hs⟩:=hs;refine zd (wp_lt ?_);refine z8 hs (z8 hs ?_)
  have hs:Sat _ (pt a1 (.cells #[.int .i64 b.base,.int .i64 b.pid,.int .i64 b.epoch,.int .i64 b.seq,.int .i64 b.kind,.int .i64 b.time,.slice b.x.a b.x.len b.x.cap] T.a0) ::
   pt a0 (.cells #[.int .i64 x.pid,.int .i64 x.epoch,.int .i64 x.seq,.int .i64 x.count,.int .i64 x.base,.int .i64 x.frm,.int .i64 x.time] T.a5)::pt t (.cells #[.int .i64 A.most,.int .i64 A.next,.map (some m)] T.a6)::z03 ekI evW m (z3s A.rows)::r):=hs
  refine zj (λv w'=>v=((if b.epoch>x.epoch then 0 else x.seq+x.count),())/\Sat w' (pt a1 (.cells #[.int .i64 b.base,.int .i64 b.pid,.int .i64 b.epoch,.int .i64 b.seq,.int .i64 b.kind,.int .i64 b.time,.slice b.x.a b.x.len b.x.cap] T.a0) ::
   pt a0 (.cells #[.int .i64 x.pid,.int .i64 x.epoch,.int .i64 x.seq,.int .i64 x.count,.int .i64 x.base,.int .i64 x.frm,.int .i64 x.time] T.a5)::pt t (.cells #[.int .i64 A.most,.int .i64 A.next,.map (some m)] T.a6)::z03 ekI evW m (z3s A.rows)::r)) ?_ ?_
  ·refine zi (λh=>?_) λh=>?_
   ·exact zg ⟨by rw [if_pos h],hs⟩
   ·exact zg ⟨by rw [if_neg h],hs⟩
  clear hs;rintro _ w ⟨rfl,hs⟩;refine zh (zl hs ?_);refine zb (zuy x hs) λ_ _ hs=>?_;obtain ⟨rfl,hs⟩:=hs;refine zd (z8 hs ?_);refine z8 hs (z8 hs ?_);refine wp_lt (zi (λh=>?_) λh=>?_)
  ·rw [if_pos h];exact ⟨rfl,rfl,z40 m hok hs⟩
  rw [if_neg h];refine zl hs (zb (zkq b hs) λ_ _ hs=>?_);obtain ⟨rfl,hs⟩:=hs;refine zd (z8 hs ?_);refine wp_lt (zi (λh=>?_) λh=>?_)
  ·rw [if_pos (by simpa using h)];exact ⟨rfl,rfl,z40 m hok hs⟩
  rw [if_neg (by simpa using h)];refine zt hs λw' hs=>z04 (z8 hs ?_);refine zd3 hs (z04 ?_);refine z8 hs (wp_lt ?_);refine ze ?_
  have hlen:(z3s A.rows).length=A.rows.length:=by unfold z3s;rw [List.length_map]
  rw [hlen];refine zi (λh=>?_) λh=>?_
  ·rw [if_pos (by simpa using h)];exact ⟨rfl,rfl,z40 m hok hs⟩
  ·rw [if_neg (by simpa using h)];exact ⟨rfl,rfl,z40 m hok hs⟩
theorem zi4 (b:BatM) [hf:Fo l tb t A r] [hb:FocR r b.x 4 (b.rs.flatMap z0f)] (hs:Sat w l) :
  Ret P F.a18 #[.pointer (some ⟨t,0,none⟩),.agg (z01 b).toArray] w λvs w'=>vs=[.agg (zij (z1k A b).1).toArray,.int .i64 (z1k A b).2]/\Sat w' (tb t A::r) :=
 zxy _ b.base b.pid b.epoch b.seq b.kind b.time b.x <| by
  delta z0e4 AA AD AH AK AP AR Aa Ab Ac Ad Af Aj Al Am Az BN BS BT BV Bw Bx;unfold z1k
  have hs:Sat w (tb t A::r):=hs.perm hf.perm
  have hok:=z06o hs
  refine zr hs λa0 w' hs=>?_
  refine zu hs λa1 w' hs=>?_
  refine z06 ?_ (by simp)
  refine zl hs ?_
  refine zb (zar b hs) λ_ _ hs=>?_
  obtain ⟨rfl,hs⟩:=hs
  refine zd ?_
  refine wp_lt ?_
  refine z8 hs ?_
  refine zi (λh=>?_) λh=>?_
  ·rw [if_pos h]
   refine zv hs λw' hs=>?_
   refine wp_lt ?_
   refine zl hs ?_
   exact ⟨rfl,rfl,hs.sub⟩
  rw [if_neg h]
  have hv:z02 b=0:=Decidable.not_not.1 λe=>h (.inl e)
  obtain ⟨hs1,hs2,hnum,hfit,hnx⟩:=z1d b hv
  have hl64:b.rs.length<=64:=by
   unfold zo at hs2
   split at hs2
   ·have:=hfit.2
    rename_i hm
    rw [if_pos hm] at this;omega
   ·omega
  refine z8 hs ?_
  refine zb (z02d b.pid hs) λ_ _ hs=>?_
  obtain ⟨rfl,hs⟩:=hs
  refine zd ?_
  obtain ⟨hr1,hr2,hr3,hr4,hr5,hr6,hr7⟩:=zkm hok b.pid
  generalize z12 A b.pid=x at *
  refine zu hs λa26 w' hs=>?_
  refine zv hs λw' hs=>?_
  refine wp_lt ?_
  refine z8 hs ?_
  refine z8 hs ?_
  refine zi (λh=>?_) λh=>?_
  ·rw [if_pos h]
   refine zl hs ?_
   refine zb (zkq b hs) λ_ _ hs=>?_
   obtain ⟨rfl,hs⟩:=hs
   refine zd ?_
   refine zi (λh=>?_) λh=>?_
   ·rw [if_pos h]
    refine zv hs λw' hs=>?_
    refine zl hs ?_
    exact ⟨rfl,rfl,hs.sub⟩
   ·rw [if_neg h]
    refine zv hs λw' hs=>?_
    refine zl hs ?_
    exact ⟨rfl,rfl,hs.sub⟩
  rw [if_neg h]
  refine zl hs ?_
  refine zb (zkq b hs) λ_ _ hs=>?_
  obtain ⟨rfl,hs⟩:=hs
  refine zd ?_
  have hs:Sat _ (tb t A::pt a26 (.cells #[.int .i64 x.pid,.int .i64 x.epoch,.int .i64 x.seq,.int .i64 x.count,.int .i64 x.base,.int .i64 x.frm,.int .i64 x.time] T.a5)::pt a1 (.cells #[.bool false,.int .i64 0] T.a7) ::
   pt a0 (.cells #[.int .i64 b.base,.int .i64 b.pid,.int .i64 b.epoch,.int .i64 b.seq,.int .i64 b.kind,.int .i64 b.time,.slice b.x.a b.x.len b.x.cap] T.a0)::r):=hs.sub
  refine zj (λ_ w'=>¬ (z0i b=false/\(z9s x b).2=true)/\Sat w' (tb t A::pt a26 (.cells #[.int .i64 x.pid,.int .i64 x.epoch,.int .i64 x.seq,.int .i64 x.count,.int .i64 x.base,.int .i64 x.frm,.int .i64 x.time] T.a5)::pt a1 (.cells #[.bool false,.int .i64 0] T.a7) ::
   pt a0 (.cells #[.int .i64 b.base,.int .i64 b.pid,.int .i64 b.epoch,.int .i64 b.seq,.int .i64 b.kind,.int .i64 b.time,.slice b.x.a b.x.len b.x.cap] T.a0)::r)) ?_ ?_
  ·refine zi (λh=>?_) λh=>?_
   ·refine zl hs ?_
    refine zl hs ?_
    refine zb (z05m x b ⟨by omega,by omega⟩ hnum.2.2.2.2.1 hl64 hs) λ_ _ hs=>?_
    obtain ⟨rfl,hs⟩:=hs
    refine zd ?_
    refine zu hs λa67 w' hs=>?_
    refine zv hs λw' hs=>?_
    refine wp_lt ?_
    refine zi (λh2=>?_) λh2=>?_
    ·rw [if_pos ⟨by simpa using h,h2⟩]
     refine zl hs ?_
     refine zv hs λw' hs=>?_
     refine zl hs ?_
     refine zm ?_
     exact ⟨rfl,rfl,hs.sub⟩
    ·exact zg ⟨λe=>h2 e.2,hs.sub⟩
   ·exact zg ⟨λe=>h (by rw [e.1];simp),hs⟩
  clear hs
  rintro _ w ⟨hno,hs⟩
  refine zh ?_
  rw [if_neg hno]
  refine zl hs ?_
  refine zl hs ?_
  refine zb (z05p x (z62 A b.pid).isSome b ⟨by omega,by omega⟩ hs) λ_ _ hs=>?_
  obtain ⟨rfl,hs⟩:=hs
  refine zd ?_
  refine zv hs λw' hs=>?_
  refine wp_lt ?_
  refine zl hs ?_
  exact ⟨rfl,rfl,hs.sub⟩
end
def zad (A:TabA) (b:BatM):Int:=match z62 A b.pid with
 | none=>b.time
 | some r=>if r.time>b.time then r.time else b.time
def z7q (A:TabA) (b:BatM):Int:=if b.kind=1/\(z12 A b.pid).frm<0 then b.base else (z12 A b.pid).frm
def z4u (A:TabA) (b:BatM):RowA:=if z0i b then ⟨b.pid,b.epoch+1,0,0,0,-1,zad A b⟩ else ⟨b.pid,b.epoch,b.seq,b.rs.length,b.base,z7q A b,zad A b⟩
def z8v (pid:Int) (rs:List RowA):List RowA:=rs.filter λr=>!decide (r.pid=pid)
def za7 (x:RowA) (rs:List RowA):List RowA:=rs.filter (λr=>decide (r.pid<x.pid))++x::rs.filter (λr=>decide (x.pid<r.pid))
def z61 (A:TabA) (b:BatM):TabA:=⟨A.most,b.base+zo b,if b.pid=0 then A.rows else za7 (z4u A b) A.rows⟩
def ze0 (A:TabA) (b:BatM):Int × TabA :=
 if (z1k A b).2≠0 then ((z1k A b).2,A) else if (z1k A b).1.again then (4,A) else if b.base<A.next then (8,A) else (0,z61 A b)
theorem zp9 (x:RowA) (rs:List RowA):(za7 x rs).Perm (x::z8v x.pid rs):=by
 unfold za7 z8v;refine List.perm_middle.trans (.cons _ ?_);have h:=List.filter_append_perm (λr:RowA=>decide (r.pid<x.pid)) (rs.filter λr=>!decide (r.pid=x.pid));rw [List.filter_filter,List.filter_filter] at h
 have e1:rs.filter (λr=>decide (r.pid<x.pid))=rs.filter (λr=>decide (r.pid<x.pid) && !decide (r.pid=x.pid)):=List.filter_congr λr _=>by
  rw [Bool.eq_iff_iff];simp;omega
 have e2:rs.filter (λr=>decide (x.pid<r.pid))=rs.filter (λr=>!decide (r.pid<x.pid) && !decide (r.pid=x.pid)):=List.filter_congr λr _=>by
  rw [Bool.eq_iff_iff];simp;omega
 rw [e1,e2];exact h
theorem zwv {x:RowA} {rs:List RowA} (h:rs.Pairwise λa b=>a.pid<b.pid):(za7 x rs).Pairwise λa b=>a.pid<b.pid:=by
 unfold za7;rw [List.pairwise_append,List.pairwise_cons];refine ⟨h.filter _,⟨λr hr=>?_,h.filter _⟩,λa ha c hc=>?_⟩
 ·simpa using (List.mem_filter.1 hr).2
 ·have h1:a.pid<x.pid:=by simpa using (List.mem_filter.1 ha).2
  rcases List.mem_cons.1 hc with rfl|hc
  ·exact h1
  ·have h2:x.pid<c.pid:=by simpa using (List.mem_filter.1 hc).2
   omega
theorem zfk {pid:Int} {rs:List RowA} (h:∀ r ∈ rs,r.pid≠pid):z8v pid rs=rs:=List.filter_eq_self.2 λr hr=>by simp [h r hr]
theorem zc4 {x:RowA}:∀ {rs:List RowA},x ∈ rs->(rs.Pairwise λa b=>a.pid<b.pid)->rs.Perm (x::z8v x.pid rs)
 | y::rs,hx,h=>by
  rw [List.pairwise_cons] at h;unfold z8v;rw [List.filter_cons]
  rcases List.mem_cons.1 hx with rfl|hx
  ·rw [if_neg (by simp)];have:=zfk (pid:=x.pid) (rs:=rs) (λr hr=>by have:=h.1 r hr;omega);unfold z8v at this;rw [this]
  ·have h1:=h.1 x hx;rw [if_pos (by simp;omega)];exact ((zc4 hx h.2).cons y).trans (.swap _ _ _)
theorem zwj {a b:List RowA} (h:a.Perm b):(zaf a).Perm (zaf b):=h.filter _
theorem zib {a b:List RowA} (h:a.Perm b) (ha:(zaf a).Pairwise λx y=>x.frm≠y.frm):(zaf b).Pairwise λx y=>x.frm≠y.frm :=
 (List.Perm.pairwise_iff (λ{x y} h=>Ne.symm h) (zwj h)).1 ha
theorem zgu {A:TabA} {b:BatM} (h1:(z1k A b).2=0) (h2:(z1k A b).1.again=false):z02 b=0/\(b.pid≠0->(z12 A b.pid).epoch<=b.epoch/\¬ (z0i b=false/\(z9s (z12 A b.pid) b).2=true)/\zcq A (z12 A b.pid) (z62 A b.pid).isSome b=0):=by
 unfold z1k at h1 h2;split at h1
 ·rename_i h
  rw [if_pos h] at h2;refine ⟨h1,λhp=>absurd h (λh=>h.elim (λh=>h h1) hp)⟩
 rename_i h
 rw [if_neg h] at h2;have hv:z02 b=0:=Decidable.not_not.1 λe=>h (.inl e);refine ⟨hv,λhp=>?_⟩;split at h1
 ·rename_i h3
  rw [if_pos h3] at h2;split at h1
  ·rename_i h4;rw [if_pos h4] at h2;cases h2
  ·cases h1
 rename_i h3
 rw [if_neg h3] at h2;split at h1
 ·rename_i h4
  rw [if_pos h4] at h2;obtain ⟨-,h4⟩:=h4;unfold z9s at h2 h4;split at h4
  ·cases h4
  ·rename_i h5
   rw [if_neg h5] at h2;split at h2 <;> cases h2
 ·rename_i h4
  exact ⟨by omega,h4,h1⟩
theorem zw2 {A:TabA} {x:RowA} {there:Bool} {b:BatM} (h:zcq A x there b=0):¬ (0<=x.frm/\(b.epoch>x.epoch\/b.kind=0))/\¬ (z0i b=false/\b.seq≠(if b.epoch>x.epoch then 0 else x.seq+x.count))/\(there=false->(A.rows.length:Int)<A.most):=by
 unfold zcq at h
 by_cases h1:0<=x.frm/\(b.epoch>x.epoch\/b.kind=0)
 ·rw [if_pos h1] at h;cases h
 rw [if_neg h1] at h
 by_cases h2:z0i b=false/\b.seq≠(if b.epoch>x.epoch then 0 else x.seq+x.count)
 ·rw [if_pos h2] at h;cases h
 rw [if_neg h2] at h
 by_cases h3:there=false/\(A.rows.length:Int)>=A.most
 ·rw [if_pos h3] at h;cases h
 exact ⟨h1,h2,λe=>by rcases Int.lt_or_le (A.rows.length:Int) A.most with h|h;exact h;exact absurd ⟨e,h⟩ h3⟩
theorem zph (A:TabA) (b:BatM):(z4u A b).pid=b.pid:=by unfold z4u;split <;> rfl
theorem z0ab {A:TabA} (hok:okTb A) {b:BatM} (hb:0<=b.time/\b.time<=1099511627776):0<=zad A b/\zad A b<=1099511627776:=by
 unfold zad;split
 ·exact hb
 ·rename_i r hr
  have:=(hok.row r (z2z hr).1).time;split <;> omega
theorem z0aj {A:TabA} {b:BatM} (hok:okTb A) (h1:(z1k A b).2=0) (h2:(z1k A b).1.again=false) (h3:A.next<=b.base):okTb (z61 A b):=by
 obtain ⟨hv,hj⟩:=zgu h1 h2;obtain ⟨hs1,hs2,hnum,hfit,hnx⟩:=z1d b hv;have hn0:=hok.next
 by_cases hp0:b.pid=0
 ·have e:z61 A b=⟨A.most,b.base+zo b,A.rows⟩:=by unfold z61;rw [if_pos hp0]
  rw [e]
  exact ⟨hok.most,⟨by show 0<=b.base+zo b;omega,by show b.base+zo b<=_;omega⟩,hok.many,λr hr=>by
   have h:=hok.row r hr
   exact ⟨h.pid,h.epoch,h.time,h.count,h.seq,h.base,h.frm,h.none_,λhc=>by have:=h.some_ hc;show _/\_/\_<=b.base+zo b/\_;omega⟩,hok.byPid,hok.apart⟩
 obtain ⟨hje,-,hfr⟩:=hj hp0;obtain ⟨hf1,hf2,hf3⟩:=zw2 hfr
 have e:z61 A b=⟨A.most,b.base+zo b,za7 (z4u A b) A.rows⟩:=by unfold z61;rw [if_neg hp0]
 have hpp:=zp9 (z4u A b) A.rows;rw [zph] at hpp;obtain ⟨hnk,hnb,hnp,hne,hns,hnt⟩:=hnum;have hlate:=z0ab hok hnt;have hF:=zkm hok b.pid
 have hfrm:(z12 A b.pid).frm<A.next:=by
  unfold z12
  cases h:z62 A b.pid with
  | none=>show (-1:Int)<_;omega
  | some y =>
   have hy:=hok.row y (z2z h).1;show y.frm<A.next
   rcases Int.lt_or_le 0 y.count with hc|hc
   ·have:=hy.some_ hc;omega
   ·have:=hy.none_ (by have:=hy.count;omega);omega
 have hokN:okRw (z4u A b) (b.base+zo b):=by
  unfold z4u
  by_cases hm:z0i b=true
  ·rw [if_pos hm];exact ⟨by show 1<=b.pid/\b.pid<=_;omega,by show 0<=b.epoch+1/\b.epoch+1<=_;omega,hlate,by show (0:Int)<=0/\(0:Int)<=64;omega,Int.le_refl _,Int.le_refl _,Int.le_refl _,λ_=>⟨rfl,rfl,rfl⟩,λh=>absurd h (by show ¬ (0:Int)<0;omega)⟩
  ·rw [if_neg hm]
   have hm:z0i b=false:=by simpa using hm
   have hlen:zo b=b.rs.length:=by unfold zo;rw [hm];rfl
   have hseq:b.seq+b.rs.length<=2147483648:=by
    unfold z02 at hv;split at hv
    ·cases hv
    split at hv
    ·cases hv
    split at hv
    ·rename_i h;exact absurd hv h
    split at hv
    ·cases hv
    ·rename_i h
     rcases Int.lt_or_le 2147483647 (b.seq+(zo b-1)) with h9|h9
     ·exact absurd (.inr ⟨by omega,hm,by omega⟩) h
     ·omega
   have hfrm2 : -1<=z7q A b/\z7q A b<=b.base:=by
    unfold z7q;split
    ·omega
    ·omega
   exact ⟨by show 1<=b.pid/\b.pid<=_;omega,by show 0<=b.epoch/\b.epoch<=_;omega,hlate,by show (0:Int)<=b.rs.length/\(b.rs.length:Int)<=64;omega,hns.1,hnb.1,hfrm2.1,λh=>absurd h (by show ¬ (b.rs.length:Int)=0;omega),λ_=>by
    show b.epoch<=_/\b.seq+(b.rs.length:Int)<=_/\b.base+(b.rs.length:Int)<=b.base+zo b/\z7q A b<=b.base
    omega⟩
 have hrest:z8v b.pid A.rows ⊆ A.rows:=λr hr=>(List.mem_filter.1 hr).1;rw [e];refine ⟨hok.most,⟨by show 0<=b.base+zo b;omega,by show b.base+zo b<=_;omega⟩,?_,λr hr=>?_,zwv hok.byPid,?_⟩
 ·show ((za7 (z4u A b) A.rows).length:Int)<=A.most;rw [hpp.length_eq,List.length_cons]
  cases h:z62 A b.pid with
  | none =>
   have:=hf3 (by rw [h];rfl);rw [zfk (zfm h)];omega
  | some y =>
   have h4:=(zc4 (z2z h).1 hok.byPid).length_eq;rw [(z2z h).2,List.length_cons] at h4;have:=hok.many;omega
 ·have hr:r ∈ za7 (z4u A b) A.rows:=hr
  rcases List.mem_cons.1 (hpp.mem_iff.1 hr) with rfl|hr
  ·exact hokN
  ·have h:=hok.row r (hrest hr);exact ⟨h.pid,h.epoch,h.time,h.count,h.seq,h.base,h.frm,h.none_,λhc=>by have:=h.some_ hc;show _/\_/\_<=b.base+zo b/\_;omega⟩
 ·refine zib hpp.symm ?_;have hsub:(zaf (z8v b.pid A.rows)).Pairwise λx y=>x.frm≠y.frm:=hok.apart.sublist ((List.filter_sublist).filter _);unfold zaf;rw [List.filter_cons];split;rotate_left
  ·exact hsub
  rename_i hop
  have hop:0<=(z4u A b).frm:=by simpa using hop
  rw [List.pairwise_cons];refine ⟨λy hy=>?_,hsub⟩;have hy1:=List.mem_filter.1 hy
  have hy2:0<=y.frm:=by simpa using hy1.2
  have hyr:=hok.row y (hrest hy1.1)
  have hm:¬ z0i b=true:=λhm=>by unfold z4u at hop;rw [if_pos hm] at hop;exact absurd hop (by show ¬ (0:Int) <= -1;omega)
  unfold z4u;rw [if_neg hm];show z7q A b≠y.frm
  have hylt:y.frm<A.next:=by
   rcases Int.lt_or_le 0 y.count with hc|hc
   ·have:=hyr.some_ hc;omega
   ·have:=hyr.none_ (by have:=hyr.count;omega);omega
  unfold z7q;split
  ·omega
  ·rename_i hk
   cases h:z62 A b.pid with
   | none =>
    have:(z12 A b.pid).frm = -1:=by unfold z12;rw [h];rfl
    omega
   | some z =>
    have hz:z12 A b.pid=z:=by unfold z12;rw [h];rfl
    rw [hz] at *
    by_cases hzo:0<=z.frm
    ·have h5:=zib (zc4 (z2z h).1 hok.byPid) hok.apart;rw [(z2z h).2] at h5;unfold zaf at h5;rw [List.filter_cons,if_pos (by simpa using hzo),List.pairwise_cons] at h5;exact h5.1 y hy
    ·omega
theorem z0co {A:TabA} (hok:okTb A) (pid:Int):(∃ v0,(z3s A.rows).Perm ((pid,v0)::z3s (z8v pid A.rows)))\/((∀ v,(pid,v) ∉ z3s A.rows)/\z3s (z8v pid A.rows)=z3s A.rows):=by
 rcases zmg A pid with ⟨y,hy,-⟩|⟨hn,hno⟩
 ·left;refine ⟨y,?_⟩
  have h:=(zc4 (z2z hy).1 hok.byPid).map λr:RowA=>(r.pid,r)
  rw [(z2z hy).2,List.map_cons,(z2z hy).2] at h;exact h
 ·right;exact ⟨hno,by rw [zfk (zfm hn)]⟩
theorem z0a8 (x:RowA) (rs:List RowA):((x.pid,x)::z3s (z8v x.pid rs)).Perm (z3s (za7 x rs)):=((zp9 x rs).map λr:RowA=>(r.pid,r)).symm
theorem z04e {A:TabA} {n:Int} (hok:okTb A) (h1:A.next<=n) (h2:n<=1099511627777):okTb ⟨A.most,n,A.rows⟩ :=
 ⟨hok.most,⟨by have:=hok.next;show 0<=n;omega,h2⟩,hok.many,λr hr=>by
  have h:=hok.row r hr
  exact ⟨h.pid,h.epoch,h.time,h.count,h.seq,h.base,h.frm,h.none_,λhc=>by have:=h.some_ hc;show _/\_/\_<=n/\_;omega⟩,hok.byPid,hok.apart⟩
section
variable {w:World} {l r r1 r2 l':List HP} {t:Nat} {A:TabA}
theorem z0be (b:BatM) [hf:Fo l tb t A r] [hb:FocR r b.x 4 (b.rs.flatMap z0f)] (hs:Sat w l) :
  Ret P F.a20 #[.pointer (some ⟨t,0,none⟩),.agg (z01 b).toArray] w λvs w'=>vs=[.int .i64 (ze0 A b).1]/\Sat w' (tb t (ze0 A b).2::r) :=
 zxz _ b.base b.pid b.epoch b.seq b.kind b.time b.x <| by
  delta z0e5 AA AB AC AE AH AK AN AP AQ AR AS Aa Ab Ac Ad Af Aj Ak Al Am Ao Ap Av Aw Az BM BN BS BT Bb Bw Bx;unfold ze0;have hs:Sat w (tb t A::r):=hs.perm hf.perm;have hok:=z06o hs;refine zr hs λa0 w' hs=>zl hs (zb (zi4 b hs) λ_ _ hs=>?_);obtain ⟨rfl,hs⟩:=hs;refine zd ?_;have hnx:=z0aj (b:=b) hok;have hjf:=zgu (A:=A) (b:=b);generalize hje:z1k A b=j at *;obtain ⟨v,e⟩:=j;refine zu hs λa11 w' hs=>zv hs λw' hs=>wp_lt (wp_lt ?_);refine zi (λh=>?_) λh=>?_
  ·rw [if_pos h];exact wp_lt ⟨rfl,rfl,hs.sub⟩
  have he:e=0:=Decidable.not_not.1 h;subst he;rw [if_neg (by simp)];refine z8 hs (wp_lt ?_);refine zi (λh=>?_) λh=>?_
  ·rw [if_pos h];exact ⟨rfl,rfl,hs.sub⟩
  rw [if_neg h]
  have hag:v.again=false:=by simpa using h
  refine zt hs λw' hs=>z8 hs (zf ?_);have hs:Sat w' (tb t A::pt a11 (.cells #[.bool v.again,.int .i64 v.base] T.a7)::pt a0 (.cells #[.int .i64 b.base,.int .i64 b.pid,.int .i64 b.epoch,.int .i64 b.seq,.int .i64 b.kind,.int .i64 b.time,.slice b.x.a b.x.len b.x.cap] T.a0)::r):=hs.sub;obtain ⟨m,-,hs⟩:=zd1 hs;refine z8 hs (wp_lt ?_);refine ze (zi (λh=>?_) λh=>?_)
  ·rw [if_pos h];exact ⟨rfl,rfl,z40 m hok hs⟩
  rw [if_neg h];have hok':=hnx rfl hag (by omega);obtain ⟨hv,hj⟩:=hjf rfl hag;obtain ⟨hs1,hs2,hnum,hfit,hn2⟩:=z1d b hv;have hne:=hnum.2.2.2.1;refine zl hs (zb (zan b hs) λ_ _ hs=>?_);obtain ⟨rfl,hs⟩:=hs;refine zd ?_
  have hnb:z1u b=b.base+zo b:=by unfold z1u;rw [if_neg (by rw [hv];simp)]
  rw [hnb];refine zf (zy hs λw' hs=>?_);refine z8 hs ?_;have hok1:okTb ⟨A.most,b.base+zo b,A.rows⟩:=z04e hok (by omega) hn2;refine zi (λh0=>?_) λh0=>?_
  ·refine ⟨rfl,rfl,?_⟩
   have e:z61 A b=⟨A.most,b.base+zo b,A.rows⟩:=by unfold z61;rw [if_pos h0]
   show Sat _ (tb t (z61 A b)::r);rw [e];exact z40 m hok1 hs
  have e:z61 A b=⟨A.most,b.base+zo b,za7 (z4u A b) A.rows⟩:=by unfold z61;rw [if_neg h0]
  show _;refine z8 hs ?_;have hs:Sat _ (tb t ⟨A.most,b.base+zo b,A.rows⟩::pt a11 (.cells #[.bool v.again,.int .i64 v.base] T.a7)::pt a0 (.cells #[.int .i64 b.base,.int .i64 b.pid,.int .i64 b.epoch,.int .i64 b.seq,.int .i64 b.kind,.int .i64 b.time,.slice b.x.a b.x.len b.x.cap] T.a0)::r):=z40 m hok1 hs;refine zb (z02d b.pid hs) λ_ _ hs=>?_;obtain ⟨rfl,hs⟩:=hs;refine zd ?_;have eF:z12 ⟨A.most,b.base+zo b,A.rows⟩ b.pid=z12 A b.pid:=rfl;have eO:z62 ⟨A.most,b.base+zo b,A.rows⟩ b.pid=z62 A b.pid:=rfl;rw [eF,eO];have hFok:=zkm hok b.pid;have hkeys:=z0co hok b.pid;have hkp:=z0a8 (z4u A b) A.rows;rw [zph] at hkp;refine zu hs λa42 w' hs=>zv hs λw' hs=>wp_lt (z8 hs ?_);refine wp_lt ?_
  have hs:Sat _ (tb t ⟨A.most,b.base+zo b,A.rows⟩::pt a42 (.cells #[.int .i64 (z12 A b.pid).pid,.int .i64 (z12 A b.pid).epoch,.int .i64 (z12 A b.pid).seq,.int .i64 (z12 A b.pid).count,.int .i64 (z12 A b.pid).base,.int .i64 (z12 A b.pid).frm,.int .i64 (z12 A b.pid).time] T.a5) ::
   pt a0 (.cells #[.int .i64 b.base,.int .i64 b.pid,.int .i64 b.epoch,.int .i64 b.seq,.int .i64 b.kind,.int .i64 b.time,.slice b.x.a b.x.len b.x.cap] T.a0)::r):=hs.sub
  refine zj (λv w'=>v=(zad A b,())/\Sat w' (tb t ⟨A.most,b.base+zo b,A.rows⟩::pt a42 (.cells #[.int .i64 (z12 A b.pid).pid,.int .i64 (z12 A b.pid).epoch,.int .i64 (z12 A b.pid).seq,.int .i64 (z12 A b.pid).count,.int .i64 (z12 A b.pid).base,.int .i64 (z12 A b.pid).frm,.int .i64 (z12 A b.pid).time] T.a5) ::
   pt a0 (.cells #[.int .i64 b.base,.int .i64 b.pid,.int .i64 b.epoch,.int .i64 b.seq,.int .i64 b.kind,.int .i64 b.time,.slice b.x.a b.x.len b.x.cap] T.a0)::r)) ?_ ?_
  ·unfold zad z12 at *
   cases ho:z62 A b.pid with
   | none =>
    rw [ho] at hs;refine z06 ?_ (by simp);exact zg ⟨rfl,hs⟩
   | some y =>
    rw [ho] at hs;refine z18 ?_ (by simp);refine z8 hs (wp_lt ?_);exact zg ⟨rfl,hs⟩
  clear hs;rintro _ w ⟨rfl,hs⟩;refine zh (z8 hs ?_);obtain ⟨m,-,hs⟩:=zd1 hs
  have hfin:∀ {w:World},Sat w (tb t (z61 A b)::r)->0=0/\([.int .i64 0]:List Value)=[.int .i64 0]/\Sat w (tb t (z61 A b)::r):=λh=>⟨rfl,rfl,h⟩
  refine zj (λ_ w'=>Sat w' (tb t (z61 A b)::r)) ?_ (by rintro _ w' hs;refine zh ?_;exact ⟨rfl,rfl,hs⟩)
  refine zj (λ_ w'=>z0i b=false/\Sat w' (pt t (.cells #[.int .i64 A.most,.int .i64 (b.base+zo b),.map (some m)] T.a6)::z03 ekI evW m (z3s A.rows)::pt a42 (.cells #[.int .i64 (z12 A b.pid).pid,.int .i64 (z12 A b.pid).epoch,.int .i64 (z12 A b.pid).seq,.int .i64 (z12 A b.pid).count,.int .i64 (z12 A b.pid).base,.int .i64 (z7q A b),.int .i64 (z12 A b.pid).time] T.a5) ::
   pt a0 (.cells #[.int .i64 b.base,.int .i64 b.pid,.int .i64 b.epoch,.int .i64 b.seq,.int .i64 b.kind,.int .i64 b.time,.slice b.x.a b.x.len b.x.cap] T.a0)::r)) ?_ ?_
  ·refine wp_lt ?_
   refine zj (λv w'=>v=(z0i b,())/\Sat w' (pt t (.cells #[.int .i64 A.most,.int .i64 (b.base+zo b),.map (some m)] T.a6)::z03 ekI evW m (z3s A.rows)::pt a42 (.cells #[.int .i64 (z12 A b.pid).pid,.int .i64 (z12 A b.pid).epoch,.int .i64 (z12 A b.pid).seq,.int .i64 (z12 A b.pid).count,.int .i64 (z12 A b.pid).base,.int .i64 (z12 A b.pid).frm,.int .i64 (z12 A b.pid).time] T.a5) ::
    pt a0 (.cells #[.int .i64 b.base,.int .i64 b.pid,.int .i64 b.epoch,.int .i64 b.seq,.int .i64 b.kind,.int .i64 b.time,.slice b.x.a b.x.len b.x.cap] T.a0)::r)) ?_ ?_
   ·refine zi (λh=>?_) λh=>?_
    ·exact zg ⟨by unfold z0i;rw [show (b.kind == 2)=true by simpa using h,decide_eq_true (by simpa using h)];rfl,hs⟩
    ·exact wp_lt (zg ⟨by unfold z0i;rw [decide_eq_false (p:=b.kind=2) (by simpa using h)];rfl,hs⟩)
   clear hs;rintro _ w ⟨rfl,hs⟩;refine zh (zi (λhm=>?_) λhm=>?_)
   ·refine zt hs λw' hs=>zf (z8 hs ?_);refine z8 hs (z8 hs ?_);refine z8 hs ?_
    have eN:z4u A b=⟨b.pid,b.epoch+1,0,0,0,-1,zad A b⟩:=by unfold z4u;rw [if_pos hm]
    rw [w64 (x:=b.epoch+1) (by omega) (by omega)];refine z4x hs _ hkeys (z4u A b) (λw' hs=>?_) (by rw [eN]);refine ze (zm (zm ?_));exact ⟨rfl,rfl,by show Sat _ (tb t (z61 A b)::r);exact e ▸ z40 m (A:=⟨A.most,b.base+zo b,za7 (z4u A b) A.rows⟩) (e ▸ hok') hs hkp⟩
   have hm:z0i b=false:=by simpa using hm
   refine wp_lt (zi (λh=>?_) λh=>?_)
   ·refine zl hs (zb (zuy (z12 A b.pid) hs) λ_ _ hs=>?_);obtain ⟨rfl,hs⟩:=hs;refine zd ?_
    refine zj (λ_ w'=>Sat w' (pt t (.cells #[.int .i64 A.most,.int .i64 (b.base+zo b),.map (some m)] T.a6)::z03 ekI evW m (z3s A.rows)::pt a42 (.cells #[.int .i64 (z12 A b.pid).pid,.int .i64 (z12 A b.pid).epoch,.int .i64 (z12 A b.pid).seq,.int .i64 (z12 A b.pid).count,.int .i64 (z12 A b.pid).base,.int .i64 (z7q A b),.int .i64 (z12 A b.pid).time] T.a5) ::
     pt a0 (.cells #[.int .i64 b.base,.int .i64 b.pid,.int .i64 b.epoch,.int .i64 b.seq,.int .i64 b.kind,.int .i64 b.time,.slice b.x.a b.x.len b.x.cap] T.a0)::r)) ?_ (by rintro _ w' hs;refine zh ?_;exact zg ⟨hm,hs⟩)
    refine zi (λh2=>?_) λh2=>?_
    ·refine z8 hs (zy hs λw' hs=>?_);refine zg ?_
     have:z7q A b=b.base:=by unfold z7q;rw [if_pos ⟨h,by simpa using h2⟩]
     rw [this];exact hs.sub
    ·refine zg ?_
     have:z7q A b=(z12 A b.pid).frm:=by unfold z7q;rw [if_neg (λh3=>h2 (by simpa using h3.2))]
     rw [this];exact hs
   ·refine zg ⟨hm,?_⟩
    have:z7q A b=(z12 A b.pid).frm:=by unfold z7q;rw [if_neg (λh3=>h h3.1)]
    rw [this];exact hs
  clear hs;rintro _ w ⟨hm,hs⟩;refine zh ?_;have hl:=hs.slen b.x (xs:=b.rs) (enc:=z0f);refine zt hs λw' hs=>zf (z8 hs ?_);refine z8 hs (z8 hs ?_);refine z8 hs (z8 hs ?_);refine z8 hs (z8 hs ?_);refine z8 hs ?_
  have eN:z4u A b=⟨b.pid,b.epoch,b.seq,b.rs.length,b.base,z7q A b,zad A b⟩:=by unfold z4u;rw [if_neg (by rw [hm];simp)]
  refine z4x hs _ hkeys (z4u A b) (λw' hs=>?_) (by rw [eN,hl]);refine ze (zg ?_);exact e ▸ z40 m (A:=⟨A.most,b.base+zo b,za7 (z4u A b) A.rows⟩) (e ▸ hok') hs hkp
end
abbrev ekK (k:Int × Int):Value:=.agg #[.int .i64 k.1,.int .i64 k.2]
theorem z09s (a b:Int × Int) (w:World):(Op.equal T.a17 (ekK a) (ekK b)).run P w=.ok (a.1 == b.1 && a.2 == b.2) w :=
 zo3 10000 (t:=T.a17) (x:=ekK a) (y:=ekK b) (by kernel_rfl) w
theorem zl9 {P:Program} {t:TypeId} {q k:IntKind} (hu:P.underlying t=some (.int q)) (e:Bool) (n:Nat) (v:Int) (w:World):(Instr.checkKey e (n+1) t (.int k v)).run P w=.ok () w:=by
 simp [Instr.checkKey,run_underlying hu]
theorem zvm {P:Program} {t:TypeId} {f0 f1:Field} {q0 q1 k0 k1:IntKind} (hu:P.underlying t=some (.struct #[f0,f1])) (h0:P.underlying f0.type=some (.int q0)) (h1:P.underlying f1.type=some (.int q1)) (o0:f0.offset=0) (o1:f1.offset=1)
  (n0 : ¬ f0.name = "_") (n1 : ¬ f1.name = "_") (e : Bool) (n : Nat) (a b : Int) (w : World) : (Instr.checkKey e (n + 2) t (.agg #[.int k0 a, .int k1 b])).run P w = .ok () w := by
 have p0:(part f0.type #[Value.int k0 a,.int k1 b] f0.offset).run P w=.ok (.int k0 a) w:=run_part_plain w (by simp [Program.plainKey,h0]) (by rw [o0];rfl);have p1:(part f1.type #[Value.int k0 a,.int k1 b] f1.offset).run P w=.ok (.int k1 b) w:=run_part_plain w (by simp [Program.plainKey,h1]) (by rw [o1];rfl);have c0:=zl9 (k:=k0) h0 e n a w;have c1:=zl9 (k:=k1) h1 e n b w;rw [show n+2=(n+1)+1 from rfl,Instr.checkKey];simp only [Sem.run_bind,run_underlying hu,Result.andThen_ok];rw [<- Array.forIn_toList];simp only [List.forIn_cons,List.forIn_nil,Sem.run_bind,n0,n1,ne_eq,not_false_eq_true,if_true,Result.andThen_ok,p0,p1,c0,c1,Sem.run_pure]
theorem z007 (e:Bool) (k:Int × Int) (w:World):(Instr.checkKey e 10000 T.a17 (ekK k)).run P w=.ok () w :=
 zvm (P:=P) (q0:=.i64) (q1:=.i64) Go.Proofs.Tryz.underlying311 (by kernel_rfl) (by kernel_rfl) rfl rfl (by decide) (by decide) e 9998 k.1 k.2 w
theorem zll (k:Int × Int) (w:World):∀ (es:List MapEntry) (i:Nat),(∀ e ∈ es,∃ k',e.key=ekK k') ->
  (∃ (j:Nat) (e:MapEntry),es[j]? = some e/\e.key=ekK k/\(Instr.findAsking T.a17 (ekK k) es i).run P w=.ok (some (i+j,e.val)) w) \/
  ((∀ e ∈ es,e.key≠ekK k)/\(Instr.findAsking T.a17 (ekK k) es i).run P w=.ok none w)
 | [],i,_=>.inr ⟨by simp,by simp [Instr.findAsking,Sem.run_pure]⟩
 | e::es,i,h=>by
  obtain ⟨k',hk'⟩:=h e (List.mem_cons_self ..)
  have hrun:(Instr.findAsking T.a17 (ekK k) (e::es) i).run P w=(if (k.1 == k'.1 && k.2 == k'.2)=true then (pure (some (i,e.val)):Sem (Option (Nat × Value))) else Instr.findAsking T.a17 (ekK k) es (i+1)).run P w:=by
   rw [Instr.findAsking];simp only [Sem.run_bind,hk',z09s,Result.andThen_ok]
  by_cases hk:k=k'
  ·subst hk;refine .inl ⟨0,e,rfl,hk',?_⟩;rw [hrun,if_pos (by simp)];rfl
  ·have hne:¬ (k.1 == k'.1 && k.2 == k'.2)=true:=λh2=>hk (by
    simp only [Bool.and_eq_true,beq_iff_eq] at h2
    exact Prod.ext h2.1 h2.2)
   rcases zll k w es (i+1) (λe he=>h e (List.mem_cons_of_mem _ he)) with ⟨j,e',h1,h2,h3⟩|⟨h1,h2⟩
   ·exact .inl ⟨j+1,e',h1,h2,by rw [hrun,if_neg hne,h3,Nat.add_assoc,Nat.add_comm 1 j]⟩
   ·refine .inr ⟨λe' he'=>?_,by rw [hrun,if_neg hne,h2]⟩
    rcases List.mem_cons.1 he' with rfl|he'
    ·rw [hk'];intro h4
     injection h4 with h4
     simp at h4;exact hk (Prod.ext h4.1.symm h4.2.symm)
    ·exact h1 e' he'
instance:KeyT P T.a17 ekK where
 inj a b h:=by
  injection h with h4
  simp at h4
  exact Prod.ext h4.1 h4.2
 same a:=by
  show (_ && _)=true
  simp [Instr.sameBits]
 check:=z007
 find es k w h:=by
  have e:=run_findKey_eq (P:=P) w (k:=T.a17) (by kernel_rfl) (ekK k) es
  rcases zll k w es 0 h with ⟨j,e',h1,h2,h3⟩|⟨h1,h2⟩
  ·exact .inl ⟨j,e',h1,h2,by rw [e,h3,Nat.zero_add]⟩
  ·exact .inr ⟨h1,by rw [e,h2]⟩
instance IsK.key {a b:Int}:IsK ekK (.agg #[.int .i64 a,.int .i64 b]) (a,b):=⟨rfl⟩
instance:MapT P T.a21 T.a14 (.agg #[.int .i64 0,.int .i64 0,.int .i64 0,.int .i64 0]):=⟨T.a18,by kernel_rfl,by kernel_rfl⟩
instance:MapT P T.a24 T.a17 (.agg #[.int .i64 0,.int .i64 0,.int .i64 0,.int .i64 0]):=⟨T.a18,by kernel_rfl,by kernel_rfl⟩
open Go.Shelf Go.Proofs
structure TxnA where
 pid:Int
 epoch:Int
 first:Int
 last:Int
def z4q (t:TxnA):List Value:=[.int .i64 t.pid,.int .i64 t.epoch,.int .i64 t.first,.int .i64 t.last]
instance:EncN z4q 4:=⟨λ_=>rfl,by decide,by simp [z4q,Value.oneCell']⟩
def z036 (x y:Int):Int:=if x<y then -1 else if x>y then 1 else 0
section
variable {w:World} {l:List HP} {Q:Post} {S:World->Prop}
theorem zu4 (x:Int):Ret P F.a5 #[.int .i64 x] w λvs w'=>vs=[.bool false]/\w'=w :=
 zmx x <| by
  delta zf5 Ab Aj;exact wp_lt ⟨rfl,by simp,rfl⟩
theorem z009 (x y:Int):Ret P F.a1 #[.int .i64 x,.int .i64 y] w λvs w'=>vs=[.int .i64 (z036 x y)]/\w'=w :=
 z02n x y <| by
  delta zf1 AA Aa Ab Ac Aj;refine zb (zu4 x) λ_ w' hs=>?_;obtain ⟨rfl,rfl⟩:=hs;refine zd (wp_lt ?_);refine zb (zu4 y) λ_ w' hs=>?_;obtain ⟨rfl,rfl⟩:=hs;refine zd (wp_lt ?_);refine z06 ?_ (by simp);refine z06 ?_ (by simp);unfold z036;refine zi (λh=>?_) λh=>?_
  ·rw [if_pos h];exact ⟨rfl,rfl,rfl⟩
  rw [if_neg h];refine zi (λh2=>?_) λh2=>?_
  ·rw [if_pos h2];exact ⟨rfl,rfl,rfl⟩
  ·rw [if_neg h2];exact ⟨rfl,rfl,rfl⟩
theorem zvd {P:Program} {T:TypeId} {v:Value} {cs:List Value} {k:Addr->Prog} (hs:Sat w l) [hc:Cells v cs]
  (h:Sat (w.alloc (.cells cs.toArray T)) (pt w.heap.size (.cells cs.toArray T)::l)->(k ⟨w.heap.size,0,none⟩).wp P tt (w.alloc (.cells cs.toArray T)) Q):(Prog.act (Instr.box T v) sA (u1 k)).wp P tt w Q:=by
 have hp:=hs.push (o:=.cells v.cells T) (w':=w.alloc (.cells v.cells T)) rfl;rw [hc.ok] at hp;refine ⟨(⟨w.heap.size,0,none⟩,()),w.alloc (.cells v.cells T),by simp only [Instr.box,Sem.run_bind,run_newVar,Result.andThen_ok,Sem.run_pure];rfl,trivial,?_⟩;rw [hc.ok];exact h hp
def z0g4 (f:TxnA->Int) (g:FuncId):Prop:=(∀ args w,(callFunc g args).run P w=.ok (.enter g args) w) /\
 ∀ (w:World) (a b:TxnA),Ret P g #[.agg (z4q a).toArray,.agg (z4q b).toArray] w λvs w'=>vs=[.int .i64 (z036 (f a) (f b))]/\∃ os,w'=Go.Sort.grow w os
theorem z03h (w:World) (a b:Obj):(w.alloc a).alloc b=Go.Sort.grow w (#[a]++#[b]):=by rw [Go.Sort.alloc_eq_grow,Go.Sort.alloc_eq_grow,Go.Sort.grow_grow]
theorem byFirst:z0g4 TxnA.first F.a60:=⟨enters_of Tryz.func259 (by kernel_rfl) rfl,λw a b=>zyz a.pid a.epoch a.first a.last b.pid b.epoch b.first b.last <| by
 delta z0f4 AR Ab Ac Af Al Am Bj;refine zvd (Sat.whole w) λhs=>zvd hs λhs=>z8 hs (z8 hs ?_);refine zb (z009 a.first b.first) λ_ w' h=>?_;obtain ⟨rfl,rfl⟩:=h;refine zd (wp_lt ?_)
 exact ⟨rfl,rfl,_,z03h _ _ _⟩⟩
end
structure ViewA where
 next:Int
 op:List TxnA
 fa:List TxnA
abbrev evX (t:TxnA):Value:=.agg #[.int .i64 t.pid,.int .i64 t.epoch,.int .i64 t.first,.int .i64 t.last]
def opF (A:ViewA) (pid:Int):Option TxnA:=A.op.find? λt=>decide (t.pid=pid)
def faF (A:ViewA) (pid epoch:Int):Option TxnA:=A.fa.find? λt=>decide (t.pid=pid/\t.epoch=epoch)
def z5m (A:ViewA):Int:=match A.op with
 | []=>A.next
 | t::_=>t.first
structure okT (t:TxnA) (next:Int):Prop where
 pid:1<=t.pid/\t.pid<=1048576
 epoch:0<=t.epoch/\t.epoch<=32767
 first:0<=t.first/\t.first<next
structure okV (A:ViewA):Prop where
 next:0<=A.next/\A.next<=1099511627777
 many:A.op.length<=1024/\A.fa.length<=4096
 op:∀ t ∈ A.op,okT t A.next/\t.last = -1
 fa:∀ t ∈ A.fa,okT t A.next/\t.first<t.last/\t.last<A.next
 byFirst:A.op.Pairwise λa b=>a.first<b.first
 byLast:A.fa.Pairwise λa b=>a.last<b.last
 pids:(A.op.map (·.pid)).Nodup
 keys:(A.fa.map λt=>(t.pid,t.epoch)).Nodup
 apart:∀ t ∈ A.op,∀ u ∈ A.fa,¬ (t.pid=u.pid/\t.epoch=u.epoch)
def opK (A:ViewA):List (Int × TxnA):=A.op.map λt=>(t.pid,t)
def faK (A:ViewA):List ((Int × Int) × TxnA):=A.fa.map λt=>((t.pid,t.epoch),t)
def vw (v:Nat) (A:ViewA):HP:=HP.ex λM:Nat × Nat=>HP.and (okV A) (HP.star (pt v (.cells #[.int .i64 A.next,.map (some M.1),.map (some M.2)] T.a16))
 (HP.star (z03 ekI evX M.1 (opK A)) (z03 ekK evX M.2 (faK A))))
section
variable {w:World} {l r r1 r2 r3 l':List HP} {v:Nat} {A:ViewA}
theorem zas (hs:Sat w (vw v A::l)):∃ m1 m2:Nat,okV A/\Sat w (pt v (.cells #[.int .i64 A.next,.map (some m1),.map (some m2)] T.a16)::z03 ekI evX m1 (opK A)::z03 ekK evX m2 (faK A)::l):=by
 obtain ⟨⟨m1,m2⟩,hs⟩:=hs.ex;obtain ⟨hok,hs⟩:=hs.and;have hs:=hs.star;have hs:=(hs.pick [1]).star;exact ⟨m1,m2,hok,hs.pick [2,0,0]⟩
theorem z5g (m1 m2:Nat) (hok:okV A) (hs:Sat w l) {es1:List (Int × TxnA)} {es2:List ((Int × Int) × TxnA)} [h1:FocB l v (.cells [.int .i64 A.next,.map (some m1),.map (some m2)].toArray T.a16) r1] [h2:FoM r1 m1 ekI evX es1 r2] [h3:FoM r2 m2 ekK evX es2 r3] [h4:Sub r3 l']
  (hp1:es1.Perm (opK A):=by exact .refl _) (hp2:es2.Perm (faK A):=by exact .refl _):Sat w (vw v A::l'):=by
 have hs:=hs.perm (h1.perm.trans (.cons _ (h2.perm.trans (.cons _ h3.perm))))
 have hs:=((hs.pick [1]).mapPerm hp1)
 have hs:=((hs.pick [2]).mapPerm hp2)
 have hs:Sat w (vw v A::r3):=by
  refine .ex_mk (m1,m2) (.and_mk hok (.star_mk ?_));refine (Sat.star_mk (hs.pick [1,0])).pick [1]
 exact hs.sub
theorem zdr {pid:Int} {t:TxnA} (h:opF A pid=some t):t ∈ A.op/\t.pid=pid:=⟨List.mem_of_find?_eq_some h,by simpa using List.find?_some h⟩
theorem zp2 {pid:Int} (h:opF A pid=none):∀ t ∈ A.op,t.pid≠pid:=λt ht=>by simpa using List.find?_eq_none.1 h t ht
theorem zhf {pid epoch:Int} {t:TxnA} (h:faF A pid epoch=some t):t ∈ A.fa/\t.pid=pid/\t.epoch=epoch:=⟨List.mem_of_find?_eq_some h,by simpa using List.find?_some h⟩
theorem zdc {pid epoch:Int} (h:faF A pid epoch=none):∀ t ∈ A.fa,¬ (t.pid=pid/\t.epoch=epoch):=λt ht=>by simpa using List.find?_eq_none.1 h t ht
theorem zp1 (A:ViewA) (pid:Int):(∃ t,opF A pid=some t/\(pid,t) ∈ opK A)\/(opF A pid=none/\∀ t,(pid,t) ∉ opK A):=by
 cases h:opF A pid with
 | some t=>exact .inl ⟨t,rfl,List.mem_map.2 ⟨t,(zdr h).1,by rw [(zdr h).2]⟩⟩
 | none=>exact .inr ⟨rfl,λt ht=>by
   obtain ⟨u,hu,e⟩:=List.mem_map.1 ht;simp only [Prod.mk.injEq] at e
   exact zp2 h u hu e.1⟩
theorem zo5 (A:ViewA) (pid epoch:Int):(∃ t,faF A pid epoch=some t/\((pid,epoch),t) ∈ faK A)\/(faF A pid epoch=none/\∀ t,((pid,epoch),t) ∉ faK A):=by
 cases h:faF A pid epoch with
 | some t=>exact .inl ⟨t,rfl,List.mem_map.2 ⟨t,(zhf h).1,by rw [(zhf h).2.1,(zhf h).2.2]⟩⟩
 | none=>exact .inr ⟨rfl,λt ht=>by
   obtain ⟨u,hu,e⟩:=List.mem_map.1 ht;simp only [Prod.mk.injEq] at e
   exact zdc h u hu e.1⟩
theorem z0dn (hs:Sat w l):Ret P F.a55 #[] w λvs w'=>∃ v,vs=[.pointer (some ⟨v,0,none⟩)]/\Sat w' (vw v ⟨0,[],[]⟩::l) :=
 zmy <| by
  unfold zu6;refine z8a ekI evX hs λm1 w' hs=>z8a ekK evX hs λm2 w' hs=>zr hs λv w' hs=>⟨rfl,v,rfl,?_⟩;exact z5g m1 m2 (A:=⟨0,[],[]⟩) ⟨by show (0:Int)<=0/\(0:Int)<=_;omega,by simp,by simp,by simp,by simp,by simp,by simp,by simp,by simp⟩ hs
end
theorem z022 {A:ViewA} (hok:okV A) {n:Int} (h1:n<=A.next) (h2:∀ t ∈ A.op,n<=t.first) (h3:n=A.next\/∃ t ∈ A.op,n=t.first):n=z5m A:=by
 unfold z5m
 cases hop:A.op with
 | nil =>
  rcases h3 with h|⟨t,ht,-⟩
  ·exact h
  ·rw [hop] at ht;cases ht
 | cons u us =>
  dsimp only
  have hu:u ∈ A.op:=by rw [hop];exact List.mem_cons_self ..
  have h4:=h2 u hu;have h5:=(hok.op u hu).1.first
  rcases h3 with h|⟨t,ht,rfl⟩
  ·omega
  ·have hb:=hok.byFirst;rw [hop] at hb ht
   rcases List.mem_cons.1 ht with rfl|ht
   ·rfl
   ·have:=(List.pairwise_cons.1 hb).1 t ht;omega
def zc0 (o:Option TxnA):Int × Int × Int × Int × Bool × Unit:=((o.getD ⟨0,0,0,0⟩).pid,(o.getD ⟨0,0,0,0⟩).epoch,(o.getD ⟨0,0,0,0⟩).first,(o.getD ⟨0,0,0,0⟩).last,o.isSome,())
section
variable {w:World} {l r r1 r2 r3 l':List HP} {v:Nat} {A:ViewA}
theorem zlv [hf:Fo l vw v A r] (hs:Sat w l):Ret P F.a61 #[.pointer (some ⟨v,0,none⟩)] w λvs w'=>vs=[.int .i64 (z5m A)]/\Sat w' (vw v A::r) :=
 zz0 _ <| by
  delta z068 AH AK AR AW Aa Ab Ac Ag Al Ao Ap Aw BW Bj;obtain ⟨m1,m2,hok,hs⟩:=zas (hs.perm hf.perm);refine z06 ?_ (by simp);refine zf (z8 hs ?_);refine wp_lt (zf ?_);refine z8 hs (zft hs λit w' hs=>?_);refine zj (λx w'=>x=(z5m A,())/\Sat w' (vw v A::r)) ?_ (by rintro _ w' ⟨rfl,hs⟩;refine zh ?_;refine wp_lt ?_;exact ⟨rfl,rfl,hs⟩)
  refine z0a (λk x w=>∃ (n:Int) (todo:List (Int × TxnA)) (last:Option (Int × TxnA)),x=(n,())/\todo.length=k/\(∀ y ∈ todo,y ∈ opK A)/\n<=A.next/\(∀ t ∈ A.op,(t.pid,t) ∈ todo\/n<=t.first)/\(n=A.next\/∃ t ∈ A.op,n=t.first) /\
   Sat w (itP ekI evX it m1 (opK A) todo last::pt v (.cells #[.int .i64 A.next,.map (some m1),.map (some m2)] T.a16)::z03 ekK evX m2 (faK A)::r)) (opK A).length
   ⟨A.next,opK A,none,rfl,rfl,λy hy=>hy,Int.le_refl _,λt ht=>.inl (List.mem_map.2 ⟨t,ht,rfl⟩),.inl rfl,hs⟩ ?_
  clear hs;rintro k _ w ⟨n,todo,last,rfl,hk,hsub,h1,h2,h3,hs⟩;refine zh (zi6 hs (λk t=>(k,t.pid,t.epoch,t.first,t.last,())) (λkk t todo' w' hp hs=>?_) λh0=>?_)
  ·refine z81 kk t.pid t.epoch t.first t.last (zky hs (kk,t.pid,t.epoch,t.first,t.last,()) ?_);refine z81 kk t.pid t.epoch t.first t.last (zu hs λc w' hs=>?_);refine zv hs λw' hs=>z8 hs (wp_lt ?_);have hmem:(kk,t) ∈ opK A:=hsub _ (hp.mem_iff.2 (List.mem_cons_self ..));obtain ⟨u,hu,e⟩:=List.mem_map.1 hmem;simp only [Prod.mk.injEq] at e;obtain ⟨rfl,rfl⟩:=e;refine z0x todo'.length ?_ (by rw [<- hk,hp.length_eq,List.length_cons];omega);refine ⟨_,todo',some (u.pid,u),rfl,rfl,λy hy=>hsub y (hp.mem_iff.2 (List.mem_cons_of_mem _ hy)),by split <;> omega,λt ht=>?_,?_,hs.sub⟩
   ·rcases h2 t ht with h|h
    ·rcases List.mem_cons.1 (hp.mem_iff.1 h) with e|h
     ·simp only [Prod.mk.injEq] at e;right;rw [e.2];split <;> omega
     ·exact .inl h
    ·right;split <;> omega
   ·split
    ·exact .inr ⟨u,hu,rfl⟩
    ·exact h3
  ·refine zm (zg ?_);subst h0;have e:=z022 hok h1 (λt ht=>(h2 t ht).resolve_left (by simp)) h3;rw [e];exact ⟨rfl,z5g m1 m2 hok hs.itDone⟩
theorem z0bi (t:TxnA) (hs:Sat w l):Ret P F.a64 #[.agg (z4q t).toArray] w λvs w'=>vs=[.agg (z4q t).toArray]/\Sat w' l :=
 zz3 t.pid t.epoch t.first t.last <| by
  delta z0f7 AH AK AR Ab Af BU Bj
  refine zr hs λa0 w' hs=>?_
  refine zu hs λa1 w' hs=>?_
  refine z8 hs ?_
  refine z8 hs ?_
  refine z8 hs ?_
  refine z8 hs ?_
  refine zv hs λw' hs=>?_
  refine zl hs ?_
  exact ⟨rfl,rfl,hs.tail.tail⟩
instance {t:TxnA}:IsR (sG [.int .i64,.int .i64,.int .i64,.int .i64]) [.agg (z4q t).toArray] (t.pid,t.epoch,t.first,t.last,()):=⟨rfl⟩
end
abbrev lkS:List Sh1:=[.agg [.int .i64,.int .i64,.int .i64,.int .i64],.one .bool]
def z5x (A:ViewA) (b:BatM):Int:=if z0i b then 3 else if b.base>=z5m A then 0 else if b.kind=1/\(faF A b.pid b.epoch).isSome=true/\b.base>=((faF A b.pid b.epoch).getD ⟨0,0,0,0⟩).first then 2 else 1
def zkd (A:ViewA) (b:BatM):Int:=if (faF A b.pid b.epoch).isSome=true then 20 else if (opF A b.pid).isSome=true/\¬ (((opF A b.pid).getD ⟨0,0,0,0⟩).pid=b.pid/\((opF A b.pid).getD ⟨0,0,0,0⟩).epoch=b.epoch) then 22 else
 if b.kind=1/\(opF A b.pid).isSome=false/\A.op.length>=1024 then 5 else if b.kind=3/\(opF A b.pid).isSome=true/\A.fa.length>=4096 then 5 else 0
def z4l (A:ViewA) (b:BatM):Int:=if z02 b≠0 then z02 b else if b.base<A.next then 8 else if b.kind≠0 then zkd A b else 0
section
variable {w:World} {l r r1 r2 r3 l':List HP} {v:Nat} {A:ViewA} {b:BatM}
theorem z0a4 (b:BatM) [hf:Fo l vw v A r] (hs:Sat w l):Ret P F.a56 #[.pointer (some ⟨v,0,none⟩),.agg (z01 b).toArray] w λvs w'=>vs=[.int .i64 (z5x A b)]/\Sat w' (vw v A::r) :=
 zyw _ b.base b.pid b.epoch b.seq b.kind b.time b.x <| by
  delta z0f2 AA AC AD AE AH AK AP AR Aa Ab Ac Ad Af Ag Aj Am Ao B1 BO BQ BR Bj Bk Bw Bx;refine zr (hs.perm hf.perm) λa0 w' hs=>z06 ?_ (by simp);have ho:=zo5 A b.pid b.epoch
  refine zj (λx w'=>∃ c:Nat,x=(⟨c,0,none⟩,(faF A b.pid b.epoch).isSome,())/\Sat w' (pt c (.cells #[.int .i64 ((faF A b.pid b.epoch).getD ⟨0,0,0,0⟩).pid,.int .i64 ((faF A b.pid b.epoch).getD ⟨0,0,0,0⟩).epoch,.int .i64 ((faF A b.pid b.epoch).getD ⟨0,0,0,0⟩).first,.int .i64 ((faF A b.pid b.epoch).getD ⟨0,0,0,0⟩).last] T.a18) ::
   pt a0 (.cells #[.int .i64 b.base,.int .i64 b.pid,.int .i64 b.epoch,.int .i64 b.seq,.int .i64 b.kind,.int .i64 b.time,.slice b.x.a b.x.len b.x.cap] T.a0)::vw v A::r)) ?_ ?_
  ·obtain ⟨m1,m2,hok,hs⟩:=zas (hs.pick [1]);refine zt hs λw' hs=>zf (z0y hs ?_);refine z0y hs (z0y hs ?_);refine ze8 hs (faF A b.pid b.epoch) ho zc0 (z81 _ _ _ _ _ ?_);refine zu hs (λc w' hs=>?_) (λc w' hs=>⟨⟨⟨⟨trivial,λ_=>z09 hs⟩,λ_=>z09 hs⟩,λ_=>z09 hs⟩,λ_=>z9v (ss:=lkS) hs ho zc0⟩);refine ze (zv hs λw' hs=>?_);refine wp_lt (ze ?_);refine zg ⟨c,rfl,?_⟩
   have hs:Sat w' (vw v A::pt c (.cells #[.int .i64 ((faF A b.pid b.epoch).getD ⟨0,0,0,0⟩).pid,.int .i64 ((faF A b.pid b.epoch).getD ⟨0,0,0,0⟩).epoch,.int .i64 ((faF A b.pid b.epoch).getD ⟨0,0,0,0⟩).first,.int .i64 ((faF A b.pid b.epoch).getD ⟨0,0,0,0⟩).last] T.a18) ::
    pt a0 (.cells #[.int .i64 b.base,.int .i64 b.pid,.int .i64 b.epoch,.int .i64 b.seq,.int .i64 b.kind,.int .i64 b.time,.slice b.x.a b.x.len b.x.cap] T.a0)::r):=z5g m1 m2 hok hs
   exact hs.pick [1,1]
  clear hs;rintro _ w ⟨c,rfl,hs⟩;refine zh (zl hs ?_);refine zb (zu3 b hs) λ_ _ hs=>?_;obtain ⟨rfl,hs⟩:=hs;refine zd (wp_lt ?_);unfold z5x;refine zi (λh=>?_) λh=>?_
  ·rw [if_pos h];exact ⟨rfl,rfl,hs.tail.tail⟩
  rw [if_neg h];refine zt hs λw' hs=>z0y hs (zb (zlv (v:=v) hs) λ_ w' hs=>?_);obtain ⟨rfl,hs⟩:=hs;refine zd ?_ ⟨trivial,λ_=>z09 hs⟩;refine wp_lt (ze ?_);refine zi (λh2=>?_) λh2=>?_
  ·rw [if_pos h2];exact ⟨rfl,rfl,hs.sub⟩
  rw [if_neg h2];refine z8 hs (z8 hs ?_);refine z8 hs (wp_lt ?_);refine zi (λh3=>?_) λh3=>?_
  ·rw [if_pos ⟨h3.1.1,h3.1.2,h3.2⟩];exact ⟨rfl,rfl,hs.sub⟩
  ·rw [if_neg (λh4=>h3 ⟨⟨h4.1,h4.2.1⟩,h4.2.2⟩)];exact ⟨rfl,rfl,hs.sub⟩
theorem z0dm (b:BatM) [hf:Fo l vw v A r] (hs:Sat w l):Ret P F.a63 #[.pointer (some ⟨v,0,none⟩),.agg (z01 b).toArray] w λvs w'=>vs=[.int .i64 (zkd A b)]/\Sat w' (vw v A::r) :=
 zz2 _ b.base b.pid b.epoch b.seq b.kind b.time b.x <| by
  delta z0f6 AB AC AE AH AI AK AP AR Ab Ac Af Ag Ah Aj Ao B1 BO BQ BR BY Bj Bk Bl Bw;unfold zkd
  have ho:=zo5 A b.pid b.epoch
  have ho2:=zp1 A b.pid
  obtain ⟨m1,m2,hok,hs⟩:=zas (hs.perm hf.perm)
  refine zr hs λa0 w' hs=>?_
  refine z8 hs ?_
  refine z8 hs ?_
  refine zu hs λa3 w' hs=>?_
  refine zv hs λw' hs=>?_
  refine zj (λx w'=>x=((faF A b.pid b.epoch).isSome,())/\Sat w' (pt a3 (.cells #[.int .i64 b.pid,.int .i64 b.epoch] T.a17)::pt a0 (.cells #[.int .i64 b.base,.int .i64 b.pid,.int .i64 b.epoch,.int .i64 b.seq,.int .i64 b.kind,.int .i64 b.time,.slice b.x.a b.x.len b.x.cap] T.a0) ::
   pt v (.cells #[.int .i64 A.next,.map (some m1),.map (some m2)] T.a16)::z03 ekI evX m1 (opK A)::z03 ekK evX m2 (faK A)::r)) ?_ ?_
  ·refine zt hs λw' hs=>?_
   refine zf ?_
   refine z0y hs ?_
   refine zjq hs ?_
   refine ze8 hs (faF A b.pid b.epoch) ho zc0 ?_
   refine z81 _ _ _ _ _ ?_
   refine zu hs (λc w' hs=>?_) (λc w' hs=>⟨⟨⟨trivial,λ_=>z09 hs⟩,λ_=>z0g hs⟩,λ_=>z9v (ss:=lkS) hs ho zc0⟩)
   refine ze ?_
   refine zv hs λw' hs=>?_
   refine wp_lt ?_
   refine ze ?_
   exact zg ⟨rfl,hs.sub⟩
  clear hs
  rintro _ w ⟨rfl,hs⟩
  refine zh ?_
  refine zj (λx w'=>∃ c:Nat,x=(⟨c,0,none⟩,(opF A b.pid).isSome,())/\Sat w' (pt c (.cells #[.int .i64 ((opF A b.pid).getD ⟨0,0,0,0⟩).pid,.int .i64 ((opF A b.pid).getD ⟨0,0,0,0⟩).epoch,.int .i64 ((opF A b.pid).getD ⟨0,0,0,0⟩).first,.int .i64 ((opF A b.pid).getD ⟨0,0,0,0⟩).last] T.a18) ::
   pt a3 (.cells #[.int .i64 b.pid,.int .i64 b.epoch] T.a17)::pt a0 (.cells #[.int .i64 b.base,.int .i64 b.pid,.int .i64 b.epoch,.int .i64 b.seq,.int .i64 b.kind,.int .i64 b.time,.slice b.x.a b.x.len b.x.cap] T.a0) ::
   pt v (.cells #[.int .i64 A.next,.map (some m1),.map (some m2)] T.a16)::z03 ekI evX m1 (opK A)::z03 ekK evX m2 (faK A)::r)) ?_ ?_
  ·refine zt hs λw' hs=>?_
   refine zf ?_
   refine z0y hs ?_
   refine z0y hs ?_
   refine ze8 hs (opF A b.pid) ho2 zc0 ?_
   refine z81 _ _ _ _ _ ?_
   refine zu hs (λc w' hs=>?_) (λc w' hs=>⟨⟨⟨trivial,λ_=>z09 hs⟩,λ_=>z09 hs⟩,λ_=>z9v (ss:=lkS) hs ho2 zc0⟩)
   refine ze ?_
   refine zv hs λw' hs=>?_
   refine wp_lt ?_
   refine ze ?_
   exact zg ⟨c,rfl,hs.sub⟩
  clear hs
  rintro _ w ⟨c,rfl,hs⟩
  refine zh ?_
  have hfin:∀ {w'},Sat w' (pt c (.cells #[.int .i64 ((opF A b.pid).getD ⟨0,0,0,0⟩).pid,.int .i64 ((opF A b.pid).getD ⟨0,0,0,0⟩).epoch,.int .i64 ((opF A b.pid).getD ⟨0,0,0,0⟩).first,.int .i64 ((opF A b.pid).getD ⟨0,0,0,0⟩).last] T.a18) ::
   pt a3 (.cells #[.int .i64 b.pid,.int .i64 b.epoch] T.a17)::pt a0 (.cells #[.int .i64 b.base,.int .i64 b.pid,.int .i64 b.epoch,.int .i64 b.seq,.int .i64 b.kind,.int .i64 b.time,.slice b.x.a b.x.len b.x.cap] T.a0) ::
   pt v (.cells #[.int .i64 A.next,.map (some m1),.map (some m2)] T.a16)::z03 ekI evX m1 (opK A)::z03 ekK evX m2 (faK A)::r)->Sat w' (vw v A::r):=λhs=>z5g m1 m2 hok hs
  refine wp_lt ?_
  refine zi (λh1=>?_) λh1=>?_
  ·rw [if_pos h1];exact ⟨rfl,rfl,hfin hs⟩
  rw [if_neg h1]
  refine zq4 hs (((opF A b.pid).getD ⟨0,0,0,0⟩).pid,((opF A b.pid).getD ⟨0,0,0,0⟩).epoch,()) ?_
  refine zl hs ?_
  refine wp_lt ?_
  refine zi (λh2=>?_) λh2=>?_
  ·rw [if_pos]
   ·exact ⟨rfl,rfl,hfin hs⟩
   ·exact ⟨h2.1,λh=>h2.2 h⟩
  rw [if_neg (λh=>h2 ⟨h.1,λh'=>h.2 h'⟩)]
  refine z8 hs ?_
  refine z04 ?_
  refine z8 hs ?_
  refine zd3 hs ?_
  refine wp_lt ?_
  have e1:(opK A).length=A.op.length:=by simp [opK]
  have e2:(faK A).length=A.fa.length:=by simp [faK]
  rw [e1]
  refine zi (λh3=>?_) λh3=>?_
  ·rw [if_pos]
   ·exact ⟨rfl,rfl,hfin hs⟩
   ·exact ⟨h3.1.1,by simpa using h3.1.2,by omega⟩
  rw [if_neg (λh=>h3 ⟨⟨h.1,by simp [h.2.1]⟩,by omega⟩)]
  refine z8 hs ?_
  refine z04 ?_
  refine z8 hs ?_
  refine zd3 hs ?_
  refine wp_lt ?_
  rw [e2]
  refine zi (λh4=>?_) λh4=>?_
  ·rw [if_pos]
   ·exact ⟨rfl,rfl,hfin hs⟩
   ·exact ⟨h4.1.1,h4.1.2,by omega⟩
  ·rw [if_neg (λh=>h4 ⟨⟨h.1,h.2.1⟩,by omega⟩)]
   exact ⟨rfl,rfl,hfin hs⟩
theorem z00r (b:BatM) [hf:Fo l vw v A r] [hb:FocR r b.x 4 (b.rs.flatMap z0f)] (hs:Sat w l):Ret P F.a57 #[.pointer (some ⟨v,0,none⟩),.agg (z01 b).toArray] w λvs w'=>vs=[.int .i64 (z4l A b)]/\Sat w' (vw v A::r) :=
 zyx _ b.base b.pid b.epoch b.seq b.kind b.time b.x <| by
  delta z0f3 AC AE AP AR Aa Ab Ac Ad Af Aj Al Am Ao Bw Bx;unfold z4l;refine zr (hs.perm hf.perm) λa0 w' hs=>z06 ?_ (by simp);refine zl hs (zb (zar b hs) λ_ _ hs=>?_);obtain ⟨rfl,hs⟩:=hs;refine zd (wp_lt ?_);refine zi (λh=>?_) λh=>?_
  ·rw [if_pos h];exact wp_lt ⟨rfl,rfl,hs.tail⟩
  rw [if_neg h];refine zt hs λw' hs=>z8 hs ?_;obtain ⟨m1,m2,hok,hs⟩:=zas (hs.pick [1]);refine zf (z8 hs ?_);refine wp_lt (ze ?_);have hs:Sat w' (vw v A::pt a0 (.cells #[.int .i64 b.base,.int .i64 b.pid,.int .i64 b.epoch,.int .i64 b.seq,.int .i64 b.kind,.int .i64 b.time,.slice b.x.a b.x.len b.x.cap] T.a0)::r):=z5g m1 m2 hok hs;refine zi (λh2=>?_) λh2=>?_
  ·rw [if_pos h2];exact ⟨rfl,rfl,hs.sub⟩
  rw [if_neg h2];refine z8 hs (wp_lt ?_);refine zi (λh3=>?_) λh3=>?_
  ·rw [if_pos h3];refine zl hs (zb (z0dm (v:=v) b hs) λ_ _ hs=>?_);obtain ⟨rfl,hs⟩:=hs;refine zd (wp_lt ?_);exact ⟨rfl,rfl,hs.sub⟩
  ·rw [if_neg h3];exact ⟨rfl,rfl,hs.sub⟩
end
def z4m (p:Int) (l:List TxnA):List TxnA:=l.filter λt=>!decide (t.pid=p)
def z3x (A:ViewA) (b:BatM):ViewA :=
 if b.kind=1/\(opF A b.pid).isSome=false then { A with next:=b.base+zo b,op:=A.op++[⟨b.pid,b.epoch,b.base,-1⟩] }
 else if z0i b=true/\(opF A b.pid).isSome=true then
  if b.kind=3 then ⟨b.base+zo b,z4m b.pid A.op,A.fa++[{ (opF A b.pid).getD ⟨0,0,0,0⟩ with last:=b.base }]⟩ else ⟨b.base+zo b,z4m b.pid A.op,A.fa⟩
 else { A with next:=b.base+zo b }
def z6m (A:ViewA) (b:BatM):Int × ViewA:=if z4l A b≠0 then (z4l A b,A) else (0,z3x A b)
theorem z8c {A:ViewA} {b:BatM} (h:z4l A b=0):z02 b=0/\A.next<=b.base/\(b.kind≠0->zkd A b=0):=by
 unfold z4l at h
 by_cases h1:z02 b≠0
 ·rw [if_pos h1] at h;exact absurd h h1
 rw [if_neg h1] at h
 by_cases h2:b.base<A.next
 ·rw [if_pos h2] at h;cases h
 rw [if_neg h2] at h;refine ⟨Decidable.not_not.1 h1,by omega,λh3=>?_⟩
 rwa [if_pos h3] at h
theorem zhv {A:ViewA} {b:BatM} (h:zkd A b=0):faF A b.pid b.epoch=none/\(∀ t,opF A b.pid=some t->t.epoch=b.epoch)/\(b.kind=1->opF A b.pid=none->A.op.length<1024)/\(b.kind=3->∀ t,opF A b.pid=some t->A.fa.length<4096):=by
 unfold zkd at h
 by_cases h1:(faF A b.pid b.epoch).isSome=true
 ·rw [if_pos h1] at h;cases h
 rw [if_neg h1] at h
 have hn:faF A b.pid b.epoch=none:=by
  cases hc:faF A b.pid b.epoch with
  | none=>rfl
  | some t=>rw [hc] at h1;exact absurd rfl h1
 split at h
 ·cases h
 rename_i h2
 split at h
 ·cases h
 rename_i h3
 split at h
 ·cases h
 rename_i h4
 refine ⟨hn,λt ht=>?_,λhk ho=>?_,λhk t ht=>?_⟩
 ·have h5:((opF A b.pid).getD ⟨0,0,0,0⟩).pid=b.pid/\((opF A b.pid).getD ⟨0,0,0,0⟩).epoch=b.epoch:=Decidable.not_not.1 λh6=>h2 ⟨by rw [ht];rfl,h6⟩;rw [ht] at h5;exact h5.2
 ·apply Nat.lt_of_not_le;intro h5;exact h3 ⟨hk,by rw [ho];rfl,h5⟩
 ·apply Nat.lt_of_not_le;intro h5;exact h4 ⟨hk,by rw [ht];rfl,h5⟩
theorem z9c {t:TxnA} {n m:Int} (h:okT t n) (hnm:n<=m):okT t m:=⟨h.pid,h.epoch,h.first.1,Int.lt_of_lt_of_le h.first.2 hnm⟩
theorem zii {t:TxnA}:∀ {l:List TxnA},(l.map (·.pid)).Nodup->t ∈ l->l.Perm (t::z4m t.pid l)
 | u::l,hnd,ht=>by
  rw [List.map_cons,List.nodup_cons] at hnd
  have hrest:∀ {p:Int},p ∉ l.map (·.pid)->z4m p l=l:=λ{p} hp=>List.filter_eq_self.2 λx hx=>by
   have:x.pid≠p:=λe=>hp (List.mem_map.2 ⟨x,hx,e⟩);simpa using this
  rcases List.mem_cons.1 ht with rfl|ht
  ·have:z4m t.pid (t::l)=l:=by
    show (t::l).filter _=l;rw [List.filter_cons_of_neg (by simp)];exact hrest hnd.1
   rw [this]
  ·have hne:u.pid≠t.pid:=λe=>hnd.1 (List.mem_map.2 ⟨t,ht,e.symm⟩)
   have:z4m t.pid (u::l)=u::z4m t.pid l:=by
    show (u::l).filter _=_;rw [List.filter_cons_of_pos (by simpa using hne)];rfl
   rw [this];exact ((zii hnd.2 ht).cons u).trans (.swap _ _ _)
theorem z04j {A:ViewA} {b:BatM} (hok:okV A) (h:z4l A b=0):okV (z3x A b):=by
 obtain ⟨hv,hbase,hmay⟩:=z8c h;obtain ⟨s1,s2,hnum,hfit,s3⟩:=z1d b hv;obtain ⟨hk,hb,hp,he,hse,ht⟩:=hnum;have hnx:=hok.next;unfold z3x;split
 ·rename_i h1
  obtain ⟨hk1,ho⟩:=h1;obtain ⟨m1,m2,m3,m4⟩:=zhv (hmay (by omega))
  have ho:opF A b.pid=none:=by
   cases hc:opF A b.pid with
   | none=>rfl
   | some t=>rw [hc] at ho;cases ho
  have hpid:1<=b.pid:=by
   have:=hfit.1;apply Decidable.byContradiction;intro h5;exact this ⟨by omega,.inl (by omega)⟩
  have hlt:=m3 hk1 ho;refine ⟨by show 0<=b.base+zo b/\b.base+zo b<=_;omega,by show (A.op++[_]).length<=1024/\_;rw [List.length_append];exact ⟨by simp;omega,hok.many.2⟩,λt ht=>?_,λt ht=>?_,?_,hok.byLast,?_,hok.keys,λt ht u hu=>?_⟩
  ·rcases List.mem_append.1 ht with ht|ht
   ·exact ⟨z9c (hok.op t ht).1 (by show A.next<=b.base+zo b;omega),(hok.op t ht).2⟩
   ·rw [List.mem_singleton.1 ht];exact ⟨⟨⟨hpid,hp.2⟩,he,hb.1,by show b.base<b.base+zo b;omega⟩,rfl⟩
  ·obtain ⟨h1,h2,h3⟩:=hok.fa t ht;exact ⟨z9c h1 (by show A.next<=b.base+zo b;omega),h2,by show t.last<b.base+zo b;omega⟩
  ·show (A.op++[_]).Pairwise _;rw [List.pairwise_append];refine ⟨hok.byFirst,by simp,λt ht u hu=>?_⟩;rw [List.mem_singleton.1 hu];have:=(hok.op t ht).1.first;show t.first<b.base;omega
  ·show ((A.op++[_]).map _).Nodup;rw [List.map_append,List.nodup_append];refine ⟨hok.pids,by simp,λp hp q hq=>?_⟩;obtain ⟨t,ht,rfl⟩:=List.mem_map.1 hp;rw [List.map_singleton,List.mem_singleton] at hq;rw [hq];exact zp2 ho t ht
  ·rcases List.mem_append.1 ht with ht|ht
   ·exact hok.apart t ht u hu
   ·rw [List.mem_singleton.1 ht];intro h5;exact zdc m1 u hu ⟨h5.1.symm,h5.2.symm⟩
 ·split
  ·rename_i h1 h2
   obtain ⟨hm,ho⟩:=h2;obtain ⟨t,ho⟩:∃ t,opF A b.pid=some t:=Option.isSome_iff_exists.1 ho
   have hk0:b.kind≠0:=by
    unfold z0i at hm;simp only [Bool.or_eq_true,decide_eq_true_eq] at hm;omega
   obtain ⟨m1,m2,m3,m4⟩:=zhv (hmay hk0);obtain ⟨htm,htp⟩:=zdr ho;have hte:=m2 t ho
   have hdrop:∀ u ∈ z4m b.pid A.op,u ∈ A.op/\u.pid≠b.pid:=λu hu=>by
    obtain ⟨h5,h6⟩:=List.mem_filter.1 hu;exact ⟨h5,by simpa using h6⟩
   have hsub:(z4m b.pid A.op).Sublist A.op:=List.filter_sublist
   have hop:∀ u ∈ z4m b.pid A.op,okT u (b.base+zo b)/\u.last = -1:=λu hu=>⟨z9c (hok.op u (hdrop u hu).1).1 (by omega),(hok.op u (hdrop u hu).1).2⟩
   have hfa:∀ u ∈ A.fa,okT u (b.base+zo b)/\u.first<u.last/\u.last<b.base+zo b:=λu hu=>by
    obtain ⟨h5,h6,h7⟩:=hok.fa u hu;exact ⟨z9c h5 (by omega),h6,by omega⟩
   have hlen:(z4m b.pid A.op).length<=1024:=Nat.le_trans hsub.length_le hok.many.1;split
   ·rename_i hk3
    rw [ho];have htf:=(hok.op t htm).1;refine ⟨by show 0<=b.base+zo b/\b.base+zo b<=_;omega,⟨hlen,by show (A.fa++[_]).length<=_;rw [List.length_append];have:=m4 hk3 t ho;simp;omega⟩,hop,λu hu=>?_,hok.byFirst.sublist hsub,?_,hok.pids.sublist (hsub.map _),?_,λu hu x hx=>?_⟩
    ·rcases List.mem_append.1 hu with hu|hu
     ·exact hfa u hu
     ·rw [List.mem_singleton.1 hu];have:=htf.first;exact ⟨⟨htf.pid,htf.epoch,this.1,by show t.first<b.base+zo b;omega⟩,by show t.first<b.base;omega,by show b.base<b.base+zo b;omega⟩
    ·show (A.fa++[_]).Pairwise _;rw [List.pairwise_append];refine ⟨hok.byLast,by simp,λu hu x hx=>?_⟩;rw [List.mem_singleton.1 hx];have:=(hok.fa u hu).2.2;show u.last<b.base;omega
    ·show ((A.fa++[_]).map _).Nodup;rw [List.map_append,List.nodup_append];refine ⟨hok.keys,by simp,λp hp q hq=>?_⟩;obtain ⟨u,hu,rfl⟩:=List.mem_map.1 hp;rw [List.map_singleton,List.mem_singleton] at hq;rw [hq];intro h5;simp only [Prod.mk.injEq] at h5;exact zdc m1 u hu ⟨h5.1.trans htp,h5.2.trans hte⟩
    ·rcases List.mem_append.1 hx with hx|hx
     ·exact hok.apart u (hdrop u hu).1 x hx
     ·rw [List.mem_singleton.1 hx];intro h5;exact (hdrop u hu).2 (h5.1.trans htp)
   ·exact ⟨by show 0<=b.base+zo b/\b.base+zo b<=_;omega,⟨hlen,hok.many.2⟩,hop,hfa,hok.byFirst.sublist hsub,hok.byLast,hok.pids.sublist (hsub.map _),hok.keys,λu hu x hx=>hok.apart u (hdrop u hu).1 x hx⟩
  ·refine ⟨by show 0<=b.base+zo b/\b.base+zo b<=_;omega,hok.many,λt ht=>⟨z9c (hok.op t ht).1 (by show A.next<=b.base+zo b;omega),(hok.op t ht).2⟩,λt ht=>?_,hok.byFirst,hok.byLast,hok.pids,hok.keys,hok.apart⟩;obtain ⟨h1,h2,h3⟩:=hok.fa t ht;exact ⟨z9c h1 (by show A.next<=b.base+zo b;omega),h2,by show t.last<b.base+zo b;omega⟩
section
variable {w:World} {l r r1 r2 r3 l':List HP} {v:Nat} {A:ViewA} {b:BatM}
theorem z0a6 (b:BatM) [hf:Fo l vw v A r] [hb:FocR r b.x 4 (b.rs.flatMap z0f)] (hs:Sat w l):Ret P F.a62 #[.pointer (some ⟨v,0,none⟩),.agg (z01 b).toArray] w λvs w'=>vs=[.int .i64 (z6m A b).1]/\Sat w' (vw v (z6m A b).2::r) :=
 zz1 _ b.base b.pid b.epoch b.seq b.kind b.time b.x <| by
  delta z0f5 AA AC AE AH AK AR AS AT Aa Ab Ac Ad Af Ag Aj Al Am Ao Ap Az B1 BO BQ BR BU Bb Bj Bk Bn Bw Bx;unfold z6m;refine zr (hs.perm hf.perm) λa0 w' hs=>zl hs (zb (z00r (v:=v) b hs) λ_ _ hs=>?_);obtain ⟨rfl,hs⟩:=hs;refine zd (wp_lt ?_);refine zi (λh=>?_) λh=>?_
  ·rw [if_pos h];exact wp_lt ⟨rfl,rfl,hs.sub⟩
  rw [if_neg h];have hc:z4l A b=0:=Decidable.not_not.1 h;obtain ⟨hv,hbase,hmay⟩:=z8c hc;refine zl hs (zb (zan b hs) λ_ _ hs=>?_);obtain ⟨rfl,hs⟩:=hs;refine zd ?_
  have hnx:z1u b=b.base+zo b:=by unfold z1u;rw [if_neg (by rw [hv];simp)]
  rw [hnx];obtain ⟨m1,m2,hok,hs⟩:=zas hs;have hok':=z04j hok hc;have ho:=zp1 A b.pid;refine zf (zy hs λw' hs=>?_)
  refine zj (λx w'=>∃ c:Nat,x=(⟨c,0,none⟩,(opF A b.pid).isSome,())/\Sat w' (pt c (.cells #[.int .i64 ((opF A b.pid).getD ⟨0,0,0,0⟩).pid,.int .i64 ((opF A b.pid).getD ⟨0,0,0,0⟩).epoch,.int .i64 ((opF A b.pid).getD ⟨0,0,0,0⟩).first,.int .i64 ((opF A b.pid).getD ⟨0,0,0,0⟩).last] T.a18) ::
   pt a0 (.cells #[.int .i64 b.base,.int .i64 b.pid,.int .i64 b.epoch,.int .i64 b.seq,.int .i64 b.kind,.int .i64 b.time,.slice b.x.a b.x.len b.x.cap] T.a0) ::
   pt v (.cells #[.int .i64 (b.base+zo b),.map (some m1),.map (some m2)] T.a16)::z03 ekI evX m1 (opK A)::z03 ekK evX m2 (faK A)::r)) ?_ ?_
  ·refine zt hs λw' hs=>zf (z0y hs ?_);refine z0y hs (ze8 hs (opF A b.pid) ho zc0 ?_);refine z81 _ _ _ _ _ (zu hs (λc w' hs=>?_) (λc w' hs=>⟨⟨⟨trivial,λ_=>z09 hs⟩,λ_=>z09 hs⟩,λ_=>z9v (ss:=lkS) hs ho zc0⟩));refine ze (zv hs λw' hs=>?_);refine wp_lt (ze ?_);exact zg ⟨c,rfl,hs.sub⟩
  clear hs;rintro _ w ⟨c,rfl,hs⟩;refine zh (z8 hs ?_);refine wp_lt (zj (λ_ w'=>Sat w' (vw v (z3x A b)::r)) ?_ (by rintro _ w' hs;refine zh ?_;exact ⟨rfl,rfl,hs⟩));refine zi (λh1=>?_) λh1=>?_
  ·have h1:b.kind=1/\(opF A b.pid).isSome=false:=⟨h1.1,by simpa using h1.2⟩
   have htk:z3x A b={ A with next:=b.base+zo b,op:=A.op++[⟨b.pid,b.epoch,b.base,-1⟩] }:=by unfold z3x;rw [if_pos h1]
   rw [htk] at hok' ⊢;refine zt hs λw' hs=>zf (z8 hs ?_);refine z8 hs (z8 hs ?_);refine z8 hs (z8 hs ?_)
   have hno:∀ u,(b.pid,u) ∉ opK A:=by
    rcases ho with ⟨t,ht,-⟩|⟨-,hno⟩
    ·rw [ht] at h1;cases h1.2
    ·exact hno
   refine z4x hs (opK A) (.inr ⟨hno,rfl⟩) (⟨b.pid,b.epoch,b.base,-1⟩:TxnA) λw' hs=>ze (zg ?_)
   exact z5g m1 m2 (A:={ A with next:=b.base+zo b,op:=A.op++[⟨b.pid,b.epoch,b.base,-1⟩] }) hok' hs (by
    show List.Perm _ ((A.op++[_]).map _);rw [List.map_append]
    exact List.perm_append_comm (l₁:=[(b.pid,(⟨b.pid,b.epoch,b.base,-1⟩:TxnA))]))
  have h1:¬ (b.kind=1/\(opF A b.pid).isSome=false):=λh=>h1 ⟨h.1,by simpa using h.2⟩;refine zl hs (zb (zu3 b hs) λ_ _ hs=>?_);obtain ⟨rfl,hs⟩:=hs;refine zd (wp_lt ?_);refine zj (λ_ w'=>Sat w' (vw v (z3x A b)::r)) ?_ (by rintro _ w' hs;refine zh ?_;exact zg hs);refine zi (λh2=>?_) λh2=>?_;rotate_left
  ·have htk:z3x A b={ A with next:=b.base+zo b }:=by unfold z3x;rw [if_neg h1,if_neg (λh=>h2 h)]
   rw [htk] at hok' ⊢;exact zg (z5g m1 m2 (A:={ A with next:=b.base+zo b }) hok' hs)
  have h2:z0i b=true/\(opF A b.pid).isSome=true:=h2;obtain ⟨t,hot⟩:∃ t,opF A b.pid=some t:=Option.isSome_iff_exists.1 h2.2;obtain ⟨htm,htp⟩:=zdr hot
  have hdel:(opK A).Perm ((b.pid,t)::(z4m b.pid A.op).map λt=>(t.pid,t)):=by
   have:=(zii hok.pids htm).map λt:TxnA=>(t.pid,t)
   rw [List.map_cons,htp] at this;exact this
  rw [hot] at hs;have hs:Sat _ (pt c (.cells #[.int .i64 t.pid,.int .i64 t.epoch,.int .i64 t.first,.int .i64 t.last] T.a18)::_):=hs;refine zt hs λw' hs=>zf (z8 hs ?_);refine z8 hs (zga hs ((z4m b.pid A.op).map λt=>(t.pid,t)) (.inl ⟨t,hdel⟩) λw' hs=>?_);refine ze (z8 hs ?_);refine zj (λ_ w'=>Sat w' (vw v (z3x A b)::r)) ?_ (by rintro _ w' hs;refine zh ?_;exact zg hs);refine zi (λh3=>?_) λh3=>?_
  ·have htk:z3x A b=⟨b.base+zo b,z4m b.pid A.op,A.fa++[(⟨t.pid,t.epoch,t.first,b.base⟩:TxnA)]⟩:=by unfold z3x;rw [if_neg h1,if_pos h2,if_pos h3,hot];rfl
   rw [htk] at hok' ⊢;obtain ⟨n1,n2,-,-⟩:=zhv (hmay (by omega));have hte:=n2 t hot;refine z8 hs (zy hs λw' hs=>?_);refine zt hs λw' hs=>zf (z8 hs ?_);refine zq4 hs (t.pid,t.epoch,()) (zl hs ?_)
   have hno:∀ u,((t.pid,t.epoch),u) ∉ faK A:=λu hu=>by
    obtain ⟨y,hy,e⟩:=List.mem_map.1 hu;simp only [Prod.mk.injEq] at e;exact zdc n1 y hy ⟨e.1.1.trans htp,e.1.2.trans hte⟩
   refine z4x hs (faK A) (.inr ⟨hno,rfl⟩) (⟨t.pid,t.epoch,t.first,b.base⟩:TxnA) λw' hs=>ze (zg ?_)
   have hp2:(((t.pid,t.epoch),(⟨t.pid,t.epoch,t.first,b.base⟩:TxnA))::faK A).Perm (faK ⟨b.base+zo b,z4m b.pid A.op,A.fa++[(⟨t.pid,t.epoch,t.first,b.base⟩:TxnA)]⟩):=by
    show List.Perm _ ((A.fa++[_]).map _);rw [List.map_append];exact List.perm_append_comm (l₁:=[((t.pid,t.epoch),(⟨t.pid,t.epoch,t.first,b.base⟩:TxnA))])
   have hs:=hs.mapPerm hp2;exact z5g m1 m2 (A:=⟨b.base+zo b,z4m b.pid A.op,A.fa++[(⟨t.pid,t.epoch,t.first,b.base⟩:TxnA)]⟩) hok' hs
  ·have htk:z3x A b=⟨b.base+zo b,z4m b.pid A.op,A.fa⟩:=by unfold z3x;rw [if_neg h1,if_pos h2,if_neg h3]
   rw [htk] at hok' ⊢;exact zg (z5g m1 m2 (A:=⟨b.base+zo b,z4m b.pid A.op,A.fa⟩) hok' hs)
end
theorem Ret.mono {P:Program} {f:FuncId} {args:Array Value} {w:World} {R R':List Value->World->Prop} (h:Ret P f args w R) (hi:∀ vs w',R vs w'->R' vs w'):Ret P f args w R' :=
 Calls.mono h λe w' ⟨vs,he,hv⟩=>⟨vs,he,hi _ _ hv⟩
def stR (R:RdM):Lf:=if R.e=0 then some (z5c R) else none
theorem z8w {R:RdM} (h:R.e=0):stR R=some (z5c R):=if_pos h
theorem z7t {R:RdM} (h:R.e≠0):stR R=none:=if_neg h
theorem z05i {R:RdM}:(stR R).isSome=decide (R.e=0):=by
 unfold stR;split <;> simp [*]
theorem zg7 {R:RdM}:(R.uint).1=(z0n (stR R)).1/\stR R.uint.2=(z0n (stR R)).2:=by
 by_cases h:R.e=0
 ·rw [z8w h]
  cases hn:z49 0 (R.bs.drop R.at_) with
  | none =>
   have e1:R.uint=(0,⟨R.bs,R.at_,6⟩):=by unfold RdM.uint;rw [if_neg (by rw [h];simp)];simp only [hn]
   have e2:z0n (some (z5c R))=(0,none):=by unfold z0n z5c;simp only [hn]
   rw [e1,e2];exact ⟨rfl,if_neg (show ¬ (6:Int)=0 by decide)⟩
  | some q =>
   have e1:R.uint=(q.1,⟨R.bs,R.at_+q.2,R.e⟩):=by unfold RdM.uint;rw [if_neg (by rw [h];simp)];simp only [hn]
   have e2:z0n (some (z5c R))=(q.1,some ((z5c R).drop q.2)):=by unfold z0n z5c;simp only [hn]
   rw [e1,e2];refine ⟨rfl,?_⟩;show (if R.e=0 then some (R.bs.drop (R.at_+q.2)) else none)=some ((R.bs.drop R.at_).drop q.2);rw [if_pos h,List.drop_drop]
 ·rw [zq0 h];show 0=(z0n (stR R)).1/\stR R=(z0n (stR R)).2;rw [z7t h];exact ⟨rfl,rfl⟩
theorem zmm {R:RdM} {lo hi:Int}:(R.within lo hi).1=(z1s lo hi (stR R)).1/\stR (R.within lo hi).2=(z1s lo hi (stR R)).2:=by
 obtain ⟨h1,h2⟩:=zg7 (R:=R);unfold RdM.within z1s;rw [<- h1,<- h2]
 by_cases h:R.uint.2.e=0
 ·rw [if_neg (by rw [h];simp),z8w h];simp only
  by_cases hc:zag R.uint.1<lo\/zag R.uint.1>hi
  ·rw [if_pos hc,if_pos hc];exact ⟨rfl,if_neg (show ¬ (8:Int)=0 by decide)⟩
  ·rw [if_neg hc,if_neg hc];exact ⟨rfl,z8w h⟩
 ·rw [if_pos h];show 0=_/\stR R.uint.2=_;rw [z7t h];exact ⟨rfl,rfl⟩
def rdS (T':TypeId) (p:Nat) (s:Lf):HP:=HP.ex λR:RdM=>HP.and (stR R=s) (rdP T' p R)
section
variable {w:World} {l r:List HP} {p:Nat} {s:Lf} {T':TypeId}
theorem z87 (hs:Sat w (rdS T' p s::l)):∃ R:RdM,stR R=s/\Sat w (rdP T' p R::l):=by
 obtain ⟨R,hs⟩:=hs.ex;obtain ⟨h,hs⟩:=hs.and;exact ⟨R,h,hs⟩
theorem z2q {R:RdM} (h:stR R=s) (hs:Sat w (rdP T' p R::l)):Sat w (rdS T' p s::l):=.ex_mk R (.and_mk h hs)
theorem zou (x:Sl) (bs:List UInt8) [hx:FocR l x 1 (bs.flatMap zk)] (hn:bs.length<=1000000000) (hs:Sat w l) :
  Ret P F.a215 #[x.v] w λvs w'=>∃ p:Nat,vs=[.pointer (some ⟨p,0,none⟩)]/\Sat w' (rdS T.a65 p (some bs)::l) :=
 (zqg x bs hn hs).mono λ_ _ h=>by
  obtain ⟨p,rfl,hs⟩:=h;exact ⟨p,rfl,z2q (R:=⟨bs,0,0⟩) rfl hs⟩
theorem zg8 [hf:Fo l (rdS T.a65) p s r] (hs:Sat w l):Ret P F.a222 #[.pointer (some ⟨p,0,none⟩)] w λvs w'=>vs=[.int .u64 ((z0n s).1:Int)]/\Sat w' (rdS T.a65 p (z0n s).2::r):=by
 obtain ⟨R,rfl,hs⟩:=z87 (hs.perm hf.perm);refine (zuz (p:=p) hs).mono λ_ _ h=>?_;obtain ⟨rfl,hs⟩:=h;exact ⟨by rw [zg7.1],z2q zg7.2 hs⟩
theorem z02i (lo hi:Int) [hf:Fo l (rdS T.a65) p s r] (hs:Sat w l):Ret P F.a223 #[.pointer (some ⟨p,0,none⟩),.int .i64 lo,.int .i64 hi] w λvs w'=>vs=[.int .i64 (z1s lo hi s).1]/\Sat w' (rdS T.a65 p (z1s lo hi s).2::r):=by
 obtain ⟨R,rfl,hs⟩:=z87 (hs.perm hf.perm);refine (z01t (p:=p) lo hi hs).mono λ_ _ h=>?_;obtain ⟨rfl,hs⟩:=h;exact ⟨by rw [zmm.1],z2q zmm.2 hs⟩
theorem zo4 [hf:Fo l (rdS T.a65) p s r] (hs:Sat w l):Ret P F.a218 #[.pointer (some ⟨p,0,none⟩)] w λvs w'=>∃ e:Int,vs=[.int .i64 e]/\(e=0↔s.isSome=true)/\Sat w' (rdS T.a65 p s::r):=by
 obtain ⟨R,rfl,hs⟩:=z87 (hs.perm hf.perm);refine (z0d8 (p:=p) hs).mono λ_ _ h=>?_;obtain ⟨rfl,hs⟩:=h;exact ⟨R.e,rfl,by rw [z05i,decide_eq_true_iff],z2q rfl hs⟩
theorem zo2 [hf:Fo l (rdS T.a65) p s r] (hs:Sat w l):Ret P F.a217 #[.pointer (some ⟨p,0,none⟩)] w λvs w'=>∃ e:Int,vs=[.int .i64 e]/\(e=0↔s=some [])/\Sat w' r:=by
 obtain ⟨R,rfl,hs⟩:=z87 (hs.perm hf.perm);have hb:=(z73 hs).1;refine (z0d7 (p:=p) hs).mono λ_ _ h=>?_;obtain ⟨rfl,hs⟩:=h;refine ⟨_,rfl,?_,hs.tail⟩;rw [zvt hb];unfold stR
 by_cases h:R.e=0 <;> simp [h]
end
section
variable {w:World} {l r:List HP} {p:Nat} {s:Lf}
theorem zkt (b:Bool) (hs:Sat w l):Ret P F.a212 #[.bool b] w λvs w'=>∃ z:Sl,vs=[z.v]/\Sat w' (slc T.a63 1 z ([z1q b].flatMap zk)::l) :=
 zsy b <| by
  delta z08u Aa Ab Bc;refine zi (λh=>?_) λh=>?_
  ·subst h;exact zbp hs (enc:=zk) (1:UInt8) λz w' hs=>⟨rfl,z,rfl,hs⟩
  ·have h:b=false:=by simpa using h
   subst h;exact zbp hs (enc:=zk) (0:UInt8) λz w' hs=>⟨rfl,z,rfl,hs⟩
theorem zkj (n:Nat) {x:Sl} {bs:List UInt8} {e:Int} {at_:Nat} (hn:at_+n<=bs.length) (hb:bs.length<=1000000000) (hcap:x.len<=x.cap) [hf:FocB l p (.cells [.slice x.a x.len x.cap,.int .i64 at_,.int .i64 e].toArray T.a65) r] [hr:FocR r x 1 (bs.flatMap zk)] (hs:Sat w l) :
  Ret P F.a229 #[.pointer (some ⟨p,0,none⟩),.int .i64 n] w λvs w'=>vs=[.slice (z0k x.a 1 at_ x.cap) n (x.cap-at_)]/\Sat w' (pt p (.cells #[.slice x.a x.len x.cap,.int .i64 (at_+n:Nat),.int .i64 e] T.a65)::r) :=
 ztf _ n <| by
  delta z09b AC AE AN AR AS Ab Ac Ao Av;have hs:=hs.perm hf.perm;have hl:=hs.slen x (xs:=bs) (enc:=zk);refine zf (z8 hs ?_);refine zf ?_
  have e2:IntKind.wrap .i64 ((at_:Int)+n)=((at_+n:Nat):Int):=by rw [w64 (by omega) (by omega)];omega
  rw [e2];refine zy hs λw' hs=>zt hs λw' hs=>zf (z8 hs ?_);refine zf (z8 hs ?_);refine zf (z8 hs ?_)
  have e3:IntKind.wrap .i64 (((at_+n:Nat):Int)-n)=(at_:Int):=by rw [w64 (by omega) (by omega)];omega
  rw [e3];refine wp_must (by omega) (ze ?_);refine ⟨rfl,?_,hs⟩;simp only [Int.toNat_natCast,Nat.add_sub_cancel_left]
end
theorem bvi (s:BitVec 32):BitVec.ofInt 32 ((s.toNat:Nat):Int)=s:=by rw [BitVec.ofInt_natCast,BitVec.ofNat_toNat,BitVec.setWidth_eq]
theorem wbv (s:BitVec 32):IntKind.wrap .u32 ((s.toNat:Nat):Int)=((s.toNat:Nat):Int):=by rw [znf,Nat.mod_eq_of_lt s.isLt]
theorem z01c (s:BitVec 32):BitVec.ofInt 32 4294967295 ^^^ BitVec.ofInt 32 ((s.toNat:Nat):Int) = ~~~ s:=by
 rw [bvi]
 have:BitVec.ofInt 32 4294967295=BitVec.allOnes 32:=by decide +kernel
 rw [this,BitVec.allOnes_xor]
theorem z0g9 (s:BitVec 32):BitVec.ofInt 32 (Int.fdiv ((s.toNat:Nat):Int) 2)=s >>> 1:=by
 rw [z94 _ (by decide),BitVec.ofInt_natCast];apply BitVec.eq_of_toNat_eq;have:=s.isLt;rw [BitVec.toNat_ofNat,BitVec.toNat_ushiftRight,Nat.shiftRight_eq_div_pow];show s.toNat / 2 % 2 ^ 32=s.toNat / 2 ^ 1;omega
theorem z0ct (s:BitVec 32):BitVec.ofInt 32 (IntKind.wrap .u32 (0-((s.toNat:Nat):Int)))=0#32-s:=by
 apply BitVec.eq_of_toNat_eq;have:=s.isLt
 have e:IntKind.wrap .u32 (0-((s.toNat:Nat):Int))=(((4294967296-s.toNat) % 4294967296:Nat):Int):=by
  simp [IntKind.wrap,IntKind.bits,IntKind.signed];omega
 rw [e,BitVec.ofInt_natCast,BitVec.toNat_ofNat,BitVec.toNat_sub];simp
theorem z0bb (s:BitVec 32):IntKind.wrap .u32 (((BitVec.toNat (BitVec.ofInt 32 (Int.fdiv ((s.toNat:Nat):Int) 2) ^^^ BitVec.ofInt 32 (IntKind.wrap .u32 (((BitVec.toNat (BitVec.ofInt 32 3988292384 &&& BitVec.ofInt 32 (IntKind.wrap .u32 (0-IntKind.wrap .u32 (((BitVec.toNat (BitVec.ofInt 32 ((s.toNat:Nat):Int) &&& BitVec.ofInt 32 1):Nat):Int))))):Nat):Int)))):Nat):Int))=(((z037 s).toNat:Nat):Int):=by
 rw [wbv,wbv,wbv,bvi,bvi,z0ct,z0g9];rfl
theorem z065 (s:BitVec 32) (c:UInt8):IntKind.wrap .u32 (((BitVec.toNat (BitVec.ofInt 32 ((s.toNat:Nat):Int) ^^^ BitVec.ofInt 32 (IntKind.wrap .u32 ((c.toNat:Nat):Int))):Nat):Int))=(((s ^^^ BitVec.ofNat 32 c.toNat).toNat:Nat):Int):=by
 have:=c.toNat_lt;rw [wbv,bvi,znf,Nat.mod_eq_of_lt (by omega),BitVec.ofInt_natCast]
section
variable {w:World} {l r:List HP} {Q:Post} {S:World->Prop}
theorem z00c (s:BitVec 32) (bs:List UInt8) (i:Nat) (hi:i<bs.length):z6d s (bs.take (i+1))=zvq (z6d s (bs.take i)) bs[i]:=by
 unfold z6d;rw [List.take_add_one,List.getElem?_eq_getElem hi,Option.toList_some,List.foldl_append];rfl
theorem z09w (m:BitVec 32) (x:Sl) (ps:List (Sl × List UInt8)) [hx:FocR l x 1 ((ps.map Prod.fst).flatMap z0h)] (hps:∀ p ∈ ps,FocR l p.1 1 (p.2.flatMap zk)/\p.2.length<=1000000000) (hpl:ps.length<=1000000) (hs:Sat w l) :
  Ret P F.a41 #[.int .u32 ((m.toNat:Nat):Int),x.v] w λvs w'=>vs=[.int .u32 (((zwg m (ps.flatMap Prod.snd)).toNat:Nat):Int)]/\Sat w' l :=
 zyk _ x <| by
  delta z0eq AN Aa Ab Ac Ak Av BC BH BI Bg Bh;have hl:=hs.slen x (xs:=ps.map Prod.fst) (enc:=z0h);rw [List.length_map] at hl;rw [z01c,wbv];refine wp_lt (zj (λu w'=>u=((((z6d (~~~ m) (ps.flatMap Prod.snd)).toNat:Nat):Int),())/\Sat w' l) ?_ ?_);rotate_left
  ·rintro _ w' ⟨rfl,hs⟩;refine zh ?_;rw [z01c,wbv];exact wp_lt ⟨rfl,rfl,hs⟩
  refine z0a (λk u w=>∃ i:Nat,u=((((z6d (~~~ m) ((ps.take i).flatMap Prod.snd)).toNat:Nat):Int),(i:Int),())/\i<=ps.length/\ps.length-i=k/\Sat w l) ps.length ⟨0,rfl,by omega,rfl,hs⟩ ?_;clear hs;rintro k _ w ⟨i,rfl,hi,hk,hs⟩;refine zh (zi (λhc=>?_) λhc=>?_);rotate_left
  ·refine zm (zg ⟨?_,hs⟩);rw [List.take_of_length_le (by omega)]
  have hil:i<ps.length:=by omega
  obtain ⟨hF,hpl2⟩:=hps _ (List.getElem_mem hil);have hpi:=hs.slen ps[i].1 (xs:=ps[i].2) (enc:=zk);refine zj (λu w'=>u=((((z6d (~~~ m) ((ps.take (i+1)).flatMap Prod.snd)).toNat:Nat):Int),())/\Sat w' l) ?_ ?_;rotate_left
  ·rintro _ w' ⟨rfl,hs⟩;refine zh (z22 (us':=[.int .u32 (((z6d (~~~ m) ((ps.take (i+1)).flatMap Prod.snd)).toNat:Nat):Int),.int .i64 ((i+1:Nat):Int)]) (by (try simp (disch:=omega) only [w64]);first|rfl|(congr;omega)) ?_);exact z0x (ps.length-(i+1)) ⟨i+1,rfl,by omega,rfl,hs⟩
  refine z1g hs (xs:=ps.map Prod.fst) (enc:=z0h) i (by rw [List.length_map];exact hil) ?_;rw [List.getElem_map]
  have hto:z6d (~~~ m) ((ps.take (i+1)).flatMap Prod.snd)=z6d (z6d (~~~ m) ((ps.take i).flatMap Prod.snd)) ps[i].2:=by
   rw [List.take_add_one,List.getElem?_eq_getElem hil,Option.toList_some,List.flatMap_append,List.flatMap_singleton];unfold z6d;rw [List.foldl_append]
  rw [hto];generalize z6d (~~~ m) ((ps.take i).flatMap Prod.snd)=s0;generalize ps[i]=q at *;refine zj (λu w'=>u=((((z6d s0 q.2).toNat:Nat):Int),())/\Sat w' l) ?_ (by rintro _ w' ⟨rfl,hs⟩;refine zh ?_;exact zg ⟨rfl,hs⟩);refine z0a (λk u w=>∃ j:Nat,u=((((z6d s0 (q.2.take j)).toNat:Nat):Int),(j:Int),())/\j<=q.2.length/\q.2.length-j=k/\Sat w l) q.2.length ⟨0,rfl,by omega,rfl,hs⟩ ?_;clear hs;rintro k _ w ⟨j,rfl,hj,hk,hs⟩;refine zh (zi (λhc=>?_) λhc=>?_);rotate_left
  ·refine zm (zg ⟨?_,hs⟩);rw [List.take_of_length_le (by omega)]
  have hjl:j<q.2.length:=by omega
  refine zj (λu w'=>u=((((z6d s0 (q.2.take (j+1))).toNat:Nat):Int),())/\Sat w' l) ?_ ?_;rotate_left
  ·rintro _ w' ⟨rfl,hs⟩;refine zh (z22 (us':=[.int .u32 (((z6d s0 (q.2.take (j+1))).toNat:Nat):Int),.int .i64 ((j+1:Nat):Int)]) (by (try simp (disch:=omega) only [w64]);first|rfl|(congr;omega)) ?_);exact z0x (q.2.length-(j+1)) ⟨j+1,rfl,by omega,rfl,hs⟩
  refine z1g hs (xs:=q.2) (enc:=zk) j hjl (wp_lt ?_);rw [z065];refine wp_lt ?_;rw [z00c s0 q.2 j hjl];generalize z6d s0 (q.2.take j)=s1;show Prog.wp P _ _ _ _;refine zj (λu w'=>u=((((zvq s1 q.2[j]).toNat:Nat):Int),())/\Sat w' l) ?_ (by rintro _ w' ⟨rfl,hs⟩;refine zh ?_;exact zg ⟨rfl,hs⟩);unfold zvq;generalize s1 ^^^ BitVec.ofNat 32 q.2[j].toNat=s2;refine z0a (λk u w=>∃ i:Nat,u=((((zvr i s2).toNat:Nat):Int),(i:Int),())/\i<=8/\8-i=k/\Sat w l) 8 ⟨0,rfl,by omega,rfl,hs⟩ ?_;clear hs;rintro k _ w ⟨i,rfl,hi,hk,hs⟩;refine zh (zi (λhc=>?_) λhc=>?_);rotate_left
  ·obtain rfl:i=8:=by omega
   exact zm (zg ⟨rfl,hs⟩)
  rw [z0bb];refine wp_lt (z22 (us':=[.int .u32 (((z037 (zvr i s2)).toNat:Nat):Int),.int .i64 ((i+1:Nat):Int)]) (by (try simp (disch:=omega) only [w64]);first|rfl|(congr;omega)) ?_);exact z0x (8-(i+1)) ⟨i+1,rfl,by omega,rfl,hs⟩
theorem z0cf (x:Sl) (ps:List (Sl × List UInt8)) [hx:FocR l x 1 ((ps.map Prod.fst).flatMap z0h)] (hps:∀ p ∈ ps,FocR l p.1 1 (p.2.flatMap zk)/\p.2.length<=1000000000) (hpl:ps.length<=1000000) (hs:Sat w l) :
  Ret P F.a44 #[x.v] w λvs w'=>vs=[.int .u32 ((zbk (ps.flatMap Prod.snd):Nat):Int)]/\Sat w' l :=
 zyn x <| by
  delta z0et Ab BB BC;refine zb (z09w 0#32 x ps hps hpl hs) λ_ _ hs=>?_;obtain ⟨rfl,hs⟩:=hs;refine zd (wp_lt ?_);exact ⟨rfl,rfl,hs⟩
theorem zk8 (x y:Sl) (bs:List UInt8) [hx:FocR l x 1 ([y].flatMap z0h)] [hy:FocR l y 1 (bs.flatMap zk)] (hn:bs.length<=1000000000) (hs:Sat w l) :
  Ret P F.a44 #[x.v] w λvs w'=>vs=[.int .u32 ((zbk bs:Nat):Int)]/\Sat w' l:=by
 have:=@z0cf w l x [(y,bs)] hx (by intro p hp;rw [List.mem_singleton.1 hp];exact ⟨hy,hn⟩) (by simp) hs;simpa using this
theorem ztw (n:Nat) (hn:n<4294967296) (hs:Sat w l):Ret P F.a45 #[.int .u32 (n:Int)] w λvs w'=>∃ z:Sl,vs=[z.v]/\Sat w' (slc T.a63 1 z ((z47 n).flatMap zk)::l) :=
 zyo n <| by
  delta z0eu Ab Bc
  have e0:IntKind.wrap .u8 (n:Int)=(((UInt8.ofNat n).toNat:Nat):Int):=by rw [zfu];simp
  have e1:IntKind.wrap .u8 (Int.fdiv (n:Int) 256)=(((UInt8.ofNat (n / 256)).toNat:Nat):Int):=by rw [z94 n (by decide),zfu];simp
  have e2:IntKind.wrap .u8 (Int.fdiv (n:Int) 65536)=(((UInt8.ofNat (n / 65536)).toNat:Nat):Int):=by rw [z94 n (by decide),zfu];simp
  have e3:IntKind.wrap .u8 (Int.fdiv (n:Int) 16777216)=(((UInt8.ofNat (n / 16777216)).toNat:Nat):Int):=by rw [z94 n (by decide),zfu];simp
  rw [e0,e1,e2,e3];refine zav hs (enc:=zk) (z47 n) (cs:=((z47 n).flatMap zk).toArray) (by kernel_rfl) (λb w' hs=>?_) (by simp);exact ⟨rfl,_,rfl,hs⟩
theorem z04m {a b c d:Nat} (ha:a<256) (hb:b<256) (hc:c<256) (hd:d<256) :
  IntKind.wrap .u32 (((BitVec.toNat (BitVec.ofInt 32 (IntKind.wrap .u32 (((BitVec.toNat (BitVec.ofInt 32 (IntKind.wrap .u32 (((BitVec.toNat (BitVec.ofInt 32 (IntKind.wrap .u32 (a:Int)) ||| BitVec.ofInt 32 (IntKind.wrap .u32 (IntKind.wrap .u32 (b:Int)*256))):Nat):Int))) ||| BitVec.ofInt 32 (IntKind.wrap .u32 (IntKind.wrap .u32 (c:Int)*65536))):Nat):Int))) ||| BitVec.ofInt 32 (IntKind.wrap .u32 (IntKind.wrap .u32 (d:Int)*16777216))):Nat):Int))=((a+256*b+65536*c+16777216*d:Nat):Int):=by
 have wm:∀ {m:Nat},m<4294967296->IntKind.wrap .u32 (m:Int)=(m:Int):=λ{m} h=>by rw [znf,Nat.mod_eq_of_lt h]
 have or2:∀ {x y i:Nat},x<2 ^ i->y*2 ^ i+x<4294967296->BitVec.toNat (BitVec.ofInt 32 (x:Int) ||| BitVec.ofInt 32 ((y*2 ^ i:Nat):Int))=x+y*2 ^ i:=λ{x y i} h1 h2=>by
  rw [BitVec.ofInt_natCast,BitVec.ofInt_natCast,BitVec.toNat_or,BitVec.toNat_ofNat,BitVec.toNat_ofNat,Nat.mod_eq_of_lt (show x<2 ^ 32 by omega),Nat.mod_eq_of_lt (show y*2 ^ i<2 ^ 32 by omega),Nat.or_comm,Nat.mul_comm,<- Nat.two_pow_add_eq_or_of_lt h1,Nat.add_comm]
 have m1:((b:Nat):Int)*256=((b*2 ^ 8:Nat):Int):=rfl;have m2:((c:Nat):Int)*65536=((c*2 ^ 16:Nat):Int):=rfl;have m3:((d:Nat):Int)*16777216=((d*2 ^ 24:Nat):Int):=rfl
 rw [wm (show a<_ by omega),wm (show b<_ by omega),wm (show c<_ by omega),wm (show d<_ by omega),m1,m2,m3,wm (show b*2 ^ 8<_ by omega),wm (show c*2 ^ 16<_ by omega),wm (show d*2 ^ 24<_ by omega),
  or2 (by omega) (by omega),wm (show a+b*2 ^ 8<_ by omega),or2 (by omega) (by omega),wm (show a+b*2 ^ 8+c*2 ^ 16<_ by omega),or2 (by omega) (by omega),wm (by omega)]
 congr 1
 omega
theorem z04f {bs:List UInt8} (h:4<=bs.length):z0m bs=bs[0].toNat+256*bs[1].toNat+65536*bs[2].toNat+16777216*bs[3].toNat:=by
 match bs,h with
 | a::b::c::d::r,_=>rfl
theorem z9j {α:Type} {enc:α->List Value} {xs:List α} {sz m:Nat} {ii:Int} {x:Sl} {T:TypeId} {g':Prop} {p:Pr} {dec:α->p.D} {f:p.D->Prog} (hs:Sat w l) [hf:FocR l x sz (xs.flatMap enc)] [hE:EncN enc sz] [hD:Enc1 enc p dec] [hT:One P T]
  (n:Nat) (hn:n<xs.length) (h:(f (dec xs[n])).wp P S w Q) (hm:m=n*sz:=by rfl) (hi:ii=n:=by rfl) :
  (Prog.ex [.adr] (c1 λa=>(0:Int)<=ii/\ii<((x.len:Nat):Int)/\x.a=some a) (u1 λa=>.read g' (ld T (Addr.add a m)) (.one (.one p)) (u1 f))).wp P S w Q:=by
 subst hm hi;have hr:=hf.rd w hs;have hl:x.len=xs.length:=hr.len hE.len hE.pos;obtain ⟨a,ha,he⟩:=hr.el hE.len (by omega);refine ⟨(a,()),⟨by omega,by omega,ha⟩,(dec xs[n],()),λ_=>?_,h⟩;have:=he n hn;rw [hD.ok] at this;have h2:=At.ld1 (P:=P) (T:=T) this rfl;cases p <;> exact h2
theorem zes (x:Sl) (bs:List UInt8) [hx:FocR l x 1 (bs.flatMap zk)] (hn:4<=bs.length) (hs:Sat w l):Ret P F.a46 #[x.v] w λvs w'=>vs=[.int .u32 ((z0m bs:Nat):Int)]/\Sat w' l :=
 zyp x <| by
  delta z0ev AC AE Ab Ak BC Bg;refine zt hs λw' hs=>z9j hs (xs:=bs) (enc:=zk) 0 (by omega) (z9j hs (xs:=bs) (enc:=zk) 1 (by omega) ?_);refine z9j hs (xs:=bs) (enc:=zk) 2 (by omega) (z9j hs (xs:=bs) (enc:=zk) 3 (by omega) ?_);rw [z04m (by have:=bs[0].toNat_lt;omega) (by have:=bs[1].toNat_lt;omega) (by have:=bs[2].toNat_lt;omega) (by have:=bs[3].toNat_lt;omega),<- z04f hn];refine wp_lt (ze ?_);exact ⟨rfl,rfl,hs⟩
theorem ztz (x:Sl) (ps:List (Sl × List UInt8)) [hx:FocR l x 1 ((ps.map Prod.fst).flatMap z0h)] (hps:∀ p ∈ ps,FocR l p.1 1 (p.2.flatMap zk)/\p.2.length<=1000000000) (hpl:ps.length<=1000000) (hs:Sat w l) :
  Ret P F.a43 #[x.v] w λvs w'=>∃ z:Sl,vs=[z.v]/\Sat w' (slc T.a63 1 z ((z3w (ps.flatMap Prod.snd)).flatMap zk)::l) :=
 zym x <| by
  delta z0es AN AO AU Aa Ab Ac Ak Al Av Aw BB Bc Bf Br;have hl:=hs.slen x (xs:=ps.map Prod.fst) (enc:=z0h);rw [List.length_map] at hl
  have hstep:∀ i (hi:i<ps.length),(ps.take (i+1)).flatMap Prod.snd=(ps.take i).flatMap Prod.snd++ps[i].2:=λi hi=>by
   rw [List.take_add_one,List.getElem?_eq_getElem hi,Option.toList_some,List.flatMap_append,List.flatMap_singleton]
  have hmany:∀ i,((ps.take i).flatMap Prod.snd).length<=(ps.flatMap Prod.snd).length:=λi=>by
   have:ps.flatMap Prod.snd=(ps.take i).flatMap Prod.snd++(ps.drop i).flatMap Prod.snd:=by rw [<- List.flatMap_append,List.take_append_drop]
   rw [this,List.length_append];omega
  refine zj (λu w'=>u=((((ps.flatMap Prod.snd).length:Nat):Int),())/\(ps.flatMap Prod.snd).length<=262144/\Sat w' l) ?_ ?_
  ·refine z0a (λk u w=>∃ i:Nat,u=(((((ps.take i).flatMap Prod.snd).length:Nat):Int),(i:Int),())/\i<=ps.length/\ps.length-i=k/\((ps.take i).flatMap Prod.snd).length<=262144/\Sat w l) ps.length ⟨0,rfl,by omega,rfl,by simp,hs⟩ ?_;clear hs;rintro k _ w ⟨i,rfl,hi,hk,hsm,hs⟩;refine zh (zi (λhc=>?_) λhc=>?_);rotate_left
   ·rw [List.take_of_length_le (by omega)] at hsm ⊢;exact zm (zg ⟨rfl,hsm,hs⟩)
   have hil:i<ps.length:=by omega
   refine z1g hs (xs:=ps.map Prod.fst) (enc:=z0h) i (by rw [List.length_map];exact hil) ?_;rw [List.getElem_map];obtain ⟨hF,hpb⟩:=hps _ (List.getElem_mem hil);have hpi:=hs.slen ps[i].1 (xs:=ps[i].2) (enc:=zk);have h1:=hmany (i+1);have h2:=congrArg List.length (hstep i hil);rw [List.length_append] at h2
   have e:IntKind.wrap .i64 (((((ps.take i).flatMap Prod.snd).length:Nat):Int)+((ps[i].1.len:Nat):Int))=((((ps.take (i+1)).flatMap Prod.snd).length:Nat):Int):=by rw [w64 (by omega) (by omega)];omega
   refine z7p e (zi (λhbig=>?_) λhbig=>?_)
   ·refine zm (zm ⟨rfl,⟨none,0,0⟩,rfl,?_⟩)
    have:z3w (ps.flatMap Prod.snd)=[]:=by unfold z3w;rw [if_pos (by omega)]
    rw [this];exact hs.slc_nil
   refine z22 (us':=[.int .i64 ((((ps.take (i+1)).flatMap Prod.snd).length:Nat):Int),.int .i64 ((i+1:Nat):Int)]) (by (try simp (disch:=omega) only [w64]);first|rfl|(congr;omega)) (z0x (ps.length-(i+1)) ?_);exact ⟨i+1,rfl,by omega,rfl,by omega,hs⟩
  clear hs;rintro _ w ⟨rfl,hsm,hs⟩;refine zh ?_
  have e8:IntKind.wrap .i64 ((((ps.flatMap Prod.snd).length:Nat):Int)+8)=(((ps.flatMap Prod.snd).length+8:Nat):Int):=by rw [w64 (by omega) (by omega)];omega
  rw [e8,znf,Nat.mod_eq_of_lt (by omega)];refine zvf ((ps.flatMap Prod.snd).length+8) hs λz w' hs=>zb (ztw (ps.flatMap Prod.snd).length (by omega) hs) λ_ _ hs=>?_;obtain ⟨y,rfl,hs⟩:=hs;refine zd ?_;have hs:=hs.pick [1,0];refine wp_app' (xs:=[]) (ys:=z47 (ps.flatMap Prod.snd).length) (enc:=zk) hs (λz w' hs=>?_) (by simp [z6s]);rw [List.nil_append] at hs;have hs:Sat w' (slc T.a63 1 z ((z47 (ps.flatMap Prod.snd).length).flatMap zk)::l):=hs.sub;refine zj (λu w'=>∃ z:Sl,u=(z,())/\Sat w' (slc T.a63 1 z ((z3n (ps.flatMap Prod.snd)).flatMap zk)::l)) ?_ ?_
  ·refine z0a (λk u w=>∃ (i:Nat) (z:Sl),u=(z,(i:Int),())/\i<=ps.length/\ps.length-i=k/\Sat w (slc T.a63 1 z ((z47 (ps.flatMap Prod.snd).length++(ps.take i).flatMap Prod.snd).flatMap zk)::l)) ps.length ⟨0,z,rfl,by omega,rfl,?_⟩ ?_
   ·simpa using hs
   clear hs;rintro k _ w ⟨i,z,rfl,hi,hk,hs⟩;refine zh (zi (λhc=>?_) λhc=>?_);rotate_left
   ·refine zm (zg ⟨z,rfl,?_⟩);rw [List.take_of_length_le (by omega)] at hs;exact hs
   have hil:i<ps.length:=by omega
   refine z1g hs (xs:=ps.map Prod.fst) (enc:=z0h) i (by rw [List.length_map];exact hil) ?_;rw [List.getElem_map];have hF:=(hps _ (List.getElem_mem hil)).1;have h1:=hmany (i+1);rw [hstep i hil,List.length_append] at h1;refine wp_app' (xs:=z47 (ps.flatMap Prod.snd).length++(ps.take i).flatMap Prod.snd) (ys:=ps[i].2) (enc:=zk) hs (λz w' hs=>?_) (by rw [List.length_append,z6s];omega);rw [List.append_assoc,<- hstep i hil] at hs;refine z22 (us':=[z.v,.int .i64 ((i+1:Nat):Int)]) (by (try simp (disch:=omega) only [w64]);first|rfl|(congr;omega)) (z0x (ps.length-(i+1)) ?_);exact ⟨i+1,z,rfl,by omega,rfl,hs⟩
  clear hs;rintro _ w ⟨z,rfl,hs⟩;refine zh ?_
  have hhl:(z3n (ps.flatMap Prod.snd)).length=(ps.flatMap Prod.snd).length+4:=by unfold z3n;rw [List.length_append,z6s];omega
  have hsl:=zv4 (z3n (ps.flatMap Prod.snd));refine zbp hs (enc:=z0h) z λy w' hs=>zb (zk8 y z (z3n (ps.flatMap Prod.snd)) (by omega) hs) λ_ _ hs=>?_;obtain ⟨rfl,hs⟩:=hs;refine zd (zb (ztw (zbk (z3n (ps.flatMap Prod.snd))) hsl hs) λ_ _ hs=>?_);obtain ⟨u,rfl,hs⟩:=hs;refine zd ?_;have hs:=hs.pick [2,0,0];refine wp_app' (xs:=z3n (ps.flatMap Prod.snd)) (ys:=z47 (zbk (z3n (ps.flatMap Prod.snd)))) (enc:=zk) hs (λz w' hs=>?_) (by rw [z6s];omega)
  have e:z3w (ps.flatMap Prod.snd)=z3n (ps.flatMap Prod.snd)++z47 (zbk (z3n (ps.flatMap Prod.snd))):=by unfold z3w;rw [if_neg (by omega)]
  rw [<- e] at hs;exact ⟨rfl,z,rfl,hs.sub⟩
theorem z03g (x y:Sl) (bs:List UInt8) [hx:FocR l x 1 ([y].flatMap z0h)] [hy:FocR l y 1 (bs.flatMap zk)] (hn:bs.length<=1000000000) (hs:Sat w l) :
  Ret P F.a43 #[x.v] w λvs w'=>∃ z:Sl,vs=[z.v]/\Sat w' (slc T.a63 1 z ((z3w bs).flatMap zk)::l):=by
 have:=@ztz w l x [(y,bs)] hx (by intro p hp;rw [List.mem_singleton.1 hp];exact ⟨hy,hn⟩) (by simp) hs;simpa using this
theorem zdd (x:Sl) (bs:List UInt8) [hx:FocR l x 1 (bs.flatMap zk)] (hcap:x.len<=x.cap) (hn:bs.length<=1000000000) (hs:Sat w l) :
  Ret P F.a40 #[x.v] w λvs w'=>∃ z:Sl,vs=[z.v,.int .i64 ((((z1c bs).getD ([],0)).2:Nat):Int),.bool (z1c bs).isSome]/\Sat w' (slc T.a63 1 z (((z1c bs).getD ([],0)).1.flatMap zk)::l) :=
 zyj x <| by
  delta z0ep AB AC AE AO Aa Ab Ac Ak Al Av BB BC Bc;have hl:=hs.slen x (xs:=bs) (enc:=zk)
  have hno:∀ {w':World},z1c bs=none->Sat w' l->∃ z:Sl,[.slice none 0 0,.int .i64 0,.bool false]=[z.v,.int .i64 ((((z1c bs).getD ([],0)).2:Nat):Int),.bool (z1c bs).isSome]/\Sat w' (slc T.a63 1 z (((z1c bs).getD ([],0)).1.flatMap zk)::l):=λ{w'} h hs=>by
   rw [h];exact ⟨⟨none,0,0⟩,rfl,hs.slc_nil⟩
  refine zi (λh=>?_) λh=>?_
  ·exact ⟨rfl,hno (by unfold z1c;rw [if_pos (.inl (by omega))]) hs⟩
  refine zb (zes x bs (by omega) hs) λ_ _ hs=>?_;obtain ⟨rfl,hs⟩:=hs;refine zd ?_;have hf:=(zhi bs (by omega)).2;refine wp_lt ?_
  have e1:IntKind.wrap .i64 ((z0m bs:Nat):Int)=((z0m bs:Nat):Int):=by rw [w64 (by omega) (by omega)]
  have e2:IntKind.wrap .i64 (((x.len:Nat):Int)-8)=((bs.length-8:Nat):Int):=by rw [w64 (by omega) (by omega)];omega
  have e3:IntKind.wrap .i64 (((z0m bs:Nat):Int)+4)=((z0m bs+4:Nat):Int):=by rw [w64 (by omega) (by omega)];omega
  rw [e1,e2,e3];refine zi (λh2=>?_) λh2=>?_
  ·exact ⟨rfl,hno (by unfold z1c;rw [if_pos (by omega)]) hs⟩
  refine wp_lt ?_;rw [Int.toNat_natCast]
  have hle:z0m bs+8<=bs.length:=by omega
  have hF1:FocR l ⟨z0k x.a 1 (z0m bs+4) x.cap,x.len-(z0m bs+4),x.cap-(z0m bs+4)⟩ 1 ((bs.drop (z0m bs+4)).flatMap zk):=FocR.post hcap;have hF2:FocR l ⟨x.a,z0m bs+4,x.cap⟩ 1 ((bs.take (z0m bs+4)).flatMap zk):=FocR.pre (by omega)
  have htl:(bs.take (z0m bs+4)).length<=1000000000:=by rw [List.length_take];omega
  have hdl:4<=(bs.drop (z0m bs+4)).length:=by rw [List.length_drop];omega
  refine zj (λu w'=>u=(decide (z0m (bs.drop (z0m bs+4))≠zbk (bs.take (z0m bs+4))),())/\Sat w' l) ?_ ?_
  ·have hbeq:∀ a b:Nat,(((a:Int) != (b:Int)):Bool)=decide (a≠b):=λa b=>by
    rw [Bool.eq_iff_iff];simp;omega
   refine zt hs λw' hs=>wp_must ⟨by omega,show ((z0m bs+4:Nat):Int)<=((x.len:Nat):Int) by omega⟩ (wp_must ⟨by omega,show ((z0m bs+4:Nat):Int)<=((x.cap:Nat):Int) by omega⟩ ?_);refine zkw ?_ ?_
   ·refine zb (zes ⟨z0k x.a 1 (z0m bs+4) x.cap,x.len-(z0m bs+4),x.cap-(z0m bs+4)⟩ (bs.drop (z0m bs+4)) hdl hs) λ_ _ hs=>?_;obtain ⟨rfl,hs⟩:=hs;refine zd (zbp hs (enc:=z0h) ⟨x.a,z0m bs+4,x.cap⟩ λy w' hs=>?_);refine zb (zk8 y ⟨x.a,z0m bs+4,x.cap⟩ (bs.take (z0m bs+4)) htl hs) λ_ _ hs=>?_;obtain ⟨rfl,hs⟩:=hs;refine zd (ze ?_);exact zg ⟨by rw [hbeq],hs.tail⟩
   ·refine zbp hs (enc:=z0h) ⟨x.a,z0m bs+4,x.cap⟩ λy w' hs=>zb (zes ⟨z0k x.a 1 (z0m bs+4) x.cap,x.len-(z0m bs+4),x.cap-(z0m bs+4)⟩ (bs.drop (z0m bs+4)) hdl hs) λ_ _ hs=>?_;obtain ⟨rfl,hs⟩:=hs;refine zd (zb (zk8 y ⟨x.a,z0m bs+4,x.cap⟩ (bs.take (z0m bs+4)) htl hs) λ_ _ hs=>?_);obtain ⟨rfl,hs⟩:=hs;refine zd (ze ?_);exact zg ⟨by rw [hbeq],hs.tail⟩
  clear hs;rintro _ w ⟨rfl,hs⟩;refine zh (zi (λh3=>?_) λh3=>?_)
  ·exact ⟨rfl,hno (by unfold z1c;rw [if_neg (by omega),if_neg h3]) hs⟩
  have h3:z0m (bs.drop (z0m bs+4))=zbk (bs.take (z0m bs+4)):=Decidable.not_not.1 h3
  have hsome:z1c bs=some ((bs.drop 4).take (z0m bs),z0m bs+8):=by unfold z1c;rw [if_neg (by omega),if_pos h3]
  rw [hsome];refine wp_must ⟨by omega,by omega,show ((z0m bs+4:Nat):Int)<=((x.cap:Nat):Int) by omega⟩ ?_;have hF3:FocR l ⟨z0k x.a 1 4 x.cap,x.len-4,x.cap-4⟩ 1 ((bs.drop 4).flatMap zk):=FocR.post hcap;have hF4:FocR l ⟨z0k x.a 1 4 x.cap,z0m bs+4-4,x.cap-4⟩ 1 (((bs.drop 4).take (z0m bs+4-4)).flatMap zk):=FocR.pre (x:=⟨z0k x.a 1 4 x.cap,x.len-4,x.cap-4⟩) (by rw [List.length_drop];omega);refine zb (zns ⟨z0k x.a 1 4 x.cap,z0m bs+4-4,x.cap-4⟩ ((bs.drop 4).take (z0m bs+4-4)) (by rw [List.length_take];omega) hs) λ_ _ hs=>?_;obtain ⟨z,rfl,hs⟩:=hs;refine zd (z27 (y:=((z0m bs+8:Nat):Int)) ?_ (by rw [w64 (by omega) (by omega)];omega));exact ⟨rfl,z,rfl,hs⟩
def zn7 (bs:List UInt8):Option (List UInt8):=match z1c bs with
 | some (body,n)=>if n=bs.length then some body else none
 | none=>none
end
section
variable {w:World} {l r:List HP} {p:Nat} {s:Lf}
theorem zv2 {R:RdM} (hb:R.at_<=R.bs.length) (he:R.e=0) (h:R.bs.length-R.at_=0):stR R=some []:=by
 rw [z8w he];unfold z5c;rw [List.drop_eq_nil_of_le (by omega)]
theorem zpt {R:RdM} (he:R.e=0) (h:R.at_<R.bs.length):stR R=some (R.bs[R.at_]::R.bs.drop (R.at_+1)):=by
 rw [z8w he];unfold z5c;rw [List.drop_eq_getElem_cons h]
theorem zhh {x:Sl} {bs:List UInt8} {n k:Nat} (hcap:x.len<=x.cap) (hk:n+k<=bs.length) [hf:FocR l x 1 (bs.flatMap zk)]:FocR l ⟨z0k x.a 1 n x.cap,k,x.cap-n⟩ 1 (((bs.drop n).take k).flatMap zk):=by
 have h:FocR l ⟨z0k x.a 1 n x.cap,x.len-n,x.cap-n⟩ 1 ((bs.drop n).flatMap zk):=FocR.post hcap;exact FocR.pre (x:=⟨z0k x.a 1 n x.cap,x.len-n,x.cap-n⟩) (by rw [List.length_drop];omega)
theorem zjz [hf:Fo l (rdS T.a65) p s r] (hs:Sat w l):Ret P F.a216 #[.pointer (some ⟨p,0,none⟩)] w λvs w'=>vs=[.int .i64 ((z14 s).1:Int)]/\Sat w' (rdS T.a65 p (z14 s).2::r) :=
 zt2 _ <| by
  delta z08y AA AO Aa Ab Ac Ad Ak Al Am An Ao Ar Av Bg;obtain ⟨R,rfl,hs⟩:=z87 (hs.perm hf.perm);have hb:=z73 hs;refine zb (zeu (p:=p) hs) λ_ _ hs=>?_;obtain ⟨rfl,hs⟩:=hs;refine zd (zi (λh=>?_) λh=>?_)
  ·have h:R.e≠0:=by simpa using h
   rw [z7t h];exact ⟨rfl,rfl,z2q (z7t h) hs⟩
  have h:R.e=0:=by simpa using h
  refine zf (zb (zfa (p:=p) hs) λ_ _ hs=>?_);obtain ⟨rfl,hs⟩:=hs;refine zd (zi (λh2=>?_) λh2=>?_)
  ·refine zf (zb (z8i (p:=p) 6 hs) λ_ _ hs=>?_);obtain ⟨rfl,hs⟩:=hs;refine zd ?_;rw [zv2 hb.1 h (by omega)];exact ⟨rfl,rfl,z2q (if_neg (by show ¬ (if R.e=0 then (6:Int) else R.e)=0;rw [if_pos h];decide)) hs⟩
  have hlt:R.at_<R.bs.length:=by omega
  rw [zpt h hlt];obtain ⟨x,-,hs⟩:=z2i hs;have hl:=hs.slen x (xs:=R.bs) (enc:=zk);have hcap:x.len<=x.cap:=(hs.pick [1]).slc_cap;refine zf (zb (zkj (p:=p) 1 (x:=x) (bs:=R.bs) (at_:=R.at_) (e:=R.e) (by omega) hb.2 hcap hs) λ_ w' hs=>?_);obtain ⟨rfl,hs⟩:=hs;refine zd (z9j (hf:=zhh hcap (by omega)) hs (xs:=(R.bs.drop R.at_).take 1) (enc:=zk) 0 (by rw [List.length_take,List.length_drop];omega) ?_ rfl rfl)
  have hg:((R.bs.drop R.at_).take 1)[0]'(by rw [List.length_take,List.length_drop];omega)=R.bs[R.at_]:=by simp
  rw [hg];have hc:=(R.bs[R.at_]).toNat_lt;refine z27 (y:=((R.bs[R.at_]).toNat:Int)) ?_ (by rw [w64 (by omega) (by omega)]);refine ⟨rfl,rfl,z2q (R:=⟨R.bs,R.at_+1,R.e⟩) ?_ (z1f ⟨R.bs,R.at_+1,R.e⟩ ⟨by show R.at_+1<=R.bs.length;omega,hb.2⟩ hs)⟩;rw [z8w (R:=⟨R.bs,R.at_+1,R.e⟩) h];rfl
end
section
variable {w:World} {l r:List HP} {p:Nat} {s:Lf}
theorem z0dr {P:Program} {t tx ty el:TypeId} {bytes:Nat} {xs:List UInt8} {t0:ByteArray} {x:Sl} {k:Sl->Prog} {Q:Post} {S:World->Prop} (hs:Sat w l) [ht:SlT P t el 1 bytes] [hst:StT P tx] [hf:FocS l x el 1 (xs.flatMap zk) r]
  (h:∀ z w',Sat w' (slc el 1 z ((xs++bl t0).flatMap zk)::r)->(k z).wp P S w' Q) (hb:(xs.length+t0.size)*bytes<=140737488355328/\xs.length+t0.size<=9223372036854775807) (hS:∀ w',S w':=by exact λ_=>trivial) :
  (Prog.act (app t tx ty (.slice x.a x.len x.cap) (.string t0)) sL (u1 k)).wp P S w Q:=by
 have h1:x.len=xs.length:=(hs.focS x).rd.len (enc:=zk) (λ_=>rfl) (by decide);obtain ⟨i,z,hi,h2,rfl,hz,hzs⟩:=ht.parts
 have hsrc:Src P i.size tx (.string t0) t0.size (byteCells t0) w:=by rw [h2];exact Src.ofString w hst.ok t0
 have hs':=hs.focS x;rw [<- h2] at hs';obtain ⟨z,w',hrun,hlen,hs',_⟩:=zno (ty:=ty) ht.ok.1 hi hz hzs hs' hsrc (by rw [h1];exact hb.1) (by rw [h1];exact hb.2);refine ⟨(z,()),w',hrun,hS _,h z w' ?_⟩;rw [h2] at hs';rw [List.flatMap_append,zby (bl t0)];exact hs'
theorem zvg (t:ByteArray) (ht:t.size<=1000000000) (hs:Sat w l):Ret P F.a225 #[.string t] w λvs w'=>∃ z:Sl,vs=[z.v]/\Sat w' (slc T.a63 1 z ((uI (t.size:Nat)++bl t).flatMap zk)::l) :=
 ztb t <| by
  delta z097 AO Ab Bc;refine zb (z5o ((t.size:Nat):Int) (by omega) hs) λ_ w' hs=>?_;obtain ⟨x,rfl,hs⟩:=hs;refine zd ?_;have hl:=hs.slen x;have hul:=z1y ((t.size:Nat):Int);refine z0dr (t0:=t) (xs:=uI (t.size:Nat)) hs (λz w' hs=>?_) (by omega);exact ⟨rfl,z,rfl,hs⟩
theorem zk6 [hf:Fo l (rdS T.a65) p s r] (hs:Sat w l):Ret P F.a219 #[.pointer (some ⟨p,0,none⟩)] w λvs w'=>vs=[.bool (z3m s).1]/\Sat w' (rdS T.a65 p (z3m s).2::r) :=
 zt5 _ <| by
  delta z091 AA AC AD AE AO AZ Aa Ab Ac Ad Ah Aj Ak Am An Ao Ar Bg
  obtain ⟨R,rfl,hs⟩:=z87 (hs.perm hf.perm)
  have hb:=z73 hs
  refine zb (zeu (p:=p) hs) λ_ _ hs=>?_
  obtain ⟨rfl,hs⟩:=hs
  refine zd ?_
  refine zi (λh=>?_) λh=>?_
  ·have h:R.e≠0:=by simpa using h
   rw [z7t h]
   exact ⟨rfl,rfl,z2q (z7t h) hs⟩
  have h:R.e=0:=by simpa using h
  refine zt hs λw' hs=>?_
  refine zf ?_
  refine zb (zfa (p:=p) hs) λ_ _ hs=>?_
  obtain ⟨rfl,hs⟩:=hs
  refine zd ?_
  obtain ⟨x,-,hs⟩:=z2i hs
  have hl:=hs.slen x (xs:=R.bs) (enc:=zk)
  have hcap:x.len<=x.cap:=(hs.pick [1]).slc_cap
  refine z04 ?_
  refine z8 hs ?_
  refine z04 ?_
  refine z8 hs ?_
  by_cases h2:R.bs.length-R.at_=0
  ·refine zkx hs (xs:=R.bs) (enc:=zk) (0:Int) (λhg=>absurd hg (by rw [h2];simp)) ?_
   refine ze ?_
   refine z18 ?_ (by rw [h2];exact .inl rfl)
   refine zf ?_
   have hs:=z1f R hb hs
   refine zb (z8i (p:=p) 6 hs) λ_ _ hs=>?_
   obtain ⟨rfl,hs⟩:=hs
   refine zd ?_
   rw [zv2 hb.1 h h2]
   exact ⟨rfl,rfl,z2q (if_neg (by show ¬ (if R.e=0 then (6:Int) else R.e)=0;rw [if_pos h];decide)) hs⟩
  ·have hlt:R.at_<R.bs.length:=by omega
   refine zkx hs (xs:=R.bs) (enc:=zk) (((R.bs[R.at_]).toNat:Nat):Int) (λ_=>⟨R.at_,hlt,rfl,rfl⟩) ?_
   refine ze ?_
   rw [zpt h hlt]
   have hc:=(R.bs[R.at_]).toNat_lt
   unfold z3m
   simp only
   refine zi (λh3=>?_) λh3=>?_
   ·rw [if_neg (by omega)]
    refine zf ?_
    have hs:=z1f R hb hs
    refine zb (z8i (p:=p) 6 hs) λ_ _ hs=>?_
    obtain ⟨rfl,hs⟩:=hs
    refine zd ?_
    exact ⟨rfl,rfl,z2q (if_neg (by show ¬ (if R.e=0 then (6:Int) else R.e)=0;rw [if_pos h];decide)) hs⟩
   ·rw [if_pos (by omega)]
    refine zf ?_
    refine zb (zkj (p:=p) 1 (x:=x) (bs:=R.bs) (at_:=R.at_) (e:=R.e) (by omega) hb.2 hcap hs) λ_ w' hs=>?_
    obtain ⟨rfl,hs⟩:=hs
    refine zd ?_
    refine z9j (hf:=zhh hcap (by omega)) hs (xs:=(R.bs.drop R.at_).take 1) (enc:=zk) 0 (by rw [List.length_take,List.length_drop];omega) ?_ rfl rfl
    have hg:((R.bs.drop R.at_).take 1)[0]'(by rw [List.length_take,List.length_drop];omega)=R.bs[R.at_]:=by simp
    rw [hg]
    refine wp_lt ?_
    have e:((((R.bs[R.at_]).toNat:Nat):Int) == 1)=decide ((R.bs[R.at_]).toNat=1):=by
     rw [Bool.eq_iff_iff];simp;omega
    rw [e]
    refine ⟨rfl,rfl,z2q (R:=⟨R.bs,R.at_+1,R.e⟩) ?_ (z1f ⟨R.bs,R.at_+1,R.e⟩ ⟨by show R.at_+1<=R.bs.length;omega,hb.2⟩ hs)⟩
    rw [z8w (R:=⟨R.bs,R.at_+1,R.e⟩) h]
    rfl
theorem zv9 (most:Nat) (hm:most<=1000000000) [hf:Fo l (rdS T.a65) p s r] (hs:Sat w l):Ret P F.a221 #[.pointer (some ⟨p,0,none⟩),.int .i64 (most:Nat)] w λvs w'=>vs=[.string (z1r most s).1]/\Sat w' (rdS T.a65 p (z1r most s).2::r) :=
 zt7 _ _ <| by
  delta z093 AA AO AP AR AS AY Aa Ab Ac Ad Aj Al Am An Ao Ar Av Az B3 Be Bs;obtain ⟨R,rfl,hs⟩:=z87 (hs.perm hf.perm);have hb:=z73 hs;refine zb (zeu (p:=p) hs) λ_ _ hs=>?_;obtain ⟨rfl,hs⟩:=hs;refine zd (zi (λh=>?_) λh=>?_)
  ·have h:R.e≠0:=by simpa using h
   rw [z7t h];exact ⟨rfl,rfl,z2q (z7t h) hs⟩
  have h:R.e=0:=by simpa using h
  refine zf ?_;obtain ⟨x,-,hs⟩:=z2i hs;refine z8 hs (wp_lt ?_);refine zf ?_;have hs:=z1f R hb hs;refine zb (zut (p:=p) h hs) λ_ _ hs=>?_;obtain ⟨rfl,hs⟩:=hs;refine zd (wp_lt ?_);refine zf ?_;have hst:=zg7 (R:=R);have hbs:=zva R;generalize hU:R.uint=U at *;obtain ⟨v,R'⟩:=U;have hs:Sat _ (rdP T.a65 p R'::r):=hs;have hbs:R'.bs=R.bs:=hbs;have hb':=z73 hs;obtain ⟨y,-,hs⟩:=z2i hs;have hl:=hs.slen y (xs:=R'.bs) (enc:=zk);have hcap:y.len<=y.cap:=(hs.pick [1]).slc_cap;refine z8 hs (wp_lt ?_)
  have hend':∀ {w':World} {e:Int} {y:Sl},e≠0->Sat w' (pt p (.cells #[.slice y.a y.len y.cap,.int .i64 R'.at_,.int .i64 e] T.a65)::slc T.a63 1 y (R'.bs.flatMap zk)::r) ->
    (z1r most (stR R)).2=none->(z1r most (stR R)).1=⟨#[]⟩ ->
    (Prog.ex [.adr] (c1 λa27=>some ((⟨p,0,none⟩:Addr))=some a27) (u1 λa28=>.actU (st T.a13 (Addr.add (Addr.add a28 0) 1) (.int .i64 (R.at_:Int))) <| .done 0 [.string (ByteArray.mk #[])])).wp P (λ_=>True) w' λe vs w'=>e=0/\vs=[.string (z1r most (stR R)).1]/\Sat w' (rdS T.a65 p (z1r most (stR R)).2::r):=by
   intro w' e y he hs h1 h2;refine zf (zy hs λw' hs=>?_);rw [h1,h2];refine ⟨rfl,rfl,z2q (R:=⟨R'.bs,R.at_,e⟩) (z7t he) (z1f ⟨R'.bs,R.at_,e⟩ ⟨by rw [hbs];exact hb.1,hb'.2⟩ hs)⟩
  refine z3j (zi (λhe=>?_) λhe=>?_)
  ·have he:R'.e≠0:=by simpa using he
   refine z5a ?_
   have h1:(z0n (stR R)).2=none:=by rw [<- hst.2];exact z7t he
   refine hend' he hs (by unfold z1r;rw [h1]) (by unfold z1r;rw [h1])
  ·have he:R'.e=0:=by simpa using he
   have h1:(z0n (stR R)).2=some (z5c R'):=by rw [<- hst.2];exact z8w he
   have hv:=z8l h1;have h0:(z0n (stR R)).1=v:=hst.1.symm;have hlen:(z5c R').length=R'.bs.length-R'.at_:=zpe
   have ew:IntKind.wrap .u64 (if 0>((most:Nat):Int) then 0 else ((most:Nat):Int))=((most:Nat):Int):=by
    rw [if_neg (by omega),zl0 (by omega) (by omega)]
   rw [ew];refine wp_lt (z3j ?_);refine zi (λh3=>?_) λh3=>?_
   ·refine zf ?_;have hs:=z1f R' hb' hs;refine zb (z8i (p:=p) 7 hs) λ_ _ hs=>?_;obtain ⟨rfl,hs⟩:=hs;refine zd (z5a ?_);refine z5a ?_;obtain ⟨y2,-,hs⟩:=z2i hs;refine hend' (e:=(R'.fail 7).e) ?_ hs ?_ ?_
    ·show (if R'.e=0 then (7:Int) else R'.e)≠0;rw [if_pos he];decide
    ·unfold z1r;rw [h1];simp only;rw [h0,if_neg (by omega)]
    ·unfold z1r;rw [h1];simp only;rw [h0,if_neg (by omega)]
   ·refine zf ?_;have hs:=z1f R' hb' hs;refine zb (zfa (p:=p) hs) λ_ _ hs=>?_;obtain ⟨rfl,hs⟩:=hs;refine zd ?_;have eu:IntKind.wrap .u64 ((R'.bs.length-R'.at_:Nat):Int)=((R'.bs.length-R'.at_:Nat):Int):=zl0 (by omega) (by omega);rw [eu];refine wp_lt (zi (λh4=>?_) λh4=>?_)
    ·refine zf (zb (z8i (p:=p) 6 hs) λ_ _ hs=>?_);obtain ⟨rfl,hs⟩:=hs;refine zd (z5a ?_);refine z5a ?_;obtain ⟨y2,-,hs⟩:=z2i hs;refine hend' (e:=(R'.fail 6).e) ?_ hs ?_ ?_
     ·show (if R'.e=0 then (6:Int) else R'.e)≠0;rw [if_pos he];decide
     ·unfold z1r;rw [h1];simp only;rw [h0,if_neg (by omega)]
     ·unfold z1r;rw [h1];simp only;rw [h0,if_neg (by omega)]
    ·refine zf ?_;rw [w64 (by omega) (by omega)];obtain ⟨y2,-,hs⟩:=z2i hs;have hcap2:y2.len<=y2.cap:=(hs.pick [1]).slc_cap;refine zb (zkj (p:=p) v (x:=y2) (bs:=R'.bs) (at_:=R'.at_) (e:=R'.e) (by omega) hb'.2 hcap2 hs) λ_ w' hs=>?_;obtain ⟨rfl,hs⟩:=hs;refine zd (zq5 (hf:=zhh hcap2 (by omega)) (bs:=(R'.bs.drop R'.at_).take v) hs ?_);refine wp_lt ?_
     have e1:z1r most (stR R)=(⟨((z5c R').take v).toArray⟩,some ((z5c R').drop v)):=by
      unfold z1r;rw [h1];simp only;rw [h0,if_pos ⟨by omega,by omega⟩]
     rw [e1];refine zm (zm ⟨rfl,rfl,z2q (R:=⟨R'.bs,R'.at_+v,R'.e⟩) ?_ (z1f ⟨R'.bs,R'.at_+v,R'.e⟩ ⟨by show R'.at_+v<=R'.bs.length;omega,hb'.2⟩ hs)⟩);rw [z8w (R:=⟨R'.bs,R'.at_+v,R'.e⟩) he];unfold z5c;rw [List.drop_drop]
end
section
variable {w:World} {l r:List HP} {p:Nat} {s:Lf}
theorem zbn (most:Int) (hm:0<=most/\most<9223372036854775807) [hf:Fo l (rdS T.a65) p s r] (hs:Sat w l):Ret P F.a104 #[.pointer (some ⟨p,0,none⟩),.int .i64 most] w λvs w'=>vs=[.int .i64 (zq most s).1]/\Sat w' (rdS T.a65 p (zq most s).2::r) :=
 zqu _ most <| by
  delta z06t AY Aa Ab Ac Ad Al Av Bs;unfold zq;refine zb (zg8 (p:=p) hs) λ_ _ hs=>?_;obtain ⟨rfl,hs⟩:=hs;refine zd (wp_lt ?_)
  have e:IntKind.wrap .u64 most=most:=by rw [z9l];omega
  rw [e];refine zi (λh=>?_) λh=>?_
  ·refine z27 (y:=most+1) ?_ (by rw [w64 (by omega) (by omega)]);rw [if_pos h];exact ⟨rfl,rfl,hs⟩
  ·refine z27 (y:=((z0n s).1:Int)) ?_ (by rw [w64 (by omega) (by omega)]);rw [if_neg h];exact ⟨rfl,rfl,hs⟩
theorem ztj (a b:ByteArray) (ha:a.size<=1000000000) (hs:Sat w l):Ret P F.a97 #[.string a,.string b] w λvs w'=>vs=[.int .i64 (z0q (bl a) (bl b):Nat)]/\Sat w' l :=
 zzw a b <| by
  delta z0g1 AC AE AW Aa Ab Ac Al Av Az;refine z27 (y:=((min a.size b.size:Nat):Int)) ?_ (by split <;> omega);refine zj (λ_ w'=>(bl a).take (min a.size b.size)=(bl b).take (min a.size b.size)/\Sat w' l) ?_ ?_;rotate_left
  ·rintro _ w' ⟨ht,hs⟩;refine zh (wp_lt ?_);refine ⟨rfl,?_,hs⟩;rw [zeh (i:=min a.size b.size) (by rw [z10];omega) (by rw [z10];omega) ht (by rw [z10,z10];omega)]
  refine z0a (λk v w=>∃ i:Nat,v=((i:Int),())/\i<=min a.size b.size/\min a.size b.size-i=k/\(bl a).take i=(bl b).take i/\Sat w l) (min a.size b.size) ⟨0,rfl,by omega,rfl,rfl,hs⟩ ?_;clear hs;rintro k _ w ⟨i,rfl,hi,hk,ht,hs⟩;refine zh (zi (λhc=>?_) λhc=>?_);rotate_left
  ·refine zm (zg ⟨?_,hs⟩)
   have:i=min a.size b.size:=by omega
   rwa [this] at ht
  have h1:i<(bl a).length:=by rw [z10];omega
  have h2:i<(bl b).length:=by rw [z10];omega
  refine wp_lt (zt hs λw' hs=>?_);refine wp_must (by omega) (wp_must (by omega) ?_);refine ze ?_
  have hb:∀ (c:ByteArray) (h:i<(bl c).length),bt c (i:Int)=(((bl c)[i]).toNat:Int):=λc h=>by
   unfold bt;rw [Int.toNat_natCast,List.getD_eq_getElem?_getD,List.getElem?_eq_getElem h];rfl
  rw [hb a h1,hb b h2];refine zi (λhd=>?_) λhd=>?_
  ·refine wp_lt (zm (zm ⟨rfl,?_,hs⟩))
   have hne:(bl a)[i]≠(bl b)[i]:=λe=>by rw [e] at hd;simp at hd
   rw [zeh (i:=i) (by omega) (by omega) ht (.inr (.inr (by rw [List.getElem?_eq_getElem h1,List.getElem?_eq_getElem h2];simpa using hne)))]
  ·have he:(bl a)[i]=(bl b)[i]:=by
    apply UInt8.toNat_inj.1
    have:(((bl a)[i]).toNat:Int)=(((bl b)[i]).toNat:Int):=by simpa using hd
    omega
   refine z22 (us':=[.int .i64 ((i+1:Nat):Int)]) (by (try simp (disch:=omega) only [w64]);first|rfl|(congr;omega)) (z0x (min a.size b.size-(i+1)) ?_);exact ⟨i+1,rfl,by omega,rfl,by rw [List.take_succ_eq_append_getElem h1,List.take_succ_eq_append_getElem h2,ht,he],hs⟩
end
theorem zxb {lo hi:Int} (h:lo<=0/\0<=hi) (s:Lf):lo<=(z1s lo hi s).1/\(z1s lo hi s).1<=hi:=by
 unfold z1s;split
 ·exact h
 ·split
  ·exact h
  ·simp only;omega
theorem zi5 {most:Int} (h:0<=most) (s:Lf):0<=(zq most s).1/\(zq most s).1<=most+1:=by
 unfold zq;simp only;split <;> omega
theorem z05o (most:Nat) (s:Lf):(z1r most s).1.size<=most:=by
 unfold z1r;split
 ·show 0<=most;omega
 ·split
  ·rename_i h
   show (List.take _ _).length<=most;rw [List.length_take];omega
  ·show 0<=most;omega
section
variable {w:World} {l r:List HP} {p:Nat} {s:Lf}
theorem z0aw (time:Int) (ht:0<=time/\time<=1099511627776) (ahead:ByteArray) (ha:ahead.size<=100000) [hf:Fo l (rdS T.a65) p s r] (hs:Sat w l) :
  Ret P F.a102 #[.pointer (some ⟨p,0,none⟩),.int .i64 time,.string ahead] w λvs w'=>∃ x:RecM,vs=[.agg (z0f x).toArray,.bool (z3v time ahead s).1.isSome]/\(∀ y,(z3v time ahead s).1=some y->x=y)/\x.key.size<=2100/\Sat w' (rdS T.a65 p (z3v time ahead s).2::r) :=
 zqs _ _ _ <| by
  delta z06r AA AB AC AE AH AK AQ AS Aa Ab Ac Ad Aj Al Am Av Az B0 BF Be Bp Bz
  refine zu hs λa0 w' hs=>?_
  have hbd:=zxb (lo := -1099511627776) (hi:=1099511627776) (by decide) s
  refine zb (z02i (p:=p) (-1099511627776) 1099511627776 hs) λ_ _ hs=>?_
  obtain ⟨rfl,hs⟩:=hs
  refine zd ?_
  refine wp_lt ?_
  refine zb (zk6 (p:=p) hs) λ_ _ hs=>?_
  obtain ⟨rfl,hs⟩:=hs
  refine zd ?_
  refine zu hs λa4 w' hs=>?_
  rw [w64 (by omega) (by omega)]
  refine zv hs λw' hs=>?_
  refine zb (zbn (p:=p) 1024 (by omega) hs) λ_ _ hs=>?_
  obtain ⟨rfl,hs⟩:=hs
  refine zd ?_
  refine wp_lt ?_
  refine zb (zv9 (p:=p) 1024 (by omega) hs) λ_ _ hs=>?_
  obtain ⟨rfl,hs⟩:=hs
  refine zd ?_
  refine wp_lt ?_
  have hR:z3v time ahead s=if (zq 1024 (z3m (z1s (-1099511627776) 1099511627776 s).2).2).1>ahead.size then (none,(z1r 1024 (zq 1024 (z3m (z1s (-1099511627776) 1099511627776 s).2).2).2).2) else
   let a:=z1s (-1099511627776) 1099511627776 s
   let b:=z3m a.2
   let c:=zq 1024 b.2
   let d:=z1r 1024 c.2
   let e:=if b.1 then (⟨#[]⟩,d.2) else z1r 1024 d.2
   if e.2.isSome=true/\(z0q (bl ahead) (bl (z5j ahead c.1 d.1)):Int)=c.1 then (some ⟨z5j ahead c.1 d.1,e.1,b.1,time+a.1⟩,e.2) else (none,e.2):=rfl
  simp only at hR
  have hcb:=zi5 (most:=1024) (by decide) (z3m (z1s (-1099511627776) 1099511627776 s).2).2
  have hdb:=z05o 1024 (zq 1024 (z3m (z1s (-1099511627776) 1099511627776 s).2).2).2
  generalize z3v time ahead s=RR at *
  generalize z1s (-1099511627776) 1099511627776 s=a at *
  generalize z3m a.2=b at *
  generalize zq 1024 b.2=c at *
  generalize z1r 1024 c.2=d at *
  refine zi (λh=>?_) λh=>?_
  ·rw [if_pos h] at hR
   subst hR
   refine zl hs ?_
   refine zv hs λw' hs=>?_
   refine zl hs ?_
   exact ⟨rfl,⟨⟨#[]⟩,⟨#[]⟩,b.1,time+a.1⟩,rfl,(λy hy=>by cases hy),by show 0<=2100;omega,hs.sub⟩
  rw [if_neg h] at hR
  refine wp_must (by omega) ?_
  have hks:(ByteArray.extract ahead 0 (Int.toNat c.1)).size<=1025:=by
   rw [ByteArray.size_extract];omega
  refine wp_must (by omega) ?_
  refine zy hs λw' hs=>?_
  have ek:ByteArray.extract ahead 0 (Int.toNat c.1)++d.1=z5j ahead c.1 d.1:=rfl
  rw [ek] at hs
  refine z8 hs ?_
  have hkey:(z5j ahead c.1 d.1).size<=2100:=by
   unfold z5j
   rw [ByteArray.size_append]
   omega
  refine zj (λ_ w'=>Sat w' (pt a4 (.cells #[.string (z5j ahead c.1 d.1),.string (if b.1=true then ((⟨#[]⟩:ByteArray),d.2) else z1r 1024 d.2).1,.bool b.1,.int .i64 (time+a.1)] T.a2)::rdS T.a65 p (if b.1=true then ((⟨#[]⟩:ByteArray),d.2) else z1r 1024 d.2).2::pt a0 (.cells #[.string ⟨#[]⟩,.string ⟨#[]⟩,.bool false,.int .i64 0] T.a2)::r)) ?_ ?_
  ·refine zi (λh2=>?_) λh2=>?_
   ·have h2:b.1=false:=by simpa using h2
    refine zb (zv9 (p:=p) 1024 (by omega) hs) λ_ _ hs=>?_
    obtain ⟨rfl,hs⟩:=hs
    refine zd ?_
    refine zy hs λw' hs=>?_
    refine zg ?_
    rw [if_neg (by rw [h2];simp)]
    exact hs.sub
   ·have h2:b.1=true:=by simpa using h2
    refine zg ?_
    rw [if_pos h2]
    dsimp only
    exact hs.sub
  rintro _ w1 hs
  generalize (if b.1=true then ((⟨#[]⟩:ByteArray),d.2) else z1r 1024 d.2)=e at *
  refine zj (λq w'=>q=(RR.1.isSome,())/\Sat w' (pt a0 (.cells #[.string (z5j ahead c.1 d.1),.string e.1,.bool b.1,.int .i64 (time+a.1)] T.a2)::rdS T.a65 p e.2::r)) ?_ ?_
  ·refine zt hs λw' hs=>?_
   refine zjq hs ?_
   refine zb (zo4 (p:=p) hs) λ_ _ hs=>?_
   obtain ⟨er,rfl,her,hs⟩:=hs
   refine zd ?_ (by first|trivial|(repeat (first|exact trivial|exact λ_=>z09 hs|exact λ_=>z0g hs|refine And.intro ?_ ?_)))
   refine z8 hs ?_
   refine zi (λh2=>?_) λh2=>?_
   ·have h2:e.2.isSome=true:=her.1 (by simpa using h2)
    refine zb (ztj ahead (z5j ahead c.1 d.1) (by omega) hs) λ_ _ hs=>?_
    obtain ⟨rfl,hs⟩:=hs
    refine zd ?_ (by first|trivial|(repeat (first|exact trivial|exact λ_=>z09 hs|exact λ_=>z0g hs|refine And.intro ?_ ?_)))
    refine ze ?_
    refine zv hs λw' hs=>?_
    refine wp_lt ?_
    refine ze ?_
    refine zg ⟨?_,hs.sub⟩
    have e3:(((z0q (bl ahead) (bl (z5j ahead c.1 d.1)):Nat):Int) == c.1)=RR.1.isSome:=by
     rw [hR]
     by_cases h3:((z0q (bl ahead) (bl (z5j ahead c.1 d.1)):Nat):Int)=c.1
     ·rw [if_pos ⟨h2,h3⟩];simpa using h3
     ·rw [if_neg λh=>h3 h.2];simpa using h3
    rw [e3]
   ·have h2:¬ e.2.isSome=true:=λh=>h2 (by simpa using her.2 h)
    refine ze ?_
    refine zv hs λw' hs=>?_
    refine ze ?_
    refine zg ⟨?_,hs.sub⟩
    rw [hR,if_neg λh=>h2 h.1]
    rfl
  rintro _ w1 ⟨rfl,hs⟩
  refine zl hs ?_
  refine ⟨rfl,⟨z5j ahead c.1 d.1,e.1,b.1,time+a.1⟩,rfl,λy hy=>?_,hkey,?_⟩
  ·rw [hR] at hy
   split at hy
   ·simpa using hy
   ·cases hy
  ·have e4:RR.2=e.2:=by rw [hR];split <;> rfl
   rw [e4]
   exact hs.sub
end
def zxl:BatM:=⟨0,0,0,0,0,0,z9b,[]⟩
abbrev zeroC:Array Value:=#[.int .i64 0,.int .i64 0,.int .i64 0,.int .i64 0,.int .i64 0,.int .i64 0,.slice none 0 0]
theorem z02k {P:Program} {p:Prog} {S:World->Prop} {w:World} {Q0 Q:Post} (h:p.wp P S w Q0) (h0:∀ e vs w,Q0 e vs w->e=0) (hQ:∀ vs w,Q0 0 vs w->Q 0 vs w):p.wp P S w Q :=
 Prog.wp_mono p (λe vs w h=>by have:=h0 e vs w h;subst this;exact hQ vs w h) h
theorem zwx (time:Int) (n:Nat) (ahead:ByteArray) (s:Lf):z58 time (n+1) ahead s=match (z3v time ahead s).1 with
  | none=>none
  | some x=>(z58 time n x.key (z3v time ahead s).2).map λq=>(x::q.1,q.2):=rfl
def BatM.at (b:BatM) (z:Sl):BatM:={ b with x:=z }
section
variable {w:World} {l r:List HP} {p:Nat} {s:Lf}
theorem zo1 (x:Sl) (raw:List UInt8) [hx:FocR l x 1 (raw.flatMap zk)] (hn:raw.length<=1000000000) (hs:Sat w l) :
  Ret P F.a90 #[x.v] w λvs w'=>(∃ b z,z6r raw=some b/\vs=[.agg (z01 (b.at z)).toArray,.int .i64 0]/\Sat w' (slc T.a2 4 z (b.rs.flatMap z0f)::l)) \/
   (z6r raw=none/\vs=[.agg (z01 zxl).toArray,.int .i64 6]/\Sat w' l) :=
 zzp _ <| by
  delta z0fu AA AB AD AH AK AN AR AS Aa Ab Ac Ad Aj Al Am Av Az B0 B2 B8 Bc Bd Be Bw Bx Bz
  refine zu hs λa0 w' hs=>?_
  refine zu hs λa1 w' hs=>?_
  refine zv hs λw' hs=>?_
  refine zb (zou x raw hn hs) λ_ w' hs=>?_
  obtain ⟨p,rfl,hs⟩:=hs
  refine zd ?_
  refine zb (zjz (p:=p) hs) λ_ _ hs=>?_
  obtain ⟨rfl,hs⟩:=hs
  refine zd ?_
  have hfail:∀ {w':World},Sat w' (pt a1 (.cells zeroC T.a0)::pt a0 (.cells zeroC T.a0)::l)->z6r raw=none ->
    (Prog.read True (ld T.a0 ⟨a1,0,none⟩) (sG [.int .i64,.int .i64,.int .i64,.int .i64,.int .i64,.int .i64,.slc]) (u7 λn4 n5 n6 n7 n8 n9 l10 =>
     .actU (st T.a0 ⟨a0,0,none⟩ (.agg #[.int .i64 n4,.int .i64 n5,.int .i64 n6,.int .i64 n7,.int .i64 n8,.int .i64 n9,l10.v])) <|
     .read True (ld T.a0 ⟨a0,0,none⟩) (sG [.int .i64,.int .i64,.int .i64,.int .i64,.int .i64,.int .i64,.slc]) (u7 λn11 n12 n13 n14 n15 n16 l17 =>
     .done 0 [.agg #[.int .i64 n11,.int .i64 n12,.int .i64 n13,.int .i64 n14,.int .i64 n15,.int .i64 n16,l17.v],.int .i64 6]))).wp P (λ_=>True) w' λe vs w=>e=0/\((∃ b z,z6r raw=some b/\vs=[.agg (z01 (b.at z)).toArray,.int .i64 0]/\Sat w (slc T.a2 4 z (b.rs.flatMap z0f)::l)) \/
      (z6r raw=none/\vs=[.agg (z01 zxl).toArray,.int .i64 6]/\Sat w l)):=by
   intro w' hs hd
   have hs:Sat w' (pt a1 (.cells [.int .i64 0,.int .i64 0,.int .i64 0,.int .i64 0,.int .i64 0,.int .i64 0,.slice none 0 0].toArray T.a0)::pt a0 (.cells [.int .i64 0,.int .i64 0,.int .i64 0,.int .i64 0,.int .i64 0,.int .i64 0,.slice none 0 0].toArray T.a0)::l):=hs
   refine zl hs ?_
   refine zv hs λw' hs=>?_
   refine zl hs ?_
   exact ⟨rfl,.inr ⟨hd,rfl,hs.sub⟩⟩
  replace hs:Sat _ (rdS T.a65 p (z14 (some raw)).2::pt a1 (.cells zeroC T.a0)::pt a0 (.cells zeroC T.a0)::l):=hs.sub
  refine zi (λh=>?_) λh=>?_
  ·refine hfail hs.sub ?_
   unfold z6r
   rw [if_pos (by omega)]
  have hdec:z6r raw=znt (hdS (z14 (some raw)).2):=by
   unfold z6r
   rw [if_neg (by omega)]
  generalize z6r raw=DD at *
  generalize (z14 (some raw)).2=s at *
  have hH:hdS s=⟨z14 s,zq 1099511627776 (z14 s).2,zq 1048576 (zq 1099511627776 (z14 s).2).2,
   if (zq 1048576 (zq 1099511627776 (z14 s).2).2).1>0 then zq 32767 (zq 1048576 (zq 1099511627776 (z14 s).2).2).2 else (0,(zq 1048576 (zq 1099511627776 (z14 s).2).2).2),
   if (zq 1048576 (zq 1099511627776 (z14 s).2).2).1>0/\z3p (z14 s).1=false then zq 2147483647 (if (zq 1048576 (zq 1099511627776 (z14 s).2).2).1>0 then zq 32767 (zq 1048576 (zq 1099511627776 (z14 s).2).2).2 else (0,(zq 1048576 (zq 1099511627776 (z14 s).2).2).2)).2 else (0,(if (zq 1048576 (zq 1099511627776 (z14 s).2).2).1>0 then zq 32767 (zq 1048576 (zq 1099511627776 (z14 s).2).2).2 else (0,(zq 1048576 (zq 1099511627776 (z14 s).2).2).2)).2),
   zq 1099511627776 (if (zq 1048576 (zq 1099511627776 (z14 s).2).2).1>0/\z3p (z14 s).1=false then zq 2147483647 (if (zq 1048576 (zq 1099511627776 (z14 s).2).2).1>0 then zq 32767 (zq 1048576 (zq 1099511627776 (z14 s).2).2).2 else (0,(zq 1048576 (zq 1099511627776 (z14 s).2).2).2)).2 else (0,(if (zq 1048576 (zq 1099511627776 (z14 s).2).2).1>0 then zq 32767 (zq 1048576 (zq 1099511627776 (z14 s).2).2).2 else (0,(zq 1048576 (zq 1099511627776 (z14 s).2).2).2)).2)).2⟩:=rfl
  refine zb (zjz (p:=p) hs) λ_ _ hs=>?_
  obtain ⟨rfl,hs⟩:=hs
  refine zd ?_
  generalize z14 s=k at *
  refine zb (zbn (p:=p) 1099511627776 (by omega) hs) λ_ _ hs=>?_
  obtain ⟨rfl,hs⟩:=hs
  refine zd ?_
  generalize zq 1099511627776 k.2=ba at *
  refine zb (zbn (p:=p) 1048576 (by omega) hs) λ_ _ hs=>?_
  obtain ⟨rfl,hs⟩:=hs
  refine zd ?_
  generalize zq 1048576 ba.2=pi at *
  refine zu hs λa2 w' hs=>?_
  refine zv hs λw' hs=>?_
  refine z8 hs ?_
  generalize hep:(if pi.1>0 then zq 32767 pi.2 else (0,pi.2))=ep at *
  generalize hsq:(if pi.1>0/\z3p k.1=false then zq 2147483647 ep.2 else (0,ep.2))=sq at *
  refine zj (λ_ w'=>Sat w' (pt a2 (.cells [.int .i64 ba.1,.int .i64 pi.1,.int .i64 ep.1,.int .i64 sq.1,.int .i64 k.1,.int .i64 0,.slice none 0 0].toArray T.a0)::rdS T.a65 p sq.2::pt a1 (.cells zeroC T.a0)::pt a0 (.cells zeroC T.a0)::l)) ?_ ?_
  ·refine zi (λh=>?_) λh=>?_
   ·rw [if_pos h] at hep
    refine zb (zbn (p:=p) 32767 (by omega) hs) λ_ _ hs=>?_
    obtain ⟨rfl,hs⟩:=hs
    refine zd ?_
    rw [hep] at hs ⊢
    refine zy hs λw' hs=>?_
    refine zl hs ?_
    refine zb (z7k ⟨ba.1,pi.1,ep.1,0,k.1,0,z9b,[]⟩ hs) λ_ w' hs=>?_
    obtain ⟨rfl,hs⟩:=hs
    refine zd ?_
    have em:z0i ⟨ba.1,pi.1,ep.1,0,k.1,0,z9b,[]⟩=z3p k.1:=rfl
    rw [em]
    refine z3j ?_
    refine zi (λh2=>?_) λh2=>?_
    ·have h2:z3p k.1=false:=by simpa using h2
     rw [if_pos ⟨h,h2⟩] at hsq
     refine zb (zbn (p:=p) 2147483647 (by omega) hs) λ_ _ hs=>?_
     obtain ⟨rfl,hs⟩:=hs
     refine zd ?_
     rw [hsq] at hs ⊢
     refine zy hs λw' hs=>?_
     refine z5a ?_
     refine zg ?_
     exact hs.sub
    ·have h2:z3p k.1≠false:=by simpa using h2
     rw [if_neg λh=>h2 h.2] at hsq
     refine z5a ?_
     refine zg ?_
     rw [<- hsq]
     exact hs.sub
   ·rw [if_neg h] at hep
    rw [if_neg λh2=>h h2.1] at hsq
    refine zg ?_
    rw [<- hsq,<- hep]
    exact hs.sub
  rintro _ w1 hs
  refine zb (zbn (p:=p) 1099511627776 (by omega) hs) λ_ _ hs=>?_
  obtain ⟨rfl,hs⟩:=hs
  refine zd ?_
  have htb:=zi5 (most:=1099511627776) (by decide) sq.2
  generalize zq 1099511627776 sq.2=tm at *
  refine zy hs λw' hs=>?_
  refine zb (zo4 (p:=p) hs) λ_ _ hs=>?_
  obtain ⟨er,rfl,her,hs⟩:=hs
  refine zd ?_
  refine z8 hs ?_
  rw [hH] at hdec
  generalize hHH:(⟨k,ba,pi,ep,sq,tm⟩:HdS)=H at *
  have e1:H.tm=tm:=by rw [<- hHH]
  have e2:H.k=k:=by rw [<- hHH]
  unfold znt at hdec
  rw [e1,e2] at hdec
  refine zi (λh=>?_) λh=>?_
  ·refine hfail hs.sub ?_
   rw [hdec,if_pos]
   rcases h with h|h
   ·left
    cases hi:tm.2.isSome with
    | false=>rfl
    | true=>exact absurd (her.2 hi) h
   ·right;omega
  have htm:tm.1<=1099511627776:=by
   apply Decidable.byContradiction
   intro hh
   exact h (.inr (by omega))
  have her0:tm.2.isSome=true:=her.1 (Decidable.byContradiction λhh=>h (.inl hh))
  rw [if_neg (by rw [her0];rintro (h|h);cases h;omega)] at hdec
  refine zl hs ?_
  refine zb (z7k ⟨ba.1,pi.1,ep.1,sq.1,k.1,tm.1,z9b,[]⟩ hs) λ_ w' hs=>?_
  obtain ⟨rfl,hs⟩:=hs
  refine zd ?_
  have em:z0i ⟨ba.1,pi.1,ep.1,sq.1,k.1,tm.1,z9b,[]⟩=z3p k.1:=rfl
  rw [em]
  refine zj (λ_ w'=>∃ (rs:List RecM) (z:Sl) (s1:Lf),DD=(if s1=some []/\z02 (H.b rs)=0 then some (H.b rs) else none)/\Sat w' (slc T.a2 4 z (rs.flatMap z0f)::pt a2 (.cells [.int .i64 ba.1,.int .i64 pi.1,.int .i64 ep.1,.int .i64 sq.1,.int .i64 k.1,.int .i64 tm.1,.slice z.a z.len z.cap].toArray T.a0)::rdS T.a65 p s1::pt a1 (.cells zeroC T.a0)::pt a0 (.cells zeroC T.a0)::l)) ?_ ?_
  ·refine zi (λh2=>?_) λh2=>?_
   rotate_left
   ·have h2:z3p k.1=true:=by simpa using h2
    rw [if_pos h2] at hdec
    refine zg ⟨[],⟨none,0,0⟩,tm.2,hdec,?_⟩
    have hs:Sat _ (slc T.a2 4 ⟨none,0,0⟩ (([]:List RecM).flatMap z0f)::_):=hs.slc_nil
    exact hs.sub
   have h2:z3p k.1=false:=by simpa using h2
   rw [if_neg (by rw [h2];simp)] at hdec
   refine zb (zbn (p:=p) 64 (by omega) hs) λ_ _ hs=>?_
   obtain ⟨rfl,hs⟩:=hs
   refine zd ?_
   have hnb:=zi5 (most:=64) (by decide) tm.2
   generalize zq 64 tm.2=n at *
   refine wp_lt ?_
   refine zi (λh3=>?_) λh3=>?_
   ·rw [if_pos h3] at hdec
    have hf:=hfail hs.sub hdec
    exact z02k hf (λ_ _ _ h=>h.1) λvs w h=>z9m (by decide) h
   rw [if_neg h3] at hdec
   refine zj (λ_ w'=>∃ (rs:List RecM) (z:Sl) (s1:Lf),z58 tm.1 n.1.toNat ⟨#[]⟩ n.2=some (rs,s1)/\Sat w' (slc T.a2 4 z (rs.flatMap z0f)::pt a2 (.cells [.int .i64 ba.1,.int .i64 pi.1,.int .i64 ep.1,.int .i64 sq.1,.int .i64 k.1,.int .i64 tm.1,.slice z.a z.len z.cap].toArray T.a0)::rdS T.a65 p s1::pt a1 (.cells zeroC T.a0)::pt a0 (.cells zeroC T.a0)::l)) ?_ ?_
   rotate_left
   ·rintro _ w1 ⟨rs,z,s1,hrs,hs⟩
    rw [hrs] at hdec
    exact zg ⟨rs,z,s1,hdec,hs⟩
   refine z0a (λm v w=>∃ (i:Nat) (done:List RecM) (ahead:ByteArray) (z:Sl) (s1:Lf),v=(ahead,((i:Int),()))/\i<=n.1.toNat/\n.1.toNat-i=m/\done.length=i/\ahead.size<=2100 /\
    z58 tm.1 n.1.toNat ⟨#[]⟩ n.2=(z58 tm.1 (n.1.toNat-i) ahead s1).map (λq=>(done++q.1,q.2))/\Sat w (slc T.a2 4 z (done.flatMap z0f)::pt a2 (.cells [.int .i64 ba.1,.int .i64 pi.1,.int .i64 ep.1,.int .i64 sq.1,.int .i64 k.1,.int .i64 tm.1,.slice z.a z.len z.cap].toArray T.a0)::rdS T.a65 p s1::pt a1 (.cells zeroC T.a0)::pt a0 (.cells zeroC T.a0)::l)) n.1.toNat
    ⟨0,[],⟨#[]⟩,⟨none,0,0⟩,n.2,rfl,by omega,rfl,rfl,(by show 0<=2100;omega),?_,(show Sat _ (slc T.a2 4 ⟨none,0,0⟩ (([]:List RecM).flatMap z0f)::_) from hs.slc_nil).sub⟩ ?_
   ·cases z58 tm.1 n.1.toNat ⟨#[]⟩ n.2 <;> simp
   clear hs
   rintro m _ w ⟨i,done,ahead,z,s1,rfl,hi,hm,hdl,hah,hrec,hs⟩
   refine zi (λhc=>?_) λhc=>?_
   rotate_left
   ·refine zm (zg ⟨done,z,s1,?_,hs⟩)
    have hc:¬ ((i:Int)<n.1):=hc
    rw [hrec,show n.1.toNat-i=0 by omega]
    simp [z58]
   have hc:(i:Int)<n.1:=hc
   refine z8 hs ?_
   refine zb (z0aw (p:=p) tm.1 ⟨htb.1,htm⟩ ahead (by omega) hs) λ_ w' hs=>?_
   obtain ⟨y,rfl,hy,hyk,hs⟩:=hs
   refine ⟨(y.key,y.value,y.gone,y.time,(z3v tm.1 ahead s1).1.isSome,()),rfl,trivial,z81 _ _ _ _ _ ?_⟩
   refine zu hs λa3 w' hs=>?_
   refine zv hs λw' hs=>?_
   refine wp_lt ?_
   have hsucc:n.1.toNat-i=(n.1.toNat-(i+1))+1:=by omega
   rw [hsucc] at hrec
   rw [zwx] at hrec
   refine zi (λh4=>?_) λh4=>?_
   ·have h4:(z3v tm.1 ahead s1).1=none:=by simpa using h4
    rw [h4] at hrec
    have hrec:z58 tm.1 n.1.toNat ⟨#[]⟩ n.2=none:=hrec
    rw [hrec] at hdec
    have hf:=hfail hs.sub hdec
    exact z02k hf (λ_ _ _ h=>h.1) λvs w h=>z9m (by decide) (z9m (by decide) (z9m (by decide) h))
   have h4:(z3v tm.1 ahead s1).1.isSome=true:=by
    cases hq:(z3v tm.1 ahead s1).1 with
    | none=>rw [hq] at h4;exact absurd (by simp) h4
    | some q=>rfl
   obtain ⟨y',hy'⟩:=Option.isSome_iff_exists.1 h4
   obtain rfl:=hy y' hy'
   rw [hy'] at hrec
   refine z8 hs ?_
   refine zl hs ?_
   refine z66 (xs:=done) (enc:=z0f) (y:=y) hs (λz' w' hs=>?_) rfl (by omega)
   refine zy hs λw' hs=>?_
   refine z8 hs ?_
   refine wp_lt ?_
   have e5:IntKind.wrap .i64 ((i:Int)+1)=((i+1:Nat):Int):=by rw [w64 (by omega) (by omega)];omega
   rw [e5]
   refine z0x (n.1.toNat-(i+1)) ?_
   refine ⟨i+1,done++[y],y.key,z',(z3v tm.1 ahead s1).2,rfl,by omega,rfl,by simp [hdl],hyk,?_,hs.sub⟩
   rw [hrec,Option.map_map]
   congr 1
   funext q
   simp
  rintro _ w1 ⟨rs,z,s1,hDD,hs⟩
  have hb:H.b rs=⟨ba.1,pi.1,ep.1,sq.1,k.1,tm.1,z9b,rs⟩:=by rw [<- hHH];rfl
  have hv0:z02 (H.b rs)=z02 ⟨ba.1,pi.1,ep.1,sq.1,k.1,tm.1,z,rs⟩:=by rw [hb];rfl
  refine zj (λq w'=>q=(DD.isNone,())/\Sat w' (slc T.a2 4 z (rs.flatMap z0f)::pt a2 (.cells [.int .i64 ba.1,.int .i64 pi.1,.int .i64 ep.1,.int .i64 sq.1,.int .i64 k.1,.int .i64 tm.1,.slice z.a z.len z.cap].toArray T.a0)::pt a1 (.cells zeroC T.a0)::pt a0 (.cells zeroC T.a0)::l)) ?_ ?_
  ·refine zb (zo2 (p:=p) hs) λ_ w' hs=>?_
   obtain ⟨e,rfl,he,hs⟩:=hs
   refine zd ?_
   refine zl hs ?_
   refine zi (λh5=>?_) λh5=>?_
   ·refine zg ⟨?_,hs.sub⟩
    rw [hDD,if_neg λhh=>h5 (he.2 hh.1)]
    rfl
   ·have h5:s1=some []:=he.1 (Decidable.not_not.1 h5)
    refine zb (zar ⟨ba.1,pi.1,ep.1,sq.1,k.1,tm.1,z,rs⟩ hs) λ_ w' hs=>?_
    obtain ⟨rfl,hs⟩:=hs
    refine zd ?_
    refine zg ⟨?_,hs.sub⟩
    rw [hDD,<- hv0]
    by_cases h6:z02 (H.b rs)=0
    ·rw [if_pos ⟨h5,h6⟩,h6];rfl
    ·rw [if_neg λhh=>h6 hh.2]
     simpa using h6
  rintro _ w1 ⟨rfl,hs⟩
  refine zi (λh6=>?_) λh6=>?_
  ·exact hfail hs.sub (by simpa using h6)
  ·rw [hDD] at h6
   split at h6
   rotate_left
   ·exact absurd rfl h6
   rename_i h7
   rw [if_pos h7] at hDD
   refine zl hs ?_
   have hs:Sat w1 (slc T.a2 4 z (rs.flatMap z0f)::pt a2 (.cells [.int .i64 ba.1,.int .i64 pi.1,.int .i64 ep.1,.int .i64 sq.1,.int .i64 k.1,.int .i64 tm.1,.slice z.a z.len z.cap].toArray T.a0)::pt a1 (.cells zeroC T.a0)::pt a0 (.cells [.int .i64 0,.int .i64 0,.int .i64 0,.int .i64 0,.int .i64 0,.int .i64 0,.slice none 0 0].toArray T.a0)::l):=hs
   refine zv hs λw' hs=>?_
   refine zl hs ?_
   refine ⟨rfl,.inl ⟨H.b rs,z,hDD,?_,?_⟩⟩
   ·rw [hb];rfl
   ·rw [hb];exact hs.sub
end
section
variable {w:World} {l r:List HP} {Q:Post} {S:World->Prop}
theorem z7o {P:Program} {t:TypeId} {sz:Nat} {α:Type} {enc:α->List Value} {n:Nat} {ps:Array (Nat × Value)} {el:TypeId} {bytes:Nat} {k:Sl->Prog} (hs:Sat w l) [ht:SlT P t el sz bytes] [hE:EncN enc sz] (xs:List α)
  (h:∀ x w',Sat w' (slc el sz x (xs.flatMap enc)::l)->S w'/\(k x).wp P S w' Q) (hc:z4e P t n ps=some (el,(xs.flatMap enc).toArray):=by kernel_rfl) (hn:xs.length=n:=by rfl) :
  (Prog.act (Instr.buildSlice t n ps) sL (u1 k)).wp P S w Q:=by
 have hp:=hs.push (o:=.cells (xs.flatMap enc).toArray el) (w':={ w with heap:=w.heap.push (.cells (xs.flatMap enc).toArray el) }) rfl
 have hsz:(xs.flatMap enc).toArray.size=n*sz:=by rw [List.size_toArray,z3z,hn]
 have h1:Sat { w with heap:=w.heap.push (.cells (xs.flatMap enc).toArray el) } (slc el sz ⟨some ⟨w.heap.size,0,none⟩,n,n⟩ (xs.flatMap enc)::l):=by
  have:=hp.slc_of (sz:=sz) hsz
  rwa [List.toList_toArray] at this
 have h2:=h ⟨some ⟨w.heap.size,0,none⟩,n,n⟩ _ h1;exact ⟨(⟨some ⟨w.heap.size,0,none⟩,n,n⟩,()),_,zjb hc,h2.1,h2.2⟩
theorem z0bj {P:Program} {α:Type} {enc:α->List Value} {xs ys:List α} {t tx ty el el':TypeId} {sz bytes sz' bytes':Nat} {x y:Sl} {k:Sl->Prog} (hs:Sat w l) [ht:SlT P t el sz bytes] [htx:SlT P tx el' sz' bytes'] [hf:FocS l x el sz (xs.flatMap enc) r] [hy:FocR l y sz (ys.flatMap enc)] [hE:EncN enc sz]
  (h:∀ z w',Sat w' (slc el sz z ((xs++ys).flatMap enc)::r)->S w'/\(k z).wp P S w' Q) (hb:(xs.length+ys.length)*bytes<=140737488355328/\xs.length+ys.length<=9223372036854775807:=by omega) :
  (Prog.act (app t tx ty (.slice x.a x.len x.cap) (.slice y.a y.len y.cap)) sL (u1 k)).wp P S w Q:=by
 have h1:x.len=xs.length:=(hs.focS x).rd.len hE.len hE.pos;have h2:=hs.slen y (xs:=ys) (enc:=enc);refine zxc hs (hy.rd w hs) (λu hu=>?_) (by rw [h1,h2];exact hb.1) (by rw [h1,h2];exact hb.2) λz w' _ hs'=>h z w' ?_
 ·obtain ⟨a,-,hu⟩:=List.mem_flatMap.1 hu;exact hE.one a u hu
 ·rw [List.flatMap_append];exact hs'
end
abbrev cB (b:BatM):Array Value:=#[.int .i64 b.base,.int .i64 b.pid,.int .i64 b.epoch,.int .i64 b.seq,.int .i64 b.kind,.int .i64 b.time,.slice b.x.a b.x.len b.x.cap]
abbrev cR (r:RecM):Array Value:=#[.string r.key,.string r.value,.bool r.gone,.int .i64 r.time]
theorem zj9 (time:Int):∀ (rs:List RecM) (ahead:ByteArray) (r:RecM),z2w time ahead (rs++[r])=z2w time ahead rs++z75 time (match rs.getLast? with|none=>ahead|some x=>x.key) r
 | [],ahead,r=>by simp [z2w]
 | a::rs,ahead,r=>by
  show z75 time ahead a++z2w time a.key (rs++[r])=z75 time ahead a++z2w time a.key rs++_;rw [zj9 time rs a.key r,List.append_assoc]
  congr 3
  cases rs with
  | nil=>rfl
  | cons b bs=>rfl
theorem z0ay {b:BatM} (hv:z02 b=0) (i:Nat):(z2w b.time ⟨#[]⟩ (b.rs.take i)).length<=133696:=by
 obtain ⟨h64,hrs⟩:=z2x hv
 have h1:=zfj (time:=b.time) (n:=2048) (rs:=b.rs.take i) (ahead:=⟨#[]⟩) λr hr=>by
  obtain ⟨h1,h2,-⟩:=z5t (hrs r (List.mem_of_mem_take hr));omega
 have h2:(b.rs.take i).length<=64:=by rw [List.length_take];omega
 have:(b.rs.take i).length*(41+2048)<=64*(41+2048):=Nat.mul_le_mul_right _ h2;omega
def hdL (b:BatM):List UInt8:=1::UInt8.ofNat b.kind.toNat::(uI b.base++uI b.pid)
def z98 (b:BatM):List UInt8:=if b.pid>0 then uI b.epoch++(if z0i b then [] else uI b.seq) else []
theorem ztm (b:BatM):z2y b=(hdL b++z98 b++uI b.time)++if z0i b then [] else uI b.rs.length++z2w b.time ⟨#[]⟩ b.rs:=by
 unfold z2y hdL z98;simp only [List.cons_append,List.append_assoc]
section
variable {w:World} {l r:List HP}
set_option maxHeartbeats 1000000 in
theorem z03b (b:BatM) [hb:FocR l b.x 4 (b.rs.flatMap z0f)] (hs:Sat w l) :
  Ret P F.a91 #[.agg (z01 b).toArray] w λvs w'=>(z02 b≠0/\vs=[.slice none 0 0,.int .i64 (z02 b)]/\Sat w' l)\/(z02 b=0/\∃ z:Sl,vs=[z.v,.int .i64 0]/\Sat w' (slc T.a63 1 z ((z2y b).flatMap zk)::l)) :=
 zzq b.base b.pid b.epoch b.seq b.kind b.time b.x <| by
  delta z0fv AA AC AE AH AK AN AO AQ AR Aa Ab Ac Af Ak Al Am Av B1 Bc Bd Be Bf Bw Bx By Bz;have hlx:=hs.slen b.x (xs:=b.rs) (enc:=z0f);refine zr hs λa0 w' hs=>zl hs (zb (zar b hs) λ_ w' hs=>?_);obtain ⟨rfl,hs⟩:=hs;refine zd (wp_lt ?_);refine zi (λh=>?_) λh=>?_
  ·exact wp_lt ⟨rfl,.inl ⟨h,rfl,hs.tail⟩⟩
  have hv:z02 b=0:=Decidable.not_not.1 h;obtain ⟨-,-,⟨hk,hba,hpi,hep,hsq,htm⟩,hfit,-⟩:=z1d b hv;obtain ⟨h64,hrs⟩:=z2x hv;refine zj (λq w'=>∃ z:Sl,q=(z,())/\Sat w' (slc T.a63 1 z ((hdL b).flatMap zk)::pt a0 (.cells (cB b) T.a0)::l)) ?_ ?_
  ·have ek:IntKind.wrap .u8 b.kind=(((UInt8.ofNat b.kind.toNat).toNat:Nat):Int):=by
    rw [wu8 (by omega) (by omega),UInt8.toNat_ofNat'];omega
   have hul1:=z1y b.base;have hul2:=z1y b.pid;refine zt hs λw' hs=>z0y hs (z0y hs ?_);refine z0y hs ?_
   have fin:∀ {w':World} {z1 z2 z3:Sl},Sat w' (slc T.a63 1 z1 (([1,UInt8.ofNat b.kind.toNat]:List UInt8).flatMap zk)::slc T.a63 1 z2 ((uI b.base).flatMap zk)::slc T.a63 1 z3 ((uI b.pid).flatMap zk)::pt a0 (.cells (cB b) T.a0)::l) ->
     (Prog.act (Instr.buildSlice T.a49 3 #[(0,z1.v),(1,z2.v),(2,z3.v)]) sL (u1 λl17=>.call F.a214 [l17.v] sL (u1 λl18=>.untick <| .done 1 [l18.v]))).wp P (λ_=>True) w' (Post.catch (λe vs w'=>e=0/\((z02 b≠0/\vs=[.slice none 0 0,.int .i64 (z02 b)]/\Sat w' l)\/(z02 b=0/\∃ z:Sl,vs=[z.v,.int .i64 0]/\Sat w' (slc T.a63 1 z ((z2y b).flatMap zk)::l)))) 1 λvs w'=>∃ x,vs=z1e [.one .slc] x/\∃ z:Sl,x=(z,())/\Sat w' (slc T.a63 1 z ((hdL b).flatMap zk)::pt a0 (.cells (cB b) T.a0)::l)):=by
    intro w' z1 z2 z3 hs;refine zat hs (enc:=z0h) [z1,z2,z3] λz4 w' hs=>zb (z061 z4 z1 z2 z3 [1,UInt8.ofNat b.kind.toNat] (uI b.base) (uI b.pid) (by simp only [List.length_cons,List.length_nil];omega) hs) λ_ w' hs=>?_;obtain ⟨z5,rfl,hs⟩:=hs;refine zd (ze ?_);refine zg ⟨z5,rfl,?_⟩
    have e:[1,UInt8.ofNat b.kind.toNat]++(uI b.base++uI b.pid)=hdL b:=by unfold hdL;simp
    rw [e] at hs;exact hs.sub
   rw [ek];refine zkw ?_ ?_
   ·refine z7o hs (enc:=zk) [1,UInt8.ofNat b.kind.toNat] λz1 w' hs=>⟨(by first|trivial|(repeat (first|exact trivial|exact λ_=>z09 hs|exact λ_=>z0g hs|refine And.intro ?_ ?_))),?_⟩
    refine zb (z5o b.base (by omega) hs) λ_ w' hs=>?_;obtain ⟨z2,rfl,hs⟩:=hs;refine zd ?_ (by first|trivial|(repeat (first|exact trivial|exact λ_=>z09 hs|exact λ_=>z0g hs|refine And.intro ?_ ?_)));refine zb (z5o b.pid (by omega) hs) λ_ w' hs=>?_;obtain ⟨z3,rfl,hs⟩:=hs;refine zd ?_ (by first|trivial|(repeat (first|exact trivial|exact λ_=>z09 hs|exact λ_=>z0g hs|refine And.intro ?_ ?_)));exact ze (fin hs.sub)
   ·refine zb (z5o b.base (by omega) hs) λ_ w' hs=>?_;obtain ⟨z2,rfl,hs⟩:=hs;refine zd ?_ (by first|trivial|(repeat (first|exact trivial|exact λ_=>z09 hs|exact λ_=>z0g hs|refine And.intro ?_ ?_)));refine zkw ?_ ?_
    ·refine z7o hs (enc:=zk) [1,UInt8.ofNat b.kind.toNat] λz1 w' hs=>⟨(by first|trivial|(repeat (first|exact trivial|exact λ_=>z09 hs|exact λ_=>z0g hs|refine And.intro ?_ ?_))),?_⟩
     refine zb (z5o b.pid (by omega) hs) λ_ w' hs=>?_;obtain ⟨z3,rfl,hs⟩:=hs;refine zd ?_ (by first|trivial|(repeat (first|exact trivial|exact λ_=>z09 hs|exact λ_=>z0g hs|refine And.intro ?_ ?_)));exact ze (fin hs.sub)
    ·refine zb (z5o b.pid (by omega) hs) λ_ w' hs=>?_;obtain ⟨z3,rfl,hs⟩:=hs;refine zd ?_ (by first|trivial|(repeat (first|exact trivial|exact λ_=>z09 hs|exact λ_=>z0g hs|refine And.intro ?_ ?_)))
     refine z7o hs (enc:=zk) [1,UInt8.ofNat b.kind.toNat] λz1 w' hs=>⟨(by first|trivial|(repeat (first|exact trivial|exact λ_=>z09 hs|exact λ_=>z0g hs|refine And.intro ?_ ?_))),?_⟩
     exact ze (fin hs.sub)
  rintro _ w1 ⟨z,rfl,hs⟩
  have hdl:(hdL b).length<=22:=by
   have hul1:=z1y b.base;have hul2:=z1y b.pid;unfold hdL;simp only [List.length_cons,List.length_append];omega
  refine z8 hs (zj (λq w'=>∃ z:Sl,q=(z,())/\Sat w' (slc T.a63 1 z ((hdL b++z98 b).flatMap zk)::pt a0 (.cells (cB b) T.a0)::l)) ?_ ?_)
  ·refine zi (λh2=>?_) λh2=>?_;rotate_left
   ·refine zg ⟨z,rfl,?_⟩
    have e:z98 b=[]:=by unfold z98;rw [if_neg h2]
    rw [e,List.append_nil];exact hs
   have hul:=z1y b.epoch;refine z8 hs (zb (z5o b.epoch (by omega) hs) λ_ w' hs=>?_);obtain ⟨z2,rfl,hs⟩:=hs;refine zd (wp_app' (xs:=hdL b) (ys:=uI b.epoch) (enc:=zk) hs λz3 w' hs=>?_);refine zl hs (zb (z7k b hs) λ_ w' hs=>?_);obtain ⟨rfl,hs⟩:=hs;refine zd (z3j ?_);refine zi (λh3=>?_) λh3=>?_
   ·have h3:z0i b=false:=by simpa using h3
    have hul2:=z1y b.seq;refine z8 hs (zb (z5o b.seq (by omega) hs) λ_ w' hs=>?_);obtain ⟨z4,rfl,hs⟩:=hs;refine zd (wp_app' (xs:=hdL b++uI b.epoch) (ys:=uI b.seq) (enc:=zk) hs (λz5 w' hs=>?_) (by rw [List.length_append];omega));refine z5a (zg ⟨z5,rfl,?_⟩)
    have e:z98 b=uI b.epoch++uI b.seq:=by unfold z98;rw [if_pos h2,h3];rfl
    rw [e,<- List.append_assoc];exact hs.sub
   ·have h3:z0i b=true:=by simpa using h3
    refine z5a (zg ⟨z3,rfl,?_⟩)
    have e:z98 b=uI b.epoch:=by unfold z98;rw [if_pos h2,h3,if_pos rfl,List.append_nil]
    rw [e];exact hs.sub
  rintro _ w2 ⟨z2,rfl,hs⟩
  have hml:(z98 b).length<=20:=by
   have hul1:=z1y b.epoch;have hul2:=z1y b.seq;unfold z98;split
   ·split
    ·simp only [List.length_append,List.length_nil];omega
    ·simp only [List.length_append];omega
   ·simp
  have htl:=z1y b.time;refine z8 hs (zb (z5o b.time (by omega) hs) λ_ w' hs=>?_);obtain ⟨z3,rfl,hs⟩:=hs;refine zd (wp_app' (xs:=hdL b++z98 b) (ys:=uI b.time) (enc:=zk) hs (λz4 w' hs=>?_) (by rw [List.length_append];omega));refine zl hs (zb (z7k b hs) λ_ w' hs=>?_);obtain ⟨rfl,hs⟩:=hs;refine zd (zi (λh3=>?_) λh3=>?_)
  ·refine ⟨rfl,.inr ⟨hv,z4,rfl,?_⟩⟩;rw [ztm,h3,if_pos rfl,List.append_nil];exact hs.sub
  have h3:z0i b=false:=by simpa using h3
  have hcl:=z1y ((b.rs.length:Nat):Int);refine z8 hs ?_;rw [hlx];refine zb (z5o ((b.rs.length:Nat):Int) (by omega) hs) λ_ w' hs=>?_;obtain ⟨z5,rfl,hs⟩:=hs;refine zd ?_;generalize hX:hdL b++z98 b++uI b.time=X at hs
  have hXl:X.length<=60:=by rw [<- hX];simp only [List.length_append];omega
  refine wp_app' (xs:=X) (ys:=uI (b.rs.length:Nat)) (enc:=zk) hs (λz6 w' hs=>?_) (by omega);refine z8 hs ?_;generalize hY:X++uI ((b.rs.length:Nat):Int)=Y at hs
  have hYl:Y.length<=80:=by rw [<- hY];simp only [List.length_append];omega
  have hfin:z2y b=Y++z2w b.time ⟨#[]⟩ b.rs:=by
   rw [ztm,hX,h3,if_neg (by simp),<- hY,List.append_assoc]
  refine zj (λq w'=>∃ z:Sl,q=(z,())/\Sat w' (slc T.a63 1 z ((z2y b).flatMap zk)::l)) ?_ ?_;rotate_left
  ·rintro _ w' ⟨z,rfl,hs⟩;exact ⟨rfl,.inr ⟨hv,z,rfl,hs⟩⟩
  have hrec:=z0ay hv
  refine z0a (λm v w=>∃ (i:Nat) (z:Sl),v=(z,((match (b.rs.take i).getLast? with|none=>(⟨#[]⟩:ByteArray)|some x=>x.key),((i:Int),())))/\i<=b.rs.length/\b.rs.length-i=m/\Sat w (slc T.a63 1 z ((Y++z2w b.time ⟨#[]⟩ (b.rs.take i)).flatMap zk)::pt a0 (.cells (cB b) T.a0)::l)) b.rs.length ⟨0,z6,rfl,by omega,rfl,by
   rw [List.take_zero];show Sat _ (slc T.a63 1 z6 ((Y++[]).flatMap zk)::_);rw [List.append_nil]
   exact hs.sub⟩ ?_
  clear hs;rintro m _ w ⟨i,z,rfl,hi,hm,hs⟩;refine zi (λhc=>?_) λhc=>?_;rotate_left
  ·refine zm (zg ⟨z,rfl,?_⟩);have hc:¬ ((i:Int)<((b.x.len:Nat):Int)):=hc
   have hi2:i=b.rs.length:=by omega
   rw [hi2,List.take_length,<- hfin] at hs;exact hs.sub
  have hc:((i:Int)<((b.x.len:Nat):Int)):=hc
  have hil:i<b.rs.length:=by omega
  refine z5b hs (xs:=b.rs) (enc:=z0f) i hil (zu hs λa1 w' hs=>?_);refine zv hs λw' hs=>z8 hs ?_;obtain ⟨hr1,hr2,hr3,hr4⟩:=z5t (hrs b.rs[i] (List.getElem_mem hil))
  have hah:∀ x,(match (b.rs.take i).getLast? with|none=>(⟨#[]⟩:ByteArray)|some x=>x.key)=x->x.size<=1024:=by
   intro x hx
   cases hq:(b.rs.take i).getLast? with
   | none=>rw [hq] at hx;subst hx;show 0<=1024;omega
   | some y =>
    rw [hq] at hx;subst hx;exact (z5t (hrs y (List.mem_of_mem_take (List.mem_of_getLast? hq)))).1
  have hsn:=zj9 b.time (b.rs.take i) ⟨#[]⟩ b.rs[i];rw [<- List.take_succ_eq_append_getElem hil] at hsn;have hln:=hrec (i+1);rw [hsn,List.length_append] at hln
  have hlast:(match (b.rs.take (i+1)).getLast? with|none=>(⟨#[]⟩:ByteArray)|some x=>x.key)=b.rs[i].key:=by
   rw [List.take_succ_eq_append_getElem hil,z25]
  generalize (match (b.rs.take i).getLast? with|none=>(⟨#[]⟩:ByteArray)|some x=>x.key)=ahead at *;have hah:=hah ahead rfl;refine zb (ztj ahead b.rs[i].key (by omega) hs) λ_ w' hs=>?_;obtain ⟨rfl,hs⟩:=hs;refine zd (wp_lt ?_);have hal:=zbs (bl ahead) (bl b.rs[i].key);rw [z10,z10] at hal
  have hrl:z75 b.time ahead b.rs[i]=(z64 (b.rs[i].time-b.time)++([z1q b.rs[i].gone]++(uI (z0q (bl ahead) (bl b.rs[i].key):Nat)++z80 ahead b.rs[i].key)))++if b.rs[i].gone then [] else uI b.rs[i].value.size++bl b.rs[i].value:=by
   unfold z75;simp only [List.append_assoc,List.cons_append,List.nil_append,List.singleton_append]
  generalize hZ:Y++z2w b.time ⟨#[]⟩ (b.rs.take i)=Z at *
  have hZl:Z.length<=200000:=by rw [<- hZ,List.length_append];omega
  have htl1:=zmj (b.rs[i].time-b.time);have htl2:=z1y ((z0q (bl ahead) (bl b.rs[i].key):Nat):Int)
  have htl3:(z80 ahead b.rs[i].key).length<=1034:=by
   unfold z80;have:=z1y (((b.rs[i].key.size-z0q (bl ahead) (bl b.rs[i].key):Nat)):Int);rw [List.length_append,List.length_drop,z10];omega
  refine zj (λq w'=>∃ z:Sl,q=(z,())/\Sat w' (slc T.a63 1 z ((Z++(z64 (b.rs[i].time-b.time)++([z1q b.rs[i].gone]++(uI (z0q (bl ahead) (bl b.rs[i].key):Nat)++z80 ahead b.rs[i].key)))).flatMap zk)::pt a1 (.cells (cR b.rs[i]) T.a2)::pt a0 (.cells (cB b) T.a0)::l)) ?_ ?_
  ·refine zt hs λw' hs=>z8 hs (z8 hs ?_);refine z0y hs (z0y hs ?_);refine wp_must (by omega) ?_;rw [w64 (by omega) (by omega)];refine zb (z0bp (b.rs[i].time-b.time) (by omega) hs) λ_ w' hs=>?_;obtain ⟨u1_,rfl,hs⟩:=hs;refine zd ?_ (by first|trivial|(repeat (first|exact trivial|exact λ_=>z09 hs|exact λ_=>z0g hs|refine And.intro ?_ ?_)));refine zb (zkt b.rs[i].gone hs) λ_ w' hs=>?_;obtain ⟨u2_,rfl,hs⟩:=hs;refine zd ?_ (by first|trivial|(repeat (first|exact trivial|exact λ_=>z09 hs|exact λ_=>z0g hs|refine And.intro ?_ ?_)));refine zb (z5o ((z0q (bl ahead) (bl b.rs[i].key):Nat):Int) (by omega) hs) λ_ w' hs=>?_;obtain ⟨u3_,rfl,hs⟩:=hs;refine zd ?_ (by first|trivial|(repeat (first|exact trivial|exact λ_=>z09 hs|exact λ_=>z0g hs|refine And.intro ?_ ?_)));refine ze ?_
   have ext:(ByteArray.extract b.rs[i].key (z0q (bl ahead) (bl b.rs[i].key)) b.rs[i].key.size).size=b.rs[i].key.size-z0q (bl ahead) (bl b.rs[i].key):=by rw [ByteArray.size_extract];omega
   have exb:bl (ByteArray.extract b.rs[i].key (z0q (bl ahead) (bl b.rs[i].key)) b.rs[i].key.size)=(bl b.rs[i].key).drop (z0q (bl ahead) (bl b.rs[i].key)):=by
    unfold bl;rw [ByteArray.data_extract,Array.toList_extract,List.extract_eq_take_drop];exact List.take_of_length_le (by rw [List.length_drop];exact Nat.le_refl _)
   rw [Int.toNat_natCast];refine zb (zvg (ByteArray.extract b.rs[i].key (z0q (bl ahead) (bl b.rs[i].key)) b.rs[i].key.size) (by omega) hs) λ_ w' hs=>?_;obtain ⟨u4_,rfl,hs⟩:=hs;refine zd ?_;rw [ext,exb] at hs;have hs:Sat _ (slc T.a63 1 u4_ ((z80 ahead b.rs[i].key).flatMap zk)::_):=hs;refine zat hs (enc:=z0h) [u1_,u2_,u3_,u4_] λu5_ w' hs=>zb (z062 u5_ u1_ u2_ u3_ u4_ (z64 (b.rs[i].time-b.time)) [z1q b.rs[i].gone] (uI (z0q (bl ahead) (bl b.rs[i].key):Nat)) (z80 ahead b.rs[i].key) (by simp only [List.length_cons,List.length_nil];omega) hs) λ_ w' hs=>?_;obtain ⟨u6_,rfl,hs⟩:=hs;refine zd (wp_app' (xs:=Z) (ys:=z64 (b.rs[i].time-b.time)++([z1q b.rs[i].gone]++(uI (z0q (bl ahead) (bl b.rs[i].key):Nat)++z80 ahead b.rs[i].key))) (enc:=zk) hs (λz5 w' hs=>?_) (by simp only [List.length_append,List.length_cons,List.length_nil];omega));refine ze (zg ⟨z5,rfl,?_⟩);exact hs.sub
  rintro _ w3 ⟨z5,rfl,hs⟩;refine z8 hs (zj (λq w'=>∃ z:Sl,q=(z,())/\Sat w' (slc T.a63 1 z ((Z++z75 b.time ahead b.rs[i]).flatMap zk)::pt a1 (.cells (cR b.rs[i]) T.a2)::pt a0 (.cells (cB b) T.a0)::l)) ?_ ?_)
  ·refine zi (λh5=>?_) λh5=>?_
   ·have h5:b.rs[i].gone=false:=by simpa using h5
    refine z8 hs (zb (zvg b.rs[i].value (by omega) hs) λ_ w' hs=>?_);obtain ⟨u,rfl,hs⟩:=hs;refine zd ?_;have hvl:=z1y ((b.rs[i].value.size:Nat):Int);have hvs:=z10 b.rs[i].value;refine wp_app' (xs:=Z++(z64 (b.rs[i].time-b.time)++([z1q b.rs[i].gone]++(uI (z0q (bl ahead) (bl b.rs[i].key):Nat)++z80 ahead b.rs[i].key)))) (ys:=uI (b.rs[i].value.size:Nat)++bl b.rs[i].value) (enc:=zk) hs (λz7 w' hs=>?_) (by simp only [List.length_append,List.length_cons,List.length_nil];omega);refine zg ⟨z7,rfl,?_⟩;rw [hrl,if_neg (by rw [h5];simp),<- List.append_assoc];exact hs.sub
   ·have h5:b.rs[i].gone=true:=by simpa using h5
    refine zg ⟨z5,rfl,?_⟩;rw [hrl,if_pos h5,List.append_nil];exact hs.sub
  rintro _ w4 ⟨z7,rfl,hs⟩;refine z8 hs (wp_lt ?_)
  have e5:IntKind.wrap .i64 ((i:Int)+1)=((i+1:Nat):Int):=by rw [w64 (by omega) (by omega)];omega
  rw [e5];refine z0x (b.rs.length-(i+1)) ⟨i+1,z7,by rw [hlast],by omega,rfl,?_⟩;rw [hsn,<- List.append_assoc,hZ];exact hs.sub
end
def zn8 (b:BatM) (k:Nat):BatM:=⟨b.base+k,b.pid,b.epoch,if b.pid>0 then b.seq+k else b.seq,b.kind,b.time,b.x,b.rs.drop k⟩
def z0w (off:Int) (b:BatM):Option BatM:=if z02 b≠0\/off>=z1u b then none else if z0i b=true\/off<=b.base then some b else some (zn8 b (off-b.base).toNat)
def rsP (b:BatM):HP:=slc T.a2 4 b.x (b.rs.flatMap z0f)
def z28 (bs:List BatM):HP:=HP.all (bs.map rsP)
section
variable {w:World} {l r:List HP}
theorem zuw (b:BatM) [hb:FocR l b.x 4 (b.rs.flatMap z0f)] (hlen:b.rs.length<=1000000) (hs:Sat w l):Ret P F.a89 #[.agg (z01 b).toArray] w λvs w'=>∃ z:Sl,vs=[.agg (z01 (b.at z)).toArray]/\Sat w' (slc T.a2 4 z (b.rs.flatMap z0f)::l) :=
 zzo b.base b.pid b.epoch b.seq b.kind b.time b.x <| by
  delta z0ft AH AK AN AS Ab Af Bc Bw Bx
  refine zr hs λa0 w' hs=>?_
  refine zu hs λa1 w' hs=>?_
  refine z8 hs ?_
  have hs:Sat w' (slc T.a2 4 ⟨none,0,0⟩ (([]:List RecM).flatMap z0f)::_):=hs.slc_nil
  refine wp_app' (x:=⟨none,0,0⟩) (xs:=([]:List RecM)) (ys:=b.rs) (enc:=z0f) hs (λz w' hs=>?_) (by simp only [List.length_nil];omega)
  rw [List.nil_append] at hs
  refine zy hs λw' hs=>?_
  refine zl hs ?_
  refine zv hs λw' hs=>?_
  refine zl hs ?_
  refine ⟨rfl,z,rfl,?_⟩
  exact hs.sub
theorem z0b1 (b:BatM) (k:Nat) (hk:k<=b.rs.length) (hcap:b.x.len<=b.x.cap) (hv:z02 b=0) [hb:FocR l b.x 4 (b.rs.flatMap z0f)] (hs:Sat w l):Ret P F.a101 #[.agg (z01 b).toArray,.int .i64 (k:Int),.int .i64 (b.x.len:Nat)] w λvs w'=>∃ z:Sl,vs=[.agg (z01 ((zn8 b k).at z)).toArray]/\Sat w' (slc T.a2 4 z ((b.rs.drop k).flatMap z0f)::l) :=
 zqr b.base b.pid b.epoch b.seq b.kind b.time b.x _ _ <| by
  delta z06q AH AK AN AR AS Aa Ab Ac Af Av Az Bc Bw Bx
  have hl:=hs.slen b.x (xs:=b.rs) (enc:=z0f)
  obtain ⟨h64,-⟩:=z2x hv
  obtain ⟨-,-,⟨-,hba,hpi,-,hsq,-⟩,-,-⟩:=z1d b hv
  refine zr hs λa0 w' hs=>?_
  refine zu hs λa1 w' hs=>?_
  refine zl hs ?_
  refine zu hs λa9 w' hs=>?_
  refine zv hs λw' hs=>?_
  refine z8 hs ?_
  refine wp_must (by omega) ?_
  rw [Int.toNat_natCast,Int.toNat_natCast]
  have hf:FocR (pt a9 (.cells #[.int .i64 b.base,.int .i64 b.pid,.int .i64 b.epoch,.int .i64 b.seq,.int .i64 b.kind,.int .i64 b.time,.slice b.x.a b.x.len b.x.cap] T.a0)::pt a1 (.cells #[.int .i64 0,.int .i64 0,.int .i64 0,.int .i64 0,.int .i64 0,.int .i64 0,.slice none 0 0] T.a0)::pt a0 (.cells #[.int .i64 b.base,.int .i64 b.pid,.int .i64 b.epoch,.int .i64 b.seq,.int .i64 b.kind,.int .i64 b.time,.slice b.x.a b.x.len b.x.cap] T.a0)::l) ⟨z0k b.x.a 4 k b.x.cap,b.x.len-k,b.x.cap-k⟩ 4 ((b.rs.drop k).flatMap z0f):=FocR.post hcap
  have hs:Sat w' (slc T.a2 4 ⟨none,0,0⟩ (([]:List RecM).flatMap z0f)::_):=hs.slc_nil
  refine wp_app' (x:=⟨none,0,0⟩) (y:=⟨z0k b.x.a 4 k b.x.cap,b.x.len-k,b.x.cap-k⟩) (xs:=([]:List RecM)) (ys:=b.rs.drop k) (enc:=z0f) hs (λz w' hs=>?_) (by simp only [List.length_nil,List.length_drop];omega)
  rw [List.nil_append] at hs
  refine zy hs λw' hs=>?_
  refine z8 hs ?_
  rw [w64 (by omega) (by omega)]
  refine zy hs λw' hs=>?_
  refine z8 hs ?_
  refine zj (λ_ w'=>Sat w' (pt a9 (.cells [.int .i64 (b.base+k),.int .i64 b.pid,.int .i64 b.epoch,.int .i64 (if b.pid>0 then b.seq+k else b.seq),.int .i64 b.kind,.int .i64 b.time,.slice z.a z.len z.cap].toArray T.a0)::slc T.a2 4 z ((b.rs.drop k).flatMap z0f)::pt a1 (.cells #[.int .i64 0,.int .i64 0,.int .i64 0,.int .i64 0,.int .i64 0,.int .i64 0,.slice none 0 0] T.a0)::l)) ?_ ?_
  ·refine zi (λh=>?_) λh=>?_
   ·refine z8 hs ?_
    rw [w64 (by omega) (by omega)]
    refine zy hs λw' hs=>?_
    refine zg ?_
    rw [if_pos h]
    exact hs.sub
   ·refine zg ?_
    rw [if_neg h]
    exact hs.sub
  clear hs
  rintro _ w2 hs
  refine zl hs ?_
  refine zv hs λw' hs=>?_
  refine zl hs ?_
  refine ⟨rfl,z,rfl,?_⟩
  exact hs.sub
theorem z09y (b:BatM) (off:Int) (ho : -9223372036854775808<=off/\off<9223372036854775808) (hcap:b.x.len<=b.x.cap) [hb:FocR l b.x 4 (b.rs.flatMap z0f)] (hs:Sat w l):Ret P F.a93 #[.agg (z01 b).toArray,.int .i64 off] w λvs w' =>
  (z0w off b=none/\vs=[.agg (z01 zxl).toArray,.bool false]/\Sat w' l)\/(∃ (c:BatM) (z:Sl),z0w off b=some c/\vs=[.agg (z01 (c.at z)).toArray,.bool true]/\Sat w' (slc T.a2 4 z (c.rs.flatMap z0f)::l)) :=
 zzs b.base b.pid b.epoch b.seq b.kind b.time b.x off <| by
  delta z0fx AA AB AD AH AK AN AP AR Aa Ab Ac Af Aj Ak Am Av B8 BA Bw Bx
  have hl:=hs.slen b.x (xs:=b.rs) (enc:=z0f)
  refine zr hs λa0 w' hs=>?_
  refine zu hs λa1 w' hs=>?_
  refine zj (λq w'=>q=(decide (z02 b≠0\/off>=z1u b),())/\Sat w' (pt a1 (.cells #[.int .i64 0,.int .i64 0,.int .i64 0,.int .i64 0,.int .i64 0,.int .i64 0,.slice none 0 0] T.a0)::pt a0 (.cells (cB b) T.a0)::l)) ?_ ?_
  ·refine zl hs ?_
   refine zb (zar b hs) λ_ w' hs=>?_
   obtain ⟨rfl,hs⟩:=hs
   refine zd ?_
   refine zl hs ?_
   refine zi (λh=>?_) λh=>?_
   ·exact zg ⟨by rw [decide_eq_true (.inl h)],hs⟩
   ·refine zb (zan b hs) λ_ w' hs=>?_
    obtain ⟨rfl,hs⟩:=hs
    refine zd ?_
    refine wp_lt ?_
    refine zg ⟨?_,hs⟩
    rw [decide_eq_decide.2 (show (z02 b≠0\/off>=z1u b)↔off>=z1u b from ⟨λhh=>hh.resolve_left h,.inr⟩)]
  rintro _ w2 ⟨rfl,hs⟩
  refine zi (λh=>?_) λh=>?_
  ·have h:z02 b≠0\/off>=z1u b:=by simpa using h
   refine zv hs λw' hs=>?_
   refine zl hs ?_
   refine ⟨rfl,.inl ⟨by unfold z0w;rw [if_pos h],rfl,hs.tail.tail⟩⟩
  have h:¬ (z02 b≠0\/off>=z1u b):=by simpa using h
  have hv:z02 b=0:=Decidable.byContradiction λhh=>h (.inl hh)
  have hno:off<z1u b:=by
   apply Decidable.byContradiction;intro hh;exact h (.inr (by omega))
  have hnx:z1u b=b.base+zo b:=by unfold z1u;rw [if_neg (by rw [hv];simp)]
  obtain ⟨h64,-⟩:=z2x hv
  obtain ⟨-,-,⟨-,hba,-⟩,-,-⟩:=z1d b hv
  refine zl hs ?_
  refine zb (z7k b hs) λ_ w' hs=>?_
  obtain ⟨rfl,hs⟩:=hs
  refine zd ?_
  refine z8 hs ?_
  refine wp_lt ?_
  refine zi (λh2=>?_) λh2=>?_
  ·refine zl hs ?_
   refine zb (zuw b (by omega) hs) λ_ w' hs=>?_
   obtain ⟨z,rfl,hs⟩:=hs
   refine ⟨(b.base,b.pid,b.epoch,b.seq,b.kind,b.time,z,()),rfl,trivial,zxi _ _ _ _ _ _ _ ?_⟩
   refine zv hs λw' hs=>?_
   refine zl hs ?_
   refine ⟨rfl,.inr ⟨b,z,by unfold z0w;rw [if_neg h,if_pos h2],rfl,hs.sub⟩⟩
  ·have hm:z0i b=false:=by
    cases hm:z0i b with
    | false=>rfl
    | true=>exact absurd (.inl hm) h2
   have hob:¬ off<=b.base:=λhh=>h2 (.inr hh)
   have hsp:zo b=b.rs.length:=by unfold zo;rw [hm];simp
   refine zl hs ?_
   refine z8 hs ?_
   refine z8 hs ?_
   rw [w64 (by omega) (by omega)]
   have eo:off-b.base=(((off-b.base).toNat:Nat):Int):=by omega
   rw [eo]
   refine zb (z0b1 b (off-b.base).toNat (by omega) hcap hv hs) λ_ w' hs=>?_
   obtain ⟨z,rfl,hs⟩:=hs
   refine ⟨(b.base+(off-b.base).toNat,b.pid,b.epoch,(if b.pid>0 then b.seq+(off-b.base).toNat else b.seq),b.kind,b.time,z,()),rfl,trivial,zxi _ _ _ _ _ _ _ ?_⟩
   refine zv hs λw' hs=>?_
   refine zl hs ?_
   refine ⟨rfl,.inr ⟨zn8 b (off-b.base).toNat,z,by unfold z0w;rw [if_neg h,if_neg h2],rfl,(show Sat w' (slc T.a2 4 z ((b.rs.drop (off-b.base).toNat).flatMap z0f)::l) from hs.sub)⟩⟩
end
def z5y (n:Nat):UInt8:=if n<10 then UInt8.ofNat (48+n) else UInt8.ofNat (87+n)
def z6v (c:UInt8):Option Nat:=if 48<=c.toNat/\c.toNat<=57 then some (c.toNat-48) else if 97<=c.toNat/\c.toNat<=102 then some (c.toNat-87) else none
theorem z0ci {n:Nat} (h:n<16):z6v (z5y n)=some n:=by
 unfold z5y z6v;split
 ·rw [UInt8.toNat_ofNat',if_pos (by omega)]
  congr 1;omega
 ·rw [UInt8.toNat_ofNat',if_neg (by omega),if_pos (by omega)]
  congr 1;omega
theorem z0ch {c:UInt8} {n:Nat} (h:z6v c=some n):z5y n=c/\n<16:=by
 unfold z6v at h;unfold z5y;split at h
 ·simp only [Option.some.injEq] at h;subst h;rw [if_pos (by omega)];exact ⟨UInt8.toNat_inj.1 (by rw [UInt8.toNat_ofNat'];omega),by omega⟩
 ·split at h
  ·simp only [Option.some.injEq] at h;subst h;rw [if_neg (by omega)];exact ⟨UInt8.toNat_inj.1 (by rw [UInt8.toNat_ofNat'];omega),by omega⟩
  ·cases h
def z33:Nat->Nat->List UInt8
 | 0,_=>[]
 | k+1,n=>z33 k (n / 16)++[z5y (n % 16)]
def z48 (x:Nat):List UInt8->Option Nat
 | []=>some x
 | c::r=>match z6v c with
  | none=>none
  | some d=>z48 (16*x+d) r
theorem z6w:∀ (k n:Nat),(z33 k n).length=k
 | 0,_=>rfl
 | k+1,n=>by unfold z33;rw [List.length_append,z6w k];rfl
theorem zhk (x:Nat) (a b:List UInt8):z48 x (a++b)=(z48 x a).bind λy=>z48 y b:=by
 induction a generalizing x with
 | nil=>rfl
 | cons c r ih =>
  rw [List.cons_append]
  cases hd:z6v c with
  | none=>simp only [z48,hd];rfl
  | some d=>simp only [z48,hd];exact ih _
theorem zis:∀ (k n x:Nat),z48 x (z33 k n)=some (x*16 ^ k+n % 16 ^ k)
 | 0,n,x=>by simp [z33,z48,Nat.mod_one]
 | k+1,n,x=>by
  unfold z33;rw [zhk,zis k];show z48 _ [z5y (n % 16)]=_;unfold z48;rw [z0ci (Nat.mod_lt _ (by omega))];show some _=some _
  congr 1
  have h1:n % 16 ^ (k+1)=16*(n / 16 % 16 ^ k)+n % 16:=by
   rw [Nat.pow_succ,Nat.mul_comm (16 ^ k) 16,Nat.mod_mul];omega
  have h2:x*16 ^ (k+1)=16*(x*16 ^ k):=by rw [Nat.pow_succ];ac_rfl
  omega
def z08:List UInt8:=[46,108,111,103]
def z9a:List UInt8:=[46,110,101,119]
def zx (pre:ByteArray) (base:Int) (x:List UInt8):ByteArray:=⟨(bl pre++(45::(z33 11 base.toNat++x))).toArray⟩
def z1m (pre n:ByteArray) (x:List UInt8):Option Nat :=
 if (bl n).length=(bl pre).length+1+11+x.length/\(bl n).drop ((bl pre).length+1+11)=x then z48 0 (((bl n).drop ((bl pre).length+1)).take 11) else none
def z1n (pre:ByteArray):ByteArray:=⟨(bl pre++[45]).toArray⟩
def zoo (pre n:ByteArray) (x:List UInt8):Option Nat:=if (bl (z1n pre)).isPrefixOf (bl n) then z1m pre n x else none
theorem z6q (pre:ByteArray) (base:Int) (x:List UInt8):bl (zx pre base x)=bl pre++(45::(z33 11 base.toNat++x)):=zbt _
theorem zjx (pre:ByteArray):bl (z1n pre)=bl pre++[45]:=zbt _
theorem z72 (pre:ByteArray) (base:Int) (x:List UInt8):(bl (z1n pre)).isPrefixOf (bl (zx pre base x))=true:=by
 rw [z6q,zjx,List.isPrefixOf_iff_prefix];exact ⟨z33 11 base.toNat++x,by simp⟩
theorem zgk (pre:ByteArray) {base:Int} (h:0<=base/\base<17592186044416) (x:List UInt8):z1m pre (zx pre base x) x=some base.toNat:=by
 have hl:=z6w 11 base.toNat
 have e1:(bl (zx pre base x)).drop ((bl pre).length+1)=z33 11 base.toNat++x:=by
  rw [z6q,<- List.drop_drop,List.drop_left];rfl
 have e2:(bl (zx pre base x)).drop ((bl pre).length+1+11)=x:=by
  rw [<- List.drop_drop,e1];exact List.drop_left' hl
 unfold z1m;rw [e1,e2,if_pos ⟨by rw [z6q];simp [hl];omega,rfl⟩,List.take_left' hl,zis,Nat.zero_mul,Nat.zero_add,Nat.mod_eq_of_lt (by omega)]
theorem zl7 {pre n:ByteArray} {x y:List UInt8} {v:Nat} (h:z1m pre n x=some v) (hxy:x≠y):z1m pre n y=none:=by
 unfold z1m at h ⊢;split at h
 ·rename_i h1
  rw [if_neg];rintro ⟨h2,h3⟩;exact hxy (h1.2.symm.trans h3)
 ·cases h
theorem zdm (pre:ByteArray) {base:Int} (h:0<=base/\base<17592186044416) (x:List UInt8):zoo pre (zx pre base x) x=some base.toNat:=by
 unfold zoo;rw [if_pos (z72 _ _ _),zgk pre h]
theorem z048 {pre n:ByteArray} {x y:List UInt8} {v:Nat} (h:zoo pre n x=some v) (hxy:x≠y):zoo pre n y=none:=by
 unfold zoo at h ⊢;split at h
 ·rename_i hp;rw [if_pos hp];exact zl7 h hxy
 ·cases h
theorem z01a {pre:ByteArray} {a b:Int} {x y:List UInt8} (ha:0<=a/\a<17592186044416) (hb:0<=b/\b<17592186044416) (h:zx pre a x=zx pre b y):a=b/\x=y:=by
 have h1:=zdm pre ha x;rw [h] at h1
 by_cases hxy:x=y
 ·subst hxy;rw [zdm pre hb] at h1;simp only [Option.some.injEq] at h1;exact ⟨by omega,rfl⟩
 ·rw [z048 (zdm pre hb y) (λe=>hxy e.symm)] at h1;cases h1
def z2n (pre:ByteArray):Bool:=decide (1<=pre.size/\pre.size<=8) && (bl pre).all λc=>(97<=c.toNat && c.toNat<=122) || (48<=c.toNat && c.toNat<=57)
theorem z0a1 {n:Nat} (h:n<16):okC (z5y n)=true:=by
 unfold z5y okC;split <;> rw [UInt8.toNat_ofNat'] <;> simp <;> omega
theorem zu2:∀ (k n:Nat),(z33 k n).all okC=true
 | 0,_=>rfl
 | k+1,n=>by
  unfold z33;rw [List.all_append,zu2 k];simp [z0a1 (Nat.mod_lt n (by omega:(16:Nat)>0))]
theorem zqf {pre:ByteArray} (h:z2n pre=true) (base:Int) {x:List UInt8} (hx:x.length=4) (hxo:x.all okC=true):z3u (zx pre base x)=true:=by
 unfold z2n at h;rw [Bool.and_eq_true,decide_eq_true_eq] at h
 have hall:(bl pre).all okC=true:=by
  rw [List.all_eq_true] at h ⊢;intro c hc;have:=h.2 c hc;unfold okC;rw [this];rfl
 have hsz:(zx pre base x).size=pre.size+16:=by
  rw [<- z10,z6q,<- z10];simp [z6w,hx]
 unfold z3u;rw [hsz,show (zx pre base x).data.toList=_ from z6q pre base x];simp [List.all_append,hall,zu2,hxo];exact ⟨by decide,by omega⟩
theorem zht:∀ (a x y:List UInt8),Op.bytesLess (a++x) (a++y)=Op.bytesLess x y
 | [],x,y=>rfl
 | c::a,x,y=>by
  rw [List.cons_append,List.cons_append,Op.bytesLess,zht a];simp
theorem zfb:∀ (a b x y:List UInt8),a.length=b.length->(Op.bytesLess (a++x) (b++y)=true↔Op.bytesLess a b=true\/(a=b/\Op.bytesLess x y=true))
 | [],[],x,y,_=>by simp [Op.bytesLess]
 | c::a,d::b,x,y,h=>by
  rw [List.cons_append,List.cons_append,Op.bytesLess,Op.bytesLess];have ih:=zfb a b x y (by simpa using h);simp only [Bool.or_eq_true,decide_eq_true_eq,Bool.and_eq_true,beq_iff_eq,List.cons.injEq];rw [ih];constructor
  ·rintro (h|⟨h,h2|⟨h2,h3⟩⟩)
   ·exact .inl (.inl h)
   ·exact .inl (.inr ⟨h,h2⟩)
   ·exact .inr ⟨⟨h,h2⟩,h3⟩
  ·rintro ((h|⟨h,h2⟩)|⟨⟨h,h2⟩,h3⟩)
   ·exact .inl h
   ·exact .inr ⟨h,.inl h2⟩
   ·exact .inr ⟨h,.inr ⟨h2,h3⟩⟩
theorem z0a0 {a b:Nat} (ha:a<16) (hb:b<16):(z5y a<z5y b)↔a<b:=by
 rw [UInt8.lt_iff_toNat_lt];unfold z5y;split <;> split <;> rw [UInt8.toNat_ofNat',UInt8.toNat_ofNat'] <;> omega
theorem zlt:∀ (k a b:Nat),a<16 ^ k->b<16 ^ k->(Op.bytesLess (z33 k a) (z33 k b)=true↔a<b)
 | 0,a,b,ha,hb=>by simp at ha hb;subst ha hb;simp [z33,Op.bytesLess]
 | k+1,a,b,ha,hb=>by
  have h1:a / 16<16 ^ k:=by rw [Nat.pow_succ] at ha;omega
  have h2:b / 16<16 ^ k:=by rw [Nat.pow_succ] at hb;omega
  unfold z33;rw [zfb _ _ _ _ (by rw [z6w,z6w]),zlt k _ _ h1 h2]
  have h3:Op.bytesLess [z5y (a % 16)] [z5y (b % 16)]=true↔a % 16<b % 16:=by
   simp only [Op.bytesLess,Bool.or_eq_true,decide_eq_true_eq,Bool.and_eq_true,Bool.false_eq_true,and_false,or_false];exact z0a0 (Nat.mod_lt _ (by omega)) (Nat.mod_lt _ (by omega))
  rw [h3]
  have h4:z33 k (a / 16)=z33 k (b / 16)->a / 16=b / 16:=λh=>by
   have e1:=zis k (a / 16) 0;rw [h,zis] at e1;simp only [Option.some.injEq] at e1;rw [Nat.mod_eq_of_lt h1,Nat.mod_eq_of_lt h2] at e1;omega
  constructor
  ·rintro (h|⟨h,h5⟩)
   ·omega
   ·have:=h4 h;omega
  ·intro h
   by_cases h5:a / 16=b / 16
   ·right;exact ⟨by rw [h5],by omega⟩
   ·left;omega
theorem z016 (pre:ByteArray) {a b:Int} (ha:0<=a/\a<17592186044416) (hb:0<=b/\b<17592186044416) (x:List UInt8):ltS (zx pre a x) (zx pre b x)=true↔a<b:=by
 have e:∀ s:ByteArray,ByteArray.toList s=bl s:=λs=>by rw [ByteArray.toList_eq]
 unfold ltS;rw [e,e,z6q,z6q,zht];have e2:∀ y z:List UInt8,Op.bytesLess (45::y) (45::z)=Op.bytesLess y z:=zht [45];rw [e2,zfb _ _ _ _ (by rw [z6w,z6w]),zlt 11 _ _ (by omega) (by omega),zcf];constructor
 ·rintro (h|⟨-,h⟩)
  ·omega
  ·cases h
 ·intro h;left;omega
end Go.Dec
