/- What the claim of this folder leans on: our own texts, joined, without what it does not use. -/
import Derived.Test.YtlmaipahgknahaaGreatRows
import Derived.WalkKit
import Derived.ProofKit
import Derived.OpenShut
import Derived.RowKit3
import Derived.OrdersHeld
import Derived.Scope
import Derived.KernelRfl
import Derived.Laws.Sem
import Derived.Laws.StructEq
import Derived.Deep.AppendSrc
import Derived.Laws.BytesArg
import Derived.Laws.RangeString
import Derived.Maps.RangeRun
import Derived.Lib.ConvBytes
import Derived.Lib.SlBytesConst
import Derived.ChangeSlices
import Derived.ChangeMaps5
import Derived.ChangeSame
import Derived.Deep.Slices
import Derived.Deep.Fields
import Derived.Test.YtlmaipahgknahaaGreatProg
import Derived.WideKeyRuns
import Derived.DeepKeys3
import Derived.Laws.MakeOwn
import Derived.Sort.MapsRangeIn
import Derived.Sort.KeysCollected
import Derived.RangeFuncNested
import Derived.RangeFuncBound
import Derived.RangeFuncCalls
import Derived.RangeFuncLeaves
import Derived.RangeFuncBox
import Derived.OwnWalkIn
import Derived.TacticsInMore
import Derived.RegionIn
import Derived.LoopNIn
import Derived.LoopIn
import Derived.Maps.AppendAt
import Derived.Shelf.Abstract
import Derived.Shelf.Sort.Plain
import Derived.Shelf.Slices.In.SortNone
import Derived.Test.YtlmaipahgknahaaGreatQNil1
import Derived.Test.YtlmaipahgknahaaGreatQNil2
import Derived.Test.YtlmaipahgknahaaGreatQNil3
import Derived.Test.YtlmaipahgknahaaGreatQNil4
import Derived.Test.YtlmaipahgknahaaGreatQNil5
import Derived.Test.YtlmaipahgknahaaGreatQNil6
import Derived.Test.YtlmaipahgknahaaGreatQNil7
set_option linter.unusedVariables false
set_option linter.unusedSimpArgs false
namespace Go.Dec
def zdk (x:Sl):List Value:=[x.v]
instance:Enc1 zdk .slc (λx=>x):=⟨λ_=>rfl⟩
instance:EncN zdk 1:=⟨λ_=>rfl,by decide,by simp [zdk,Value.oneCell']⟩
def z98 (l:List HP):List Sl->List (List UInt8)->Prop
 | [],[]=>True
 | x::xs,b::bs=>(∀ w,Sat w l->Rd w 1 x (b.flatMap zf))/\z98 l xs bs
 | _,_=>False
theorem z98.length {l:List HP}:∀ {xs:List Sl} {bs:List (List UInt8)},z98 l xs bs->xs.length=bs.length
 | [],[],_=>rfl
 | _::_,_::_,h=>by rw [List.length_cons,List.length_cons,h.2.length]
theorem z98.get {l:List HP}:∀ {xs:List Sl} {bs:List (List UInt8)} (h:z98 l xs bs) (i:Nat) (h1:i<xs.length) (h2:i<bs.length),∀ w,Sat w l->Rd w 1 xs[i] (bs[i].flatMap zf)
 | _::_,_::_,h,0,_,_=>h.1
 | _::_,_::_,h,i+1,h1,h2=>h.2.get i (by simpa using h1) (by simpa using h2)
theorem z34 {bs:List (List UInt8)} {i:Nat} (hi:i<bs.length):(bs.take (i+1)).flatten=(bs.take i).flatten++bs[i]:=by
 rw [List.take_add_one,List.getElem?_eq_getElem hi,List.flatten_append];simp
section
variable {w:World} {l r r0:List HP} {d:Nat} {A:DiskA}
theorem zex (hok:okA A) {n:ByteArray} (hn:z4t n=true) {bs:List UInt8} (hb:bs.length<=A.free) (hm:¬ (z1t A.fs n=false/\A.fs.length>=128)) :
  okA { A with fs:=if z1t A.fs n then A.fs.map (z1k n λf=>{ f with b:=f.b++bs }) else z3p ⟨n,bs,0⟩ A.fs }:=by
 have hr:=hok.room
 have hu:=hok.used
 unfold DiskA.free at hb
 by_cases h:z1t A.fs n=true
 ·rw [if_pos h]
  obtain ⟨f,hf,rfl⟩:=z5k.1 h
  obtain ⟨s,u,hsu⟩:=List.append_of_mem hf
  have hpm:A.fs.Perm (f::(s++u)):=by rw [hsu];exact List.perm_middle
  have hnd:=(hpm.map (·.name)).nodup_iff.1 (z2h hok.sorted)
  rw [List.map_cons,List.nodup_cons] at hnd
  have hne:∀ g ∈ s++u,g.name≠f.name:=λg hg e=>hnd.1 (List.mem_map.2 ⟨g,hg,e⟩)
  have h1:=zb5 (g:=λf=>{ f with b:=f.b++bs }) hpm hne
  have h2:used A.fs=f.b.length+used (s++u):=by rw [z3d hpm,z1d]
  refine ⟨hok.room,?_,by show (A.fs.map _).length<=_;rw [List.length_map];exact hok.many,hok.left,z8c (z5t λ_=>rfl) hok.sorted,λg hg=>?_,λg hg=>?_⟩
  ·show used (A.fs.map _)<=_
   rw [h1]
   show (f.b++bs).length+_<=_
   rw [List.length_append];omega
  ·obtain ⟨g,hg',rfl⟩:=List.mem_map.1 hg
   have:=hok.kept g hg'
   unfold z1k
   split
   ·show g.kept<=(g.b++bs).length;rw [List.length_append];omega
   ·exact this
  ·obtain ⟨g,hg',rfl⟩:=List.mem_map.1 hg
   rw [z5t (by intro _;rfl)];exact hok.names g hg'
 ·have h:z1t A.fs n=false:=by simpa using h
  rw [if_neg (by rw [h];simp)]
  have hne:=z5l.1 h
  have hp:=z5o ⟨n,bs,0⟩ A.fs
  refine ⟨hok.room,?_,?_,hok.left,zdc _ hne hok.sorted,λg hg=>?_,λg hg=>?_⟩
  ·show used (z3p _ _)<=_
   rw [z3d hp,z1d];show bs.length+_<=_;omega
  ·show (z3p _ _).length<=_
   rw [hp.length_eq,List.length_cons]
   have:=hok.many
   have:A.fs.length≠128:=λe=>hm ⟨h,by omega⟩
   omega
  ·rcases zdz.1 hg with rfl|hg
   ·exact Nat.zero_le _
   ·exact hok.kept g hg
  ·rcases zdz.1 hg with rfl|hg
   ·exact zqw hn
   ·exact hok.names g hg
theorem zjt (x:FileA) (g:FileA->FileA) (hg:(g x).name=x.name):∀ {fs:List FileA},(∀ f ∈ fs,f.name≠x.name)->(z3p x fs).map (z1k x.name g)=z3p (g x) fs
 | [],_=>by simp [z3p,z1k]
 | f::r,h=>by
  have hf:z1k x.name g f=f:=by rw [z1k,if_neg (h f (List.mem_cons_self ..))]
  have hr:r.map (z1k x.name g)=r:=by
   conv=>rhs;rw [<- List.map_id r]
   exact List.map_congr_left λy hy=>by rw [z1k,if_neg (h y (List.mem_cons_of_mem _ hy))];rfl
  rw [z3p,z3p,hg]
  split
  ·rw [List.map_cons,List.map_cons,hf,hr,z1k,if_pos rfl]
  ·rw [List.map_cons,hf,zjt x g hg λy hy=>h y (List.mem_cons_of_mem _ hy)]
theorem zj5 (n:ByteArray) (ps:Sl) (xs:List Sl) (bs:List (List UInt8)) [hps:FocR r ps 1 (xs.flatMap zdk)] (hbs:z98 r xs bs) (hlen:bs.length<=1000) (hsum:∀ b ∈ bs,b.length<=100000000) [hf:Fo l dk d A r] (hs:Sat w l) :
  Ret P F.a28 #[.pointer (some ⟨d,0,none⟩),.string n,ps.v] w λvs w'=>vs=[.int .i64 (z08 A n bs.flatten).1]/\Sat w' (dk d (z08 A n bs.flatten).2::r) :=
 zry _ n ps <| by
  delta z04b AA AE AF AI AR AS AT Ab Ad Af Ag Ah Ak Al Am Ao Ap Ar Ax Az B5 BC Bg Bn Br Bv Bz;unfold z08
  have hxl:=hbs.length
  have hok0:okA A:=by obtain ⟨m,FS,hp,hok,hs⟩:=z1x (hs.perm hf.perm);exact hok
  have hfr:A.free<=4194304:=by have:=hok0.room;unfold DiskA.free;omega
  refine zev hs (λhg w' hs=>?_) λhg w' hs=>?_
  ·rw [if_pos hg];exact ⟨rfl,hs⟩
  rw [if_neg (by rw [hg];simp)]
  have hpl:=hs.slen ps (xs:=xs) (enc:=zdk)
  refine z8 (z030 n hs) λ_ _ hs=>?_
  obtain ⟨rfl,hs⟩:=hs
  refine zb ?_
  refine ze (λh=>?_) λh=>?_
  ·have h:z4t n=false:=by simpa using h
   rw [if_pos h];exact ⟨rfl,rfl,hs⟩
  have hn:z4t n=true:=by simpa using h
  rw [if_neg (by rw [hn];simp)]
  refine zg (λv w'=>bs.flatten.length<=A.free/\v=(((bs.flatten.length:Nat):Int),())/\Sat w' (dk d A::r)) ?_ ?_
  ·refine z04 (λk v w=>∃ i:Nat,v=((((bs.take i).flatten.length:Nat):Int),(i:Int),())/\i<=xs.length/\xs.length-i=k/\(bs.take i).flatten.length<=A.free/\Sat w (dk d A::r)) xs.length ⟨0,rfl,by omega,rfl,by simp,hs⟩ ?_
   clear hs
   rintro k _ w ⟨i,rfl,hi,hk,hsm,hs⟩
   refine zm ?_
   refine ze (λhc=>?_) λhc=>?_
   ·have hil:i<xs.length:=by omega
    have hib:i<bs.length:=by omega
    refine z1v hs i hil ?_
    have hrl:xs[i].len=bs[i].length:=(hbs.get i hil hib _ hs.tail).len (enc:=zf) (λ_=>rfl) (by decide)
    have hbi:=hsum _ (List.getElem_mem hib)
    refine z8 (z02l hs) λ_ _ hs=>?_
    obtain ⟨rfl,hs⟩:=hs
    refine zb ?_
    have ew:IntKind.wrap .i64 ((A.free:Int)-((bs.take i).flatten.length:Nat))=(A.free:Int)-((bs.take i).flatten.length:Nat):=zx9
    rw [ew]
    refine ze (λh3=>?_) λh3=>?_
    ·refine zh (zh ?_)
     rw [if_pos]
     ·exact ⟨rfl,rfl,hs⟩
     ·left
      have h4:(bs.take (i+1)).flatten.length<=bs.flatten.length:=by
       have:=congrArg (λl:List (List UInt8)=>l.flatten.length) (List.take_append_drop (i+1) bs)
       simp only [List.flatten_append,List.length_append] at this
       omega
      rw [z34 hib,List.length_append] at h4
      omega
    ·refine z1w (y:=(((bs.take (i+1)).flatten.length:Nat):Int)) ?_ ?_
     ·refine z3c (us':=[.int .i64 (((bs.take (i+1)).flatten.length:Nat):Int),.int .i64 ((i+1:Nat):Int)]) (by (try simp (disch:=omega) only [w64]);first|rfl|(congr;omega)) ?_
      refine z16 (xs.length-(i+1)) ?_
      refine ⟨i+1,rfl,by omega,rfl,?_,hs⟩
      rw [z34 hib,List.length_append];omega
     ·rw [z34 hib,List.length_append,w64 (by omega) (by omega)];omega
   ·refine zh (zj ?_)
    rw [List.take_of_length_le (by omega)] at hsm ⊢
    exact ⟨hsm,rfl,hs⟩
  clear hs
  rintro _ w ⟨hfit,rfl,hs⟩
  refine zm ?_
  obtain ⟨m,FS,hp,hok,hs⟩:=z1x hs
  have hou:=hok.used
  have hor:=hok.room
  have hfit':=hfit
  unfold DiskA.free at hfit'
  (repeat (first|with_reducible (first|refine zm ?_|refine zk ?_|refine z0k ?_|refine za hs ?_|refine zi hs ?_|refine zd ?_|refine zy hs λ_ hs=>?_|refine zt hs λ_ _ hs=>?_|refine zn hs λ_ _ hs=>?_|refine z07 hs λ_ hs=>?_|refine zv hs λ_ hs=>?_)|(apply wp_must;(focus first|trivial|omega|assumption))|refine z14 ?_|refine wp_lt ?_))
  have hnot:∀ (g:Bool),z1t A.fs n=g->¬ (g=false/\A.fs.length>=128)->(if bs.flatten.length>A.free\/(z1t A.fs n=false/\A.fs.length>=128) then ((5:Int),A) else
    (0,z27 { A with fs:=if z1t A.fs n then A.fs.map (z1k n λf=>{ f with b:=f.b++bs.flatten }) else z3p ⟨n,bs.flatten,0⟩ A.fs })) =
    (0,z27 { A with fs:=if z1t A.fs n then A.fs.map (z1k n λf=>{ f with b:=f.b++bs.flatten }) else z3p ⟨n,bs.flatten,0⟩ A.fs }):=λg hg h=>by
   rw [if_neg]
   rintro (h1|⟨h1,h2⟩)
   ·omega
   ·exact h ⟨by rw [<- hg,h1],h2⟩
  refine zv6 hs (λb hb=>?_) λhb=>?_
  all_goals refine wp_lt ?_
  all_goals refine zg (λv w'=>∃ (t:FileM) (FS':List FileM) (fs1:List FileA),v=(some ⟨t.at_,0,none⟩,())/\t.f.name=n/\fs1.Perm (t.f::FS'.map FileM.f)/\(∀ g ∈ FS'.map FileM.f,g.name≠t.f.name)/\used fs1=used A.fs/\¬ (z1t A.fs n=false/\A.fs.length>=128) /\
    fs1.map (z1k n λf=>{ f with b:=f.b++bs.flatten })=(if z1t A.fs n then A.fs.map (z1k n λf=>{ f with b:=f.b++bs.flatten }) else z3p ⟨n,bs.flatten,0⟩ A.fs) /\
    Sat w' (pt t.at_ (.cells #[t.x.v,.int .i64 t.f.kept] T.a8)::slc T.a48 1 t.x (t.f.b.flatMap zf)::HP.all (FS'.map z36)::pt d (.cells #[.int .i64 A.left,.bool A.gone,.int .i64 A.room,.int .i64 (used A.fs),.map (some m)] T.a7)::z17 ekS evF m ((t::FS').map λt=>(t.f.name,t.at_))::r)) ?_ ?_
  ·obtain ⟨t,ht,rfl,rfl,hA⟩:=z86 hp hb
   have hhas:z1t A.fs t.f.name=true:=z5k.2 ⟨_,hA,rfl⟩
   refine z06 ?_ (by simp)
   obtain ⟨FS',hpm,hs⟩:=z6l hs ht
   obtain ⟨h1,h2,-⟩:=apart hp hok hpm
   refine zj ?_
   refine ⟨t,FS',A.fs,rfl,rfl,h1,h2,rfl,by rw [hhas];simp,by rw [if_pos hhas],?_⟩
   have hs:=(hs.pick [4]).mapPerm (hpm.map λt=>(t.f.name,t.at_))
   exact hs.sub
  rotate_left
  ·have hno:=z6y hp hb
   have hhas:=z5l.2 hno
   refine z0g ?_ (by simp)
   (repeat (first|with_reducible (first|refine zm ?_|refine zk ?_|refine z0k ?_|refine za hs ?_|refine zi hs ?_|refine zd ?_|refine zy hs λ_ hs=>?_|refine zt hs λ_ _ hs=>?_|refine zn hs λ_ _ hs=>?_|refine z07 hs λ_ hs=>?_|refine zv hs λ_ hs=>?_)|(apply wp_must;(focus first|trivial|omega|assumption))|refine z14 ?_|refine wp_lt ?_))
   refine zcs hs ?_
   have hml:(FS.map λt=>(t.f.name,t.at_)).length=A.fs.length:=by rw [List.length_map,<- hp.length_eq,List.length_map]
   rw [hml]
   refine ze (λh3=>?_) λh3=>?_
   ·refine zh ?_
    rw [if_pos (.inr ⟨hhas,by omega⟩)]
    exact ⟨rfl,rfl,z20 m hp hok hs⟩
   refine zn hs λa w' hs=>?_
   (repeat (first|with_reducible (first|refine zm ?_|refine zk ?_|refine z0k ?_|refine za hs ?_|refine zi hs ?_|refine zd ?_|refine zy hs λ_ hs=>?_|refine zt hs λ_ _ hs=>?_|refine zn hs λ_ _ hs=>?_|refine z07 hs λ_ hs=>?_|refine zv hs λ_ hs=>?_)|(apply wp_must;(focus first|trivial|omega|assumption))|refine z14 ?_|refine wp_lt ?_))
   refine zad hs (FS.map λt=>(t.f.name,t.at_)) (.inr ⟨hb,rfl⟩) a λw' hs=>?_
   refine zj ?_
   refine ⟨⟨a,⟨none,0,0⟩,⟨n,[],0⟩⟩,FS,z3p ⟨n,[],0⟩ A.fs,rfl,rfl,(z5o _ _).trans (.cons _ hp.symm),λg hg=>hno g (hp.mem_iff.1 hg),?_,by omega,?_,?_⟩
   ·rw [z3d (z5o _ _),z1d];exact Nat.zero_add _
   ·rw [if_neg (by rw [hhas];simp)]
    exact zjt ⟨n,[],0⟩ (λf=>{ f with b:=f.b++bs.flatten }) rfl hno
   ·exact (hs.slc_nil (T:=T.a48) (sz:=1)).pick [2,0,2,1,0]
  all_goals clear hs
  all_goals rintro _ w ⟨t,FS',fs1,rfl,htn,h1,h2,hus,hno,hfin,hs⟩
  all_goals refine zm ?_
  all_goals rw [hnot _ rfl hno,<- hfin]
  all_goals subst htn
  all_goals refine zg (λ_ w'=>∃ x1:Sl,Sat w' (pt t.at_ (.cells #[x1.v,.int .i64 t.f.kept] T.a8)::slc T.a48 1 x1 ((t.f.b++bs.flatten).flatMap zf)::HP.all (FS'.map z36)::pt d (.cells #[.int .i64 A.left,.bool A.gone,.int .i64 A.room,.int .i64 (used A.fs),.map (some m)] T.a7)::z17 ekS evF m ((t::FS').map λt=>(t.f.name,t.at_))::r)) ?_ ?_
  ·refine z04 (λk v w=>∃ (i:Nat) (x1:Sl),v=((i:Int),())/\i<=xs.length/\xs.length-i=k/\Sat w (pt t.at_ (.cells #[x1.v,.int .i64 t.f.kept] T.a8)::slc T.a48 1 x1 ((t.f.b++(bs.take i).flatten).flatMap zf)::HP.all (FS'.map z36)::pt d (.cells #[.int .i64 A.left,.bool A.gone,.int .i64 A.room,.int .i64 (used A.fs),.map (some m)] T.a7)::z17 ekS evF m ((t::FS').map λt=>(t.f.name,t.at_))::r)) xs.length ⟨0,t.x,rfl,by omega,rfl,by simpa using hs⟩ ?_
   clear hs
   rintro k _ w ⟨i,x1,rfl,hi,hk,hs⟩
   refine zm ?_
   refine ze (λhc=>?_) λhc=>?_
   ·have hil:i<xs.length:=by omega
    have hib:i<bs.length:=by omega
    refine z1v hs i hil ?_
    have hrd:FocR r xs[i] 1 (bs[i].flatMap zf):=⟨hbs.get i hil hib⟩
    have hbi:=hsum _ (List.getElem_mem hib)
    have hsm:(bs.take i).flatten.length<=bs.flatten.length:=by
     have:=congrArg (λl:List (List UInt8)=>l.flatten.length) (List.take_append_drop i bs)
     simp only [List.flatten_append,List.length_append] at this
     omega
    have htb:t.f.b.length<=used fs1:=z7g (h1.mem_iff.2 (List.mem_cons_self ..))
    (repeat (first|with_reducible (first|refine zm ?_|refine zk ?_|refine z0k ?_|refine za hs ?_|refine zi hs ?_|refine zd ?_|refine zy hs λ_ hs=>?_|refine zt hs λ_ _ hs=>?_|refine zn hs λ_ _ hs=>?_|refine z07 hs λ_ hs=>?_|refine zv hs λ_ hs=>?_)|(apply wp_must;(focus first|trivial|omega|assumption))|refine z14 ?_|refine wp_lt ?_))
    refine wp_app' hs (xs:=t.f.b++(bs.take i).flatten) (ys:=bs[i]) (enc:=zf) (λz w' hs=>?_) (by rw [List.length_append];omega)
    (repeat (first|with_reducible (first|refine zm ?_|refine zk ?_|refine z0k ?_|refine za hs ?_|refine zi hs ?_|refine zd ?_|refine zy hs λ_ hs=>?_|refine zt hs λ_ _ hs=>?_|refine zn hs λ_ _ hs=>?_|refine z07 hs λ_ hs=>?_|refine zv hs λ_ hs=>?_)|(apply wp_must;(focus first|trivial|omega|assumption))|refine z14 ?_|refine wp_lt ?_))
    refine z3c (us':=[.int .i64 ((i+1:Nat):Int)]) (by (try simp (disch:=omega) only [w64]);first|rfl|(congr;omega)) ?_
    refine z16 (xs.length-(i+1)) ?_
    refine ⟨i+1,z,rfl,by omega,rfl,?_⟩
    rw [z34 hib,<- List.append_assoc]
    exact hs.sub
   ·refine zh (zj ⟨x1,?_⟩)
    rwa [List.take_of_length_le (l:=bs) (by omega)] at hs
  rotate_left
  ·refine z04 (λk v w=>∃ (i:Nat) (x1:Sl),v=((i:Int),())/\i<=xs.length/\xs.length-i=k/\Sat w (pt t.at_ (.cells #[x1.v,.int .i64 t.f.kept] T.a8)::slc T.a48 1 x1 ((t.f.b++(bs.take i).flatten).flatMap zf)::HP.all (FS'.map z36)::pt d (.cells #[.int .i64 A.left,.bool A.gone,.int .i64 A.room,.int .i64 (used A.fs),.map (some m)] T.a7)::z17 ekS evF m ((t::FS').map λt=>(t.f.name,t.at_))::r)) xs.length ⟨0,t.x,rfl,by omega,rfl,by simpa using hs⟩ ?_
   clear hs
   rintro k _ w ⟨i,x1,rfl,hi,hk,hs⟩
   refine zm ?_
   refine ze (λhc=>?_) λhc=>?_
   ·have hil:i<xs.length:=by omega
    have hib:i<bs.length:=by omega
    refine z1v hs i hil ?_
    have hrd:FocR r xs[i] 1 (bs[i].flatMap zf):=⟨hbs.get i hil hib⟩
    have hbi:=hsum _ (List.getElem_mem hib)
    have hsm:(bs.take i).flatten.length<=bs.flatten.length:=by
     have:=congrArg (λl:List (List UInt8)=>l.flatten.length) (List.take_append_drop i bs)
     simp only [List.flatten_append,List.length_append] at this
     omega
    have htb:t.f.b.length<=used fs1:=z7g (h1.mem_iff.2 (List.mem_cons_self ..))
    (repeat (first|with_reducible (first|refine zm ?_|refine zk ?_|refine z0k ?_|refine za hs ?_|refine zi hs ?_|refine zd ?_|refine zy hs λ_ hs=>?_|refine zt hs λ_ _ hs=>?_|refine zn hs λ_ _ hs=>?_|refine z07 hs λ_ hs=>?_|refine zv hs λ_ hs=>?_)|(apply wp_must;(focus first|trivial|omega|assumption))|refine z14 ?_|refine wp_lt ?_))
    refine wp_app' hs (xs:=t.f.b++(bs.take i).flatten) (ys:=bs[i]) (enc:=zf) (λz w' hs=>?_) (by rw [List.length_append];omega)
    (repeat (first|with_reducible (first|refine zm ?_|refine zk ?_|refine z0k ?_|refine za hs ?_|refine zi hs ?_|refine zd ?_|refine zy hs λ_ hs=>?_|refine zt hs λ_ _ hs=>?_|refine zn hs λ_ _ hs=>?_|refine z07 hs λ_ hs=>?_|refine zv hs λ_ hs=>?_)|(apply wp_must;(focus first|trivial|omega|assumption))|refine z14 ?_|refine wp_lt ?_))
    refine z3c (us':=[.int .i64 ((i+1:Nat):Int)]) (by (try simp (disch:=omega) only [w64]);first|rfl|(congr;omega)) ?_
    refine z16 (xs.length-(i+1)) ?_
    refine ⟨i+1,z,rfl,by omega,rfl,?_⟩
    rw [z34 hib,<- List.append_assoc]
    exact hs.sub
   ·refine zh (zj ⟨x1,?_⟩)
    rwa [List.take_of_length_le (l:=bs) (by omega)] at hs
  all_goals clear hs
  all_goals rintro _ w ⟨x1,hs⟩
  all_goals refine zm ?_
  all_goals have hu3:=zb5 (g:=λf=>{ f with b:=f.b++bs.flatten }) h1 h2
  all_goals have hu4:used fs1=t.f.b.length+used (FS'.map FileM.f):=by rw [z3d h1,z1d]
  all_goals have hu5:used (fs1.map (z1k t.f.name λf=>{ f with b:=f.b++bs.flatten }))=used A.fs+bs.flatten.length:=by (rw [hu3];show (t.f.b++bs.flatten).length+_=_;rw [List.length_append];omega)
  all_goals have ew:IntKind.wrap .i64 (((used A.fs:Nat):Int)+((bs.flatten.length:Nat):Int))=((used (fs1.map (z1k t.f.name λf=>{ f with b:=f.b++bs.flatten })):Nat):Int):=by rw [hu5,w64 (by omega) (by omega)];omega
  all_goals refine zk ?_
  all_goals refine za hs ?_
  all_goals rw [ew]
  all_goals (repeat (first|with_reducible (first|refine zm ?_|refine zk ?_|refine z0k ?_|refine za hs ?_|refine zi hs ?_|refine zd ?_|refine zy hs λ_ hs=>?_|refine zt hs λ_ _ hs=>?_|refine zn hs λ_ _ hs=>?_|refine z07 hs λ_ hs=>?_|refine zv hs λ_ hs=>?_)|(apply wp_must;(focus first|trivial|omega|assumption))|refine z14 ?_|refine wp_lt ?_))
  all_goals have hs:=z5x (FS:=FS') ⟨t.at_,x1,{ t.f with b:=t.f.b++bs.flatten }⟩ hs
  all_goals have hp':(((⟨t.at_,x1,{ t.f with b:=t.f.b++bs.flatten }⟩:FileM)::FS').map FileM.f).Perm (fs1.map (z1k t.f.name λf=>{ f with b:=f.b++bs.flatten })):=(z6b (g:=λf=>{ f with b:=f.b++bs.flatten }) h1 h2).symm
  all_goals have hok':=zex hok hn hfit hno
  all_goals rw [<- hfin] at hok'
  all_goals have hs:Sat _ (z17 ekS evF m (((⟨t.at_,x1,{ t.f with b:=t.f.b++bs.flatten }⟩:FileM)::FS').map λt=>(t.f.name,t.at_))::_):=hs.pick [2]
  all_goals rw [hg] at hs
  all_goals refine z8 (zb2 (l':=r) hg hok' hp' hs) λ_ _ hs=>?_
  all_goals obtain ⟨rfl,hs⟩:=hs
  all_goals refine zb ?_
  all_goals exact ⟨rfl,rfl,hs⟩
end
theorem zb4 {fs:List FileA} {g:FileA->FileA} (hb:∀ f,(g f).b=f.b):used (fs.map g)=used fs:=by
 unfold used
 rw [List.map_map]
 congr 1
 exact List.map_congr_left λf _=>by show (g f).b.length=_;rw [hb]
theorem zp5 {A:DiskA} (hok:okA A) {g:FileA->FileA} (hn:∀ f,(g f).name=f.name) (hb:∀ f,(g f).b=f.b) (hk:∀ f,f.kept<=f.b.length->(g f).kept<=f.b.length):okA { A with fs:=A.fs.map g }:=by
 refine ⟨hok.room,by show used (A.fs.map g)<=_;rw [zb4 hb];exact hok.used,by show (A.fs.map g).length<=_;rw [List.length_map];exact hok.many,hok.left,z8c hn hok.sorted,λf hf=>?_,λf hf=>?_⟩
 ·obtain ⟨f,hf',rfl⟩:=List.mem_map.1 hf
  rw [hb];exact hk f (hok.kept f hf')
 ·obtain ⟨f,hf',rfl⟩:=List.mem_map.1 hf
  rw [hn];exact hok.names f hf'
def z7y (f:FileA):FileA:={ f with kept:=f.b.length }
def z2k (ns:List ByteArray) (f:FileA):FileA:=if ns.any (λm=>decide (m=f.name)) then z7y f else f
theorem zau (ns:List ByteArray) (f:FileA):(z2k ns f).name=f.name:=by unfold z2k;split <;> rfl
theorem zgc (ns:List ByteArray) (f:FileA):(z2k ns f).b=f.b:=by unfold z2k;split <;> rfl
theorem zqs (ns:List ByteArray) (f:FileA) (h:f.kept<=f.b.length):(z2k ns f).kept<=f.b.length:=by
 unfold z2k;split
 ·exact Nat.le_refl _
 ·exact h
theorem zu5:z2k []=id:=by funext f;simp [z2k]
theorem zqt (ns:List ByteArray) (n:ByteArray) (f:FileA):z1k n z7y (z2k ns f)=z2k (ns++[n]) f:=by
 unfold z1k
 rw [zau]
 unfold z2k
 rw [List.any_append]
 by_cases h1:f.name=n
 ·rw [if_pos h1]
  have:(ns.any (λm=>decide (m=f.name)) || [n].any (λm=>decide (m=f.name)))=true:=by simp [h1]
  rw [if_pos this]
  split <;> rfl
 ·rw [if_neg h1]
  have:(ns.any (λm=>decide (m=f.name)) || [n].any (λm=>decide (m=f.name)))=ns.any (λm=>decide (m=f.name)):=by simp [Ne.symm h1]
  rw [this]
theorem zwl (s:ByteArray):Go.Proofs.YtlmaipahgknahaaGreat.preF (ByteArray.mk #[]) s=true:=by
 unfold Go.Proofs.YtlmaipahgknahaaGreat.preF
 rw [show (ByteArray.mk #[]).toList=[] from by rw [ByteArray.toList_eq]]
 rfl
theorem zaw (fs:List FileA):z0w (ByteArray.mk #[]) fs=fs.map (·.name):=List.filter_eq_self.2 λs _=>zwl s
theorem zw0 (fs:List FileA):fs.map (z2k (fs.map (·.name)))=fs.map (z3l []):=by
 refine List.map_congr_left λf hf=>?_
 unfold z2k z3l
 rw [if_pos (show ((fs.map (·.name)).any λm=>decide (m=f.name))=true by simp;exact ⟨f,hf,rfl⟩),if_pos (show zaf [] f.name=true from rfl)]
 rfl
theorem zu6 {ns:List ByteArray} (h:ns≠[]) (fs:List FileA):fs.map (z2k ns)=fs.map (z3l ns):=by
 refine List.map_congr_left λf hf=>?_
 have e:zaf ns f.name=ns.any (λm=>decide (m=f.name)):=by
  unfold zaf
  cases ns with
  | nil=>exact absurd rfl h
  | cons _ _=>rfl
 unfold z2k z3l
 rw [e];rfl
theorem zvp {fs:List FileA} {g:FileA->FileA} (hn:∀ f,(g f).name=f.name) (n:ByteArray):z1t (fs.map g) n=z1t fs n:=by
 unfold z1t
 rw [List.any_map]
 congr 1
 funext f
 show decide ((g f).name=n)=_
 rw [hn]
section
variable {w:World} {l r r0:List HP} {d:Nat} {A:DiskA}
theorem z03m (nx:Sl) (ns:List ByteArray) [hns:FocR r nx 1 (ns.flatMap z21)] (hlen:ns.length<=100000) [hf:Fo l dk d A r] (hs:Sat w l) :
  Ret P F.a37 #[.pointer (some ⟨d,0,none⟩),nx.v] w λvs w'=>vs=[.int .i64 (z1m A ns).1]/\Sat w' (dk d (z1m A ns).2::r) :=
 zs5 _ nx <| by
  delta z04i AA AE AF AI AQ AS AT AY AZ Ad Af Ah Ak Al Am An Ap Az BC BD Bn;unfold z1m
  refine zev hs (λhg w' hs=>?_) λhg w' hs=>?_
  ·rw [if_pos hg];exact ⟨rfl,hs⟩
  rw [if_neg (by rw [hg];simp)]
  have hpl:=hs.slen nx (xs:=ns) (enc:=z21)
  have hok0:okA A:=by obtain ⟨m,FS,hp,hok,hs⟩:=z1x hs;exact hok
  refine zg (λv w'=>ns.all (z1t A.fs)=true/\Sat w' (dk d A::r)) ?_ ?_
  ·refine z04 (λk v w=>∃ i:Nat,v=((i:Int),())/\i<=ns.length/\ns.length-i=k/\(ns.take i).all (z1t A.fs)=true/\Sat w (dk d A::r)) ns.length ⟨0,rfl,by omega,rfl,rfl,hs⟩ ?_
   clear hs
   rintro k _ w ⟨i,rfl,hi,hk,hall,hs⟩
   refine zm ?_
   refine ze (λhc=>?_) λhc=>?_
   ·have hil:i<ns.length:=by omega
    refine z1v hs i hil ?_
    have htk:(ns.take (i+1)).all (z1t A.fs)=z1t A.fs ns[i]:=by
     rw [List.take_add_one,List.getElem?_eq_getElem hil,List.all_append,hall];simp
    obtain ⟨m,FS,hp,hok,hs⟩:=z1x hs
    (repeat (first|with_reducible (first|refine zm ?_|refine zk ?_|refine z0k ?_|refine za hs ?_|refine zi hs ?_|refine zd ?_|refine zy hs λ_ hs=>?_|refine zt hs λ_ _ hs=>?_|refine zn hs λ_ _ hs=>?_|refine z07 hs λ_ hs=>?_|refine zv hs λ_ hs=>?_)|(apply wp_must;(focus first|trivial|omega|assumption))|refine z14 ?_|refine wp_lt ?_))
    refine z6u hs (λb hb=>?_) λhb=>?_
    ·obtain ⟨t,ht,rfl,hnm,hA⟩:=z86 hp hb
     refine z06 ?_ (by simp)
     refine z3c (us':=[.int .i64 ((i+1:Nat):Int)]) (by (try simp (disch:=omega) only [w64]);first|rfl|(congr;omega)) ?_
     refine z16 (ns.length-(i+1)) ?_
     exact ⟨i+1,rfl,by omega,rfl,by rw [htk];exact z5k.2 ⟨_,hA,hnm⟩,z20 m hp hok hs⟩
    ·refine z0g ?_ (by rfl)
     refine zh (zh ?_)
     have:ns.all (z1t A.fs)=false:=by
      rw [<- List.take_append_drop (i+1) ns,List.all_append,htk,z5l.2 (z6y hp hb)];rfl
     rw [if_pos this]
     exact ⟨rfl,rfl,z20 m hp hok hs⟩
   ·refine zh (zj ⟨?_,hs⟩)
    rwa [List.take_of_length_le (by omega)] at hall
  clear hs
  rintro _ w ⟨hall,hs⟩
  refine zm ?_
  rw [if_neg (by rw [hall];simp)]
  refine zg (λv w'=>∃ (nx1:Sl) (ns1:List ByteArray) (r1:List HP),v=(nx1,())/\ns1.length<=100000/\ns1.all (z1t A.fs)=true/\A.fs.map (z2k ns1)=A.fs.map (z3l ns)/\(∃ h:FocR (slc T.a47 1 nx1 (ns1.flatMap z21)::r) nx1 1 (ns1.flatMap z21),True) /\
    (Sat w' (dk d A::r1))/\(r1=r/\(∃ _h:FocR r nx1 1 (ns1.flatMap z21),True)\/r1=slc T.a47 1 nx1 (ns1.flatMap z21)::r)) ?_ ?_
  ·refine ze (λh=>?_) λh=>?_
   ·have hnil:ns=[]:=List.length_eq_zero_iff.1 (by omega)
    subst hnil
    refine z8 (zp2 (ByteArray.mk #[]) hs) λ_ _ hs=>?_
    obtain ⟨x,rfl,hs⟩:=hs
    refine zb ?_
    refine zj ?_
    refine ⟨x,z0w (ByteArray.mk #[]) A.fs,_,rfl,?_,?_,?_,⟨inferInstance,trivial⟩,(hs.pick [1]),.inr rfl⟩
    ·rw [zaw,List.length_map];have:=hok0.many;omega
    ·rw [zaw,List.all_map,List.all_eq_true]
     exact λf hf=>z5k.2 ⟨f,hf,rfl⟩
    ·rw [zaw];exact zw0 A.fs
   ·refine zj ?_
    refine ⟨nx,ns,r,rfl,hlen,hall,zu6 (λe=>by subst e;simp at hpl;omega) A.fs,⟨inferInstance,trivial⟩,hs,.inl ⟨rfl,hns,trivial⟩⟩
  clear hs
  rintro _ w ⟨nx1,ns1,r1,rfl,hlen1,hall1,hmark,-,hs,hr1⟩
  refine zm ?_
  have hR1:FocR r1 nx1 1 (ns1.flatMap z21):=by
   rcases hr1 with ⟨rfl,h,-⟩|rfl
   ·exact h
   ·infer_instance
  have hsub:∀ {H:HP} {w:World},Sat w (H::r1)->Sat w (H::r):=λ{H w} h=>by
   rcases hr1 with ⟨rfl,-⟩|rfl
   ·exact h
   ·exact h.sub
  have hpl1:=hs.slen nx1 (xs:=ns1) (enc:=z21)
  refine zg (λv w'=>Sat w' (dk d { A with fs:=A.fs.map (z2k ns1) }::r1)) ?_ ?_
  ·refine z04 (λk v w=>∃ i:Nat,v=((i:Int),())/\i<=ns1.length/\ns1.length-i=k/\Sat w (dk d { A with fs:=A.fs.map (z2k (ns1.take i)) }::r1)) ns1.length ⟨0,rfl,by omega,rfl,by rw [List.take_zero,zu5,List.map_id];exact hs⟩ ?_
   clear hs
   rintro k _ w ⟨i,rfl,hi,hk,hs⟩
   refine zm ?_
   refine ze (λhc=>?_) λhc=>?_
   ·have hil:i<ns1.length:=by omega
    refine z1v hs i hil ?_
    obtain ⟨m,FS,hp,hok,hs⟩:=z1x hs
    (repeat (first|with_reducible (first|refine zm ?_|refine zk ?_|refine z0k ?_|refine za hs ?_|refine zi hs ?_|refine zd ?_|refine zy hs λ_ hs=>?_|refine zt hs λ_ _ hs=>?_|refine zn hs λ_ _ hs=>?_|refine z07 hs λ_ hs=>?_|refine zv hs λ_ hs=>?_)|(apply wp_must;(focus first|trivial|omega|assumption))|refine z14 ?_|refine wp_lt ?_))
    refine z6u hs (λb hb=>?_) λhb=>?_
    ·obtain ⟨t,ht,rfl,hnm,hA⟩:=z86 hp hb
     obtain ⟨FS',hpm,hs⟩:=z6l hs ht
     obtain ⟨h1,h2,-⟩:=apart hp hok hpm
     (repeat (first|with_reducible (first|refine zm ?_|refine zk ?_|refine z0k ?_|refine za hs ?_|refine zi hs ?_|refine zd ?_|refine zy hs λ_ hs=>?_|refine zt hs λ_ _ hs=>?_|refine zn hs λ_ _ hs=>?_|refine z07 hs λ_ hs=>?_|refine zv hs λ_ hs=>?_)|(apply wp_must;(focus first|trivial|omega|assumption))|refine z14 ?_|refine wp_lt ?_))
     rw [hs.slen t.x (xs:=t.f.b) (enc:=zf)] at hs
     have hs:=z5x (FS:=FS') ⟨t.at_,t.x,z7y t.f⟩ hs
     have hs:Sat _ (z17 ekS evF m (((⟨t.at_,t.x,z7y t.f⟩:FileM)::FS').map λt=>(t.f.name,t.at_))::_):=(hs.pick [2]).mapPerm (hpm.map λt=>(t.f.name,t.at_))
     have hstep:(A.fs.map (z2k (ns1.take i))).map (z1k t.f.name z7y)=A.fs.map (z2k (ns1.take (i+1))):=by
      rw [List.map_map,List.take_add_one,List.getElem?_eq_getElem hil]
      refine List.map_congr_left λf _=>?_
      show z1k t.f.name z7y (z2k _ f)=_
      rw [zqt,hnm];rfl
     have hp':(((⟨t.at_,t.x,z7y t.f⟩:FileM)::FS').map FileM.f).Perm (A.fs.map (z2k (ns1.take (i+1)))):=by
      rw [<- hstep]
      exact (z6b (g:=z7y) h1 h2).symm
     refine z3c (us':=[.int .i64 ((i+1:Nat):Int)]) (by (try simp (disch:=omega) only [w64]);first|rfl|(congr;omega)) ?_
     refine z16 (ns1.length-(i+1)) ?_
     refine ⟨i+1,rfl,by omega,rfl,?_⟩
     exact z20 m (A:={ A with fs:=A.fs.map (z2k (ns1.take (i+1))) }) hp' (zp5 hok0 (zau _) (zgc _) (zqs _)) hs (by rw [zb4 (zgc _),zb4 (zgc _)])
    ·exfalso
     have h3:=z5l.2 (z6y hp hb)
     have h4:z1t A.fs ns1[i]=true:=List.all_eq_true.1 hall1 _ (List.getElem_mem hil)
     rw [zvp (zau _),h4] at h3
     cases h3
   ·refine zh (zj ?_)
    rwa [List.take_of_length_le (by omega)] at hs
  clear hs
  rintro _ w hs
  refine zm ?_
  rw [hmark] at hs
  obtain ⟨m,FS,hp,hok,hs⟩:=z1x (hsub hs)
  have hs:Sat w (pt d (.cells #[.int .i64 A.left,.bool A.gone,.int .i64 A.room,.int .i64 (used (A.fs.map (z3l ns))),.map (some m)] T.a7)::_):=hs
  (repeat (first|with_reducible (first|refine zm ?_|refine zk ?_|refine z0k ?_|refine za hs ?_|refine zi hs ?_|refine zd ?_|refine zy hs λ_ hs=>?_|refine zt hs λ_ _ hs=>?_|refine zn hs λ_ _ hs=>?_|refine z07 hs λ_ hs=>?_|refine zv hs λ_ hs=>?_)|(apply wp_must;(focus first|trivial|omega|assumption))|refine z14 ?_|refine wp_lt ?_))
  rw [hg] at hs
  refine z8 (zb2 (l':=r) (A:=A) hg hok hp hs) λ_ _ hs=>?_
  obtain ⟨rfl,hs⟩:=hs
  refine zb ?_
  exact ⟨rfl,rfl,hs⟩
end
theorem ze8 {a b:List FileA} (h:a.Sublist b):used a<=used b:=by
 induction h with
 | slnil=>exact Nat.le_refl _
 | cons x _ ih=>rw [z1d];omega
 | cons_cons x _ ih=>rw [z1d,z1d];omega
theorem z016 {A:DiskA} (hok:okA A) {fs:List FileA} (h:fs.Sublist A.fs):okA { A with fs:=fs } :=
 ⟨hok.room,Nat.le_trans (ze8 h) hok.used,Nat.le_trans h.length_le hok.many,hok.left,hok.sorted.sublist h,λf hf=>hok.kept f (h.mem hf),λf hf=>hok.names f (h.mem hf)⟩
def z01 (fs:List FileA) (n:ByteArray):Option (List UInt8 × Nat):=(fs.find? λf=>decide (f.name=n)).map λf=>(f.b,f.kept)
theorem zhb (n:ByteArray):z01 [] n=none:=rfl
theorem z28 (f:FileA) (fs:List FileA) (n:ByteArray):z01 (f::fs) n=if f.name=n then some (f.b,f.kept) else z01 fs n:=by
 unfold z01
 rw [List.find?_cons]
 by_cases h:f.name=n
 ·simp [h]
 ·simp [h]
theorem zam {fs:List FileA} {n:ByteArray}:z01 fs n=none↔∀ f ∈ fs,f.name≠n:=by
 unfold z01
 rw [Option.map_eq_none_iff,List.find?_eq_none]
 simp
theorem zbq {fs:List FileA} {f:FileA} (hn:(fs.map (·.name)).Nodup) (h:f ∈ fs):z01 fs f.name=some (f.b,f.kept):=by
 unfold z01
 rw [z9c hn h rfl]
 rfl
theorem zqe {fs:List FileA} {n:ByteArray} {p:List UInt8 × Nat} (h:z01 fs n=some p):(⟨n,p.1,p.2⟩:FileA) ∈ fs:=by
 unfold z01 at h
 rw [Option.map_eq_some_iff] at h
 obtain ⟨f,hf,rfl⟩:=h
 have h1:=List.mem_of_find?_eq_some hf
 have h2:=List.find?_some hf
 have h2:f.name=n:=by simpa using h2
 subst h2
 exact h1
theorem z3y {fs:List FileA} {n:ByteArray}:z1t fs n=(z01 fs n).isSome:=by
 unfold z1t z01
 rw [Option.isSome_map,Bool.eq_iff_iff,List.any_eq_true,List.find?_isSome]
theorem zqp {fs:List FileA} {n:ByteArray} {p:List UInt8 × Nat} (h:z01 fs n=some p):zjv fs n=p.1.length:=by
 unfold z01 at h
 unfold zjv
 cases hf:fs.find? λf=>decide (f.name=n) with
 | none=>rw [hf] at h;cases h
 | some f=>rw [hf] at h;simp only [Option.map_some,Option.some.injEq] at h;subst h;rfl
theorem zbr (n:ByteArray) (g:FileA->FileA) (hg:∀ f,(g f).name=f.name) (m:ByteArray):∀ fs:List FileA,
  z01 (fs.map (z1k n g)) m=if m=n then (z01 fs n).map λp=>((g ⟨n,p.1,p.2⟩).b,(g ⟨n,p.1,p.2⟩).kept) else z01 fs m
 | []=>by simp [zhb]
 | f::fs=>by
  rw [List.map_cons,z28,zbr n g hg m fs,z28,z28,z5t hg]
  by_cases h1:m=n
  ·subst h1
   rw [if_pos rfl,if_pos rfl]
   by_cases h2:f.name=m
   ·rw [if_pos h2,if_pos h2]
    subst h2
    unfold z1k
    rw [if_pos rfl]
    rfl
   ·rw [if_neg h2,if_neg h2]
  ·rw [if_neg h1,if_neg h1]
   by_cases h2:f.name=m
   ·rw [if_pos h2,if_pos h2]
    unfold z1k
    rw [if_neg (by rw [h2];exact h1)]
   ·rw [if_neg h2,if_neg h2]
theorem zha (x:FileA) (m:ByteArray):∀ {fs:List FileA},(∀ f ∈ fs,f.name≠x.name)->z01 (z3p x fs) m=if m=x.name then some (x.b,x.kept) else z01 fs m
 | [],_=>by
  show z01 [x] m=_
  rw [z28]
  by_cases h:m=x.name
  ·rw [if_pos h.symm,if_pos h]
  ·rw [if_neg h,if_neg λe=>h e.symm]
 | f::fs,h=>by
  have hf:=h f (List.mem_cons_self ..)
  have ih:=zha x m (fs:=fs) λg hg=>h g (List.mem_cons_of_mem _ hg)
  unfold z3p
  split
  ·rw [z28]
   by_cases h:m=x.name
   ·rw [if_pos h.symm,if_pos h]
   ·rw [if_neg h,if_neg λe=>h e.symm]
  ·rw [z28,ih,z28]
   by_cases h:m=x.name
   ·subst h;simp [hf]
   ·rw [if_neg h,if_neg h]
theorem zej (n m:ByteArray):∀ fs:List FileA,z01 (z3j n fs) m=if m=n then none else z01 fs m
 | []=>by simp [z3j,zhb]
 | f::fs=>by
  have ih:=zej n m fs
  unfold z3j at ih ⊢
  rw [List.filter_cons]
  by_cases h:f.name=n
  ·rw [if_neg (by simp [h]),ih,z28]
   by_cases h2:m=n
   ·rw [if_pos h2,if_pos h2]
   ·rw [if_neg h2,if_neg h2,if_neg (by rw [h];exact λe=>h2 e.symm)]
  ·rw [if_pos (by simp [h]),z28,ih,z28]
   by_cases h2:m=n
   ·subst h2;simp [h]
   ·rw [if_neg h2,if_neg h2]
theorem zek (ns:List ByteArray) (m:ByteArray):∀ fs:List FileA,z01 (fs.map (z3l ns)) m=(z01 fs m).map λp=>if zaf ns m then (p.1,p.1.length) else p
 | []=>rfl
 | f::fs=>by
  have hn:(z3l ns f).name=f.name:=by unfold z3l;split <;> rfl
  rw [List.map_cons,z28,zek ns m fs,z28,hn]
  by_cases h:f.name=m
  ·subst h
   rw [if_pos rfl,if_pos rfl]
   unfold z3l
   split
   ·rename_i h;simp [h]
   ·rename_i h;simp [h]
  ·rw [if_neg h,if_neg h]
theorem z84 {A:DiskA} {n:ByteArray} {bs:List UInt8} (h:(z08 A n bs).1≠0):(z08 A n bs).2=A:=by
 unfold z08 at h ⊢
 split
 ·rfl
 ·split
  ·rfl
  ·split
   ·rfl
   ·rename_i h1 h2 h3
    rw [if_neg h1,if_neg h2,if_neg h3] at h
    exact absurd rfl h
theorem z9a {A:DiskA} {n:ByteArray} {bs:List UInt8} (hok:okA A) (h:(z08 A n bs).1=0):A.gone=false/\z4t n=true/\bs.length<=A.free/\okA (z08 A n bs).2 /\
  (z08 A n bs).2.room=A.room/\used (z08 A n bs).2.fs=used A.fs+bs.length /\
  ∀ m,z01 (z08 A n bs).2.fs m=if m=n then some (((z01 A.fs n).map Prod.fst).getD []++bs,((z01 A.fs n).map Prod.snd).getD 0) else z01 A.fs m:=by
 unfold z08 at h ⊢
 split at h
 ·cases h
 rename_i h1
 split at h
 ·cases h
 rename_i h2
 split at h
 ·cases h
 rename_i h3
 rw [if_neg h1,if_neg h2,if_neg h3]
 have hn:z4t n=true:=by simpa using h2
 have h4:=zex hok hn (bs:=bs) (by omega) (λhh=>h3 (.inr hh))
 refine ⟨by simpa using h1,hn,by omega,z8t h4,by rw [z85],?_,λm=>?_⟩
 ·rw [z32]
  show used (if z1t A.fs n=true then _ else _)=_
  have hnd:=z2h hok.sorted
  split
  ·rename_i hh
   obtain ⟨f,hf,rfl⟩:=z5k.1 hh
   obtain ⟨s,u,hsu⟩:=List.append_of_mem hf
   have hp:A.fs.Perm (f::(s++u)):=by rw [hsu];exact List.perm_middle
   have hne:∀ g ∈ s++u,g.name≠f.name:=λg hg e=>by
    have h5:=(hp.map (·.name)).nodup_iff.1 hnd
    rw [List.map_cons,List.nodup_cons] at h5
    exact h5.1 (List.mem_map.2 ⟨g,hg,e⟩)
   rw [zb5 hp hne,z3d hp,z1d,List.length_append]
   omega
  ·rw [z3d (z5o _ _),z1d]
   show bs.length+_=_
   omega
 ·rw [z32]
  show z01 (if z1t A.fs n=true then _ else _) m=_
  split
  ·rename_i hh
   rw [zbr n (λf=>{ f with b:=f.b++bs }) (λf=>rfl)]
   by_cases hm:m=n
   ·rw [if_pos hm,if_pos hm]
    rw [z3y] at hh
    obtain ⟨p,hp⟩:=Option.isSome_iff_exists.1 hh
    rw [hp]
    rfl
   ·rw [if_neg hm,if_neg hm]
  ·rename_i hh
   have hh:z1t A.fs n=false:=by simpa using hh
   rw [zha _ _ (z5l.1 hh)]
   by_cases hm:m=n
   ·rw [if_pos hm,if_pos hm,zam.2 (z5l.1 hh)]
    rfl
   ·rw [if_neg hm,if_neg hm]
theorem ze5 {A:DiskA} {n:ByteArray}:((z1m A [n]).1=0/\A.gone=false/\(z01 A.fs n).isSome=true/\(z1m A [n]).2=z27 { A with fs:=A.fs.map (z3l [n]) })\/((z1m A [n]).1=9/\A.gone=true/\(z1m A [n]).2=A)\/((z1m A [n]).1=3/\A.gone=false/\z01 A.fs n=none/\(z1m A [n]).2=A):=by
 unfold z1m
 split
 ·exact .inr (.inl ⟨rfl,by assumption,rfl⟩)
 ·rename_i h
  have hg:A.gone=false:=by simpa using h
  split
  ·rename_i h2
   refine .inr (.inr ⟨rfl,hg,?_,rfl⟩)
   simp only [List.all_cons,List.all_nil,Bool.and_true] at h2
   rw [z3y] at h2
   cases hq:z01 A.fs n with
   | none=>rfl
   | some q=>rw [hq] at h2;cases h2
  ·rename_i h2
   refine .inl ⟨rfl,hg,?_,rfl⟩
   simp only [List.all_cons,List.all_nil,Bool.and_true] at h2
   rw [z3y] at h2
   cases hq:z01 A.fs n with
   | none=>rw [hq] at h2;exact absurd rfl h2
   | some q=>rfl
theorem zw8 {A:DiskA} (hok:okA A) (ns:List ByteArray):okA { A with fs:=A.fs.map (z3l ns) } :=
 zp5 hok (λf=>by unfold z3l;split <;> rfl) (λf=>by unfold z3l;split <;> rfl) (λf h=>by unfold z3l;split;exact Nat.le_refl _;exact h)
theorem zt9 (n m:ByteArray):zaf [n] m=decide (n=m):=by
 unfold zaf
 simp
theorem zpm {A:DiskA} {n:ByteArray} (hok:okA A) (h:(z1m A [n]).1=0):A.gone=false/\okA (z1m A [n]).2/\(z1m A [n]).2.room=A.room/\used (z1m A [n]).2.fs=used A.fs/\(z1m A [n]).2.fs.length=A.fs.length /\
  ∀ m,z01 (z1m A [n]).2.fs m=(z01 A.fs m).map λp=>if n=m then (p.1,p.1.length) else p:=by
 rcases ze5 (A:=A) (n:=n) with ⟨h1,h2,h3,h4⟩|⟨h1,-,-⟩|⟨h1,-,-,-⟩
 ·rw [h4]
  refine ⟨h2,z8t (zw8 hok _),by rw [z85],?_,?_,λm=>?_⟩
  ·rw [z32]
   exact zb4 λf=>by unfold z3l;split <;> rfl
  ·rw [z32]
   exact List.length_map ..
  ·rw [z32]
   show z01 (A.fs.map (z3l [n])) m=_
   rw [zek]
   congr 1
   funext p
   rw [zt9]
   by_cases hm:n=m <;> simp [hm]
 ·rw [h1] at h;cases h
 ·rw [h1] at h;cases h
theorem z03d {A:DiskA} {n:ByteArray} (hok:okA A) (h:(z0x A n).1=0):A.gone=false/\okA (z0x A n).2/\(z0x A n).2.room=A.room/\used (z0x A n).2.fs<=used A.fs/\(z0x A n).2.fs.length<=A.fs.length/\(z01 A.fs n).isSome=true /\
  ∀ m,z01 (z0x A n).2.fs m=if m=n then none else z01 A.fs m:=by
 unfold z0x at h ⊢
 split at h
 ·cases h
 rename_i h1
 split at h
 ·cases h
 rename_i h2
 rw [if_neg h1,if_neg h2]
 refine ⟨by simpa using h1,z8t (z016 hok (List.filter_sublist ..)),by rw [z85],?_,?_,?_,λm=>?_⟩
 ·rw [z32];exact ze8 (List.filter_sublist ..)
 ·rw [z32];exact ztk _ _
 ·rw [<- z3y];simpa using h2
 ·rw [z32];exact zej n m A.fs
theorem zur {A:DiskA} {n:ByteArray} (hf:(z01 A.fs n).isSome=true):((z0x A n).1=0/\A.gone=false)\/((z0x A n).1=9/\A.gone=true/\(z0x A n).2=A):=by
 unfold z0x
 split
 ·exact .inr ⟨rfl,by assumption,rfl⟩
 ·rename_i h
  rw [if_neg (by rw [z3y,hf];simp)]
  exact .inl ⟨rfl,by simpa using h⟩
theorem z02d {A:DiskA} {n:ByteArray} {k:Int} (hok:okA A) (h:(cutA' A n k).1=0):A.gone=false/\okA (cutA' A n k).2/\(cutA' A n k).2.room=A.room/\(cutA' A n k).2.fs.length=A.fs.length /\
  ∀ m,z01 (cutA' A n k).2.fs m=if m=n then (z01 A.fs n).map (λp=>(p.1.take k.toNat,min p.2 k.toNat)) else z01 A.fs m:=by
 unfold cutA' at h ⊢
 split at h
 ·cases h
 rename_i h1
 split at h
 ·cases h
 rename_i h2
 split at h
 ·cases h
 rename_i h3
 rw [if_neg h1,if_neg h2,if_neg h3]
 have hnd:=z2h hok.sorted
 have hup:okA { A with fs:=A.fs.map (z1k n λf=>{ f with b:=f.b.take k.toNat,kept:=min f.kept k.toNat }) }:=by
  refine ⟨hok.room,?_,?_,hok.left,z8c (λf=>z5t (g:=λf=>{ f with b:=f.b.take k.toNat,kept:=min f.kept k.toNat }) (λ_=>rfl) f) hok.sorted,λf hf=>?_,λf hf=>?_⟩
  ·refine Nat.le_trans ?_ hok.used
   show used (A.fs.map _)<=used A.fs
   generalize A.fs=fs
   induction fs with
   | nil=>exact Nat.le_refl _
   | cons f fs ih =>
    rw [List.map_cons,z1d,z1d]
    have:(z1k n (λf=>{ f with b:=f.b.take k.toNat,kept:=min f.kept k.toNat }) f).b.length<=f.b.length:=by
     unfold z1k
     split
     ·show (f.b.take _).length<=_;rw [List.length_take];omega
     ·exact Nat.le_refl _
    omega
  ·show (A.fs.map _).length<=_;rw [List.length_map];exact hok.many
  ·obtain ⟨g,hg,rfl⟩:=List.mem_map.1 hf
   have:=hok.kept g hg
   unfold z1k
   split
   ·show min g.kept _<=(g.b.take _).length;rw [List.length_take];omega
   ·exact this
  ·obtain ⟨g,hg,rfl⟩:=List.mem_map.1 hf
   rw [z5t (g:=λf=>{ f with b:=f.b.take k.toNat,kept:=min f.kept k.toNat }) (λ_=>rfl)]
   exact hok.names g hg
 refine ⟨by simpa using h1,z8t hup,by rw [z85],by rw [z32];exact List.length_map ..,λm=>?_⟩
 rw [z32]
 show z01 (A.fs.map _) m=_
 rw [zbr n (λf=>{ f with b:=f.b.take k.toNat,kept:=min f.kept k.toNat }) (λf=>rfl)]
theorem zti {A:DiskA} {n:ByteArray} {k:Int} {p:List UInt8 × Nat} (hf:z01 A.fs n=some p) (hk:0<=k/\k<=p.1.length):((cutA' A n k).1=0/\A.gone=false)\/((cutA' A n k).1=9/\A.gone=true/\(cutA' A n k).2=A):=by
 unfold cutA'
 split
 ·exact .inr ⟨rfl,by assumption,rfl⟩
 ·rename_i h
  rw [if_neg (by rw [z3y,hf];simp),if_neg (by rw [zqp hf];omega)]
  exact .inl ⟨rfl,by simpa using h⟩
def z3n (e:EntA):List Value:=[.int .i64 e.offset,.int .i64 e.place,.int .i64 e.before]
instance:EncA z3n [.int .i64,.int .i64,.int .i64] (λe=>(e.offset,e.place,e.before,())):=⟨λ_=>rfl⟩
instance:EncN z3n 3:=⟨λ_=>rfl,by decide,by simp [z3n,Value.oneCell']⟩
instance:EncF z3n 0 (.int .i64) (λe=>e.offset):=⟨λ_=>rfl⟩
instance:EncF z3n 1 (.int .i64) (λe=>e.place):=⟨λ_=>rfl⟩
instance:EncF z3n 2 (.int .i64) (λe=>e.before):=⟨λ_=>rfl⟩
structure okX (X:IdxA):Prop where
 gap:1<=X.gap/\X.gap<=4194304
 place : -1<=X.place/\X.place<=4194304
 ent:∀ e ∈ X.l,0<=e.place/\e.place<=X.place
 len:(X.l.length:Int)<=X.place+1
def z26 (b:Nat) (X:IdxA):HP:=HP.ex λz:Sl=>HP.and (okX X) (HP.star (pt b (.cells #[.int .i64 X.offset,.int .i64 X.place,.int .i64 X.late,.int .i64 X.gap,.slice z.a z.len z.cap] T.a10)) (slc T.a9 3 z (X.l.flatMap z3n)))
section
variable {w:World} {l r:List HP} {b:Nat} {X:IdxA}
theorem zds (hs:Sat w (z26 b X::l)):∃ z:Sl,okX X/\Sat w (pt b (.cells #[.int .i64 X.offset,.int .i64 X.place,.int .i64 X.late,.int .i64 X.gap,.slice z.a z.len z.cap] T.a10)::slc T.a9 3 z (X.l.flatMap z3n)::l):=by
 obtain ⟨z,hs⟩:=hs.ex
 obtain ⟨h,hs⟩:=hs.and
 exact ⟨z,h,hs.star⟩
theorem z7r (X:IdxA) {z:Sl} (h:okX X) (hs:Sat w (pt b (.cells #[.int .i64 X.offset,.int .i64 X.place,.int .i64 X.late,.int .i64 X.gap,.slice z.a z.len z.cap] T.a10)::slc T.a9 3 z (X.l.flatMap z3n)::l)):Sat w (z26 b X::l) :=
 .ex_mk z (.and_mk h (.star_mk hs))
theorem z06h {gap:Int} (h:1<=gap/\gap<=4194304):okX (zc1 gap):=⟨h,by show -1<=(-1:Int)/\(-1:Int)<=4194304;omega,(λ_ h=>by cases h),by show (0:Int) <= -1+1;omega⟩
theorem z02s (gap:Int) (h:1<=gap/\gap<=4194304) (hs:Sat w l):Ret P F.a55 #[.int .i64 gap] w λvs w'=>∃ b,vs=[.pointer (some ⟨b,0,none⟩),.int .i64 0]/\Sat w' (z26 b (zc1 gap)::l) :=
 zso gap <| by
  delta z051 Ab Ad Ah Ak Ap Ax
  refine z06 ?_
  refine zn hs λa w' hs=>?_
  refine ⟨rfl,a,rfl,?_⟩
  have h0:Sat w' (slc T.a9 3 ⟨none,0,0⟩ ((zc1 gap).l.flatMap z3n)::_):=hs.slc_nil
  exact z7r (zc1 gap) (z:=⟨none,0,0⟩) (z06h h) (h0.pick [1])
theorem z02r (o p t:Int) (hs:Sat w l):Ret P F.a56 #[.int .i64 o,.int .i64 p,.int .i64 t] w λvs w'=>vs=[.bool (decide (zav o p t))]/\Sat w' l :=
 zsp o p t <| by
  delta z052 Ag Ap
  refine wp_lt ?_
  refine ⟨rfl,?_,hs⟩
  congr 2
  rw [Bool.eq_iff_iff,decide_eq_true_iff (p:=zav o p t)]
  unfold zav
  simp only [Bool.and_eq_true,decide_eq_true_eq]
  constructor
  ·rintro ⟨⟨⟨⟨⟨h1,h2⟩,h3⟩,h4⟩,h5⟩,h6⟩
   exact ⟨⟨h1,h2⟩,⟨h3,h4⟩,h5,h6⟩
  ·rintro ⟨⟨h1,h2⟩,⟨h3,h4⟩,h5,h6⟩
   exact ⟨⟨⟨⟨⟨h1,h2⟩,h3⟩,h4⟩,h5⟩,h6⟩
theorem zwb {X:IdxA} (h:okX X) {o p t:Int} (hm:zav o p t) (h2:¬ (o<=X.offset\/p<=X.place)):okX ⟨o,p,max X.late t,X.gap,z42 X o p⟩:=by
 obtain ⟨h3,h4,h5,h6⟩:=h
 obtain ⟨-,hp,-⟩:=hm
 refine ⟨h3,by show -1<=p/\p<=4194304;omega,λe he=>?_,?_⟩
 ·show 0<=e.place/\e.place<=p
  have he:e ∈ z42 X o p:=he
  unfold z42 at he
  split at he
  ·rcases List.mem_append.1 he with he|he
   ·have:=h5 e he;omega
   ·simp at he;subst he;simp only;omega
  ·have:=h5 e he;omega
 ·show ((z42 X o p).length:Int)<=p+1
  unfold z42
  split
  ·rw [List.length_append];simp only [List.length_cons,List.length_nil];omega
  ·omega
theorem z034 (o p t:Int) (ho : -9223372036854775808<=o/\o<9223372036854775808) (hp : -9223372036854775808<=p/\p<9223372036854775808) [hf:Fo l z26 b X r] (hs:Sat w l) :
  Ret P F.a53 #[.pointer (some ⟨b,0,none⟩),.int .i64 o,.int .i64 p,.int .i64 t] w λvs w'=>vs=[.int .i64 (z9g X o p t).1]/\Sat w' (z26 b (z9g X o p t).2::r) :=
 zsm _ o p t <| by
  delta z04z AF AH AI AL AN AO AQ AR AS AT Af Ah Ak Al Ao Ap Aq Ar As Az BA
  have hs:=hs.perm hf.perm
  refine wp_lt ?_
  refine z06 ?_ (by simp)
  refine z8 (z02r o p t hs) λ_ w' hs=>?_
  obtain ⟨rfl,hs⟩:=hs
  refine zb ?_
  refine wp_lt ?_
  unfold z9g
  refine ze (λh=>?_) λh=>?_
  ·have h:¬ zav o p t:=by simpa using h
   rw [if_pos h]
   exact ⟨rfl,rfl,hs⟩
  have h:zav o p t:=by simpa using h
  rw [if_neg (λhh=>hh h)]
  obtain ⟨z,hok,hs⟩:=zds hs
  have hl:=hs.slen z (xs:=X.l) (enc:=z3n)
  refine zk ?_
  refine za hs ?_
  refine z0k ?_
  refine za hs ?_
  refine wp_lt ?_
  refine ze (λh2=>?_) λh2=>?_
  ·rw [if_pos h2]
   exact ⟨rfl,rfl,z7r X hok hs⟩
  rw [if_neg h2]
  have hok2:=zwb hok h h2
  have hlen:=hok.len
  have hpl:=hok.place
  refine zk ?_
  refine za hs ?_
  refine wp_lt ?_
  refine zy hs λw' hs=>?_
  refine z0k ?_
  refine za hs ?_
  have hgl:∀ (h0:X.l≠[]),X.l.getLast? = some (X.l[X.l.length-1]'(by have:=List.length_pos_iff.2 h0;omega)):=λh0=>by
   have:=List.length_pos_iff.2 h0
   rw [List.getLast?_eq_getElem?,List.getElem?_eq_getElem (by omega)]
  refine zxd (xs:=X.l) (enc:=z3n) hs (match X.l.getLast? with|none=>0|some e=>e.place) (λhg=>?_) ?_
  ·have h0:X.l≠[]:=by
    rintro h0
    rw [h0] at hl
    rw [hl] at hg
    cases hg
   have:=List.length_pos_iff.2 h0
   refine ⟨X.l.length-1,by omega,?_,?_⟩
   ·rw [w64 (by omega) (by omega)];omega
   ·rw [hgl h0]
  refine z0k ?_
  refine za hs ?_
  refine zd ?_
  refine zg (λ_ w'=>∃ z':Sl,Sat w' (pt b (.cells #[.int .i64 X.offset,.int .i64 X.place,.int .i64 X.late,.int .i64 X.gap,.slice z'.a z'.len z'.cap] T.a10)::slc T.a9 3 z' ((z42 X o p).flatMap z3n)::r)) ?_ ?_
  ·have hnew:zw3 X p=true↔(((z.len:Nat):Int)=0\/IntKind.wrap .i64 (p-match X.l.getLast? with|none=>0|some e=>e.place)>=X.gap):=by
    unfold zw3
    by_cases h0:X.l=[]
    ·rw [h0]
     simp only [List.getLast?_nil,true_iff]
     left
     rw [hl,h0];rfl
    ·rw [hgl h0]
     have hlp:=List.length_pos_iff.2 h0
     have hb:=hok.ent _ (List.getElem_mem (show X.l.length-1<X.l.length by omega))
     simp only [decide_eq_true_eq]
     rw [w64 (by omega) (by omega)]
     omega
   unfold z42
   refine ze (λh3=>?_) λh3=>?_
   ·rw [if_pos (hnew.2 h3)]
    refine zg (λq w'=>∃ z':Sl,q=(z',())/\Sat w' (slc T.a9 3 z' ((X.l++[(⟨o,p,X.late⟩:EntA)]).flatMap z3n)::pt b (.cells #[.int .i64 X.offset,.int .i64 X.place,.int .i64 X.late,.int .i64 X.gap,.slice z.a z.len z.cap] T.a10)::r)) ?_ ?_
    ·refine zy hs λw' hs=>?_
     refine zk ?_
     refine z18 hs ?_
     refine zk ?_
     refine za hs ?_
     refine z7i hs (enc:=z3n) [(⟨o,p,X.late⟩:EntA)] λy w' hs=>⟨(by first|trivial|(repeat (first|exact trivial|exact λ_=>z09 hs|exact λ_=>z0q hs|refine And.intro ?_ ?_))),?_⟩
     refine zd ?_
     refine wp_app' (xs:=X.l) (ys:=[(⟨o,p,X.late⟩:EntA)]) (enc:=z3n) hs (λz' w' hs=>?_) (by simp only [List.length_cons,List.length_nil];omega)
     refine zd ?_
     exact zj ⟨z',rfl,hs.sub⟩
    ·rintro _ w2 ⟨z',rfl,hs⟩
     refine zk ?_
     refine z07 hs λw' hs=>?_
     exact zj ⟨z',hs.sub⟩
   ·rw [if_neg λhh=>h3 (hnew.1 hh)]
    exact zj ⟨z,hs⟩
  rintro _ w2 ⟨z',hs⟩
  refine zk ?_
  refine za hs ?_
  refine zk ?_
  have e:(if t>X.late then t else X.late)=max X.late t:=by split <;> omega
  rw [e]
  have hA:(Addr.add ⟨b,0,none⟩ 0)=⟨b,0,none⟩:=rfl
  rw [hA]
  refine z03z hs (by rfl) (by rfl) (by simp [Value.oneCell']) λw' hs=>⟨trivial,?_⟩
  refine ⟨rfl,rfl,?_⟩
  exact z7r ⟨o,p,max X.late t,X.gap,z42 X o p⟩ (z:=z') hok2 hs
theorem z00i (i:Int) (hi:i<X.l.length) [hf:Fo l z26 b X r] (hs:Sat w l) :
  Ret P F.a54 #[.pointer (some ⟨b,0,none⟩),.int .i64 i] w λvs w'=>vs=[.agg (z3n (if i<0 then ⟨0,0,0⟩ else X.l.getD i.toNat ⟨0,0,0⟩)).toArray,.bool (decide (0<=i))]/\Sat w' (z26 b X::r) :=
 zsn _ i <| by
  delta z050 AC AD AI AS Ak Al Ap Aq Ce
  have hs:=hs.perm hf.perm
  refine zt hs λa w' hs=>?_
  refine ze (λh=>?_) λh=>?_
  ·refine zv hs λw' hs=>?_
   refine zi hs ?_
   rw [if_pos h]
   refine ⟨rfl,?_,hs.tail⟩
   rw [decide_eq_false (by omega)]
   rfl
  ·refine zk ?_
   obtain ⟨z,hok,hs⟩:=zds (hs.pick [1])
   refine za hs ?_
   refine z68 hs (xs:=X.l) (enc:=z3n) i.toNat (by omega) ?_
   refine zv hs λw' hs=>?_
   refine zi hs ?_
   rw [if_neg h]
   refine ⟨rfl,?_,z7r X (z:=z) hok hs.sub⟩
   rw [decide_eq_true (by omega),List.getD_eq_getElem?_getD,List.getElem?_eq_getElem (by omega)]
   rfl
theorem zkr (n : Nat) (hn : n < 4611686018427387904) (f : FuncId) (cap : Array Value) (p : Nat → Bool) (hok : (P.funcs[f]?).any (fun fn => fn.body.isSome && fn.name != "runtime.NumGoroutine") = true)
  (hp:∀ (i:Nat) (w:World),i<n->Sat w l->Ret P f (#[.int .i64 (i:Int)]++cap) w λvs w'=>vs=[.bool (p i)]/\Sat w' l) (hs:Sat w l) :
  Ret P F.a215 #[.int .i64 (n:Int),.func (.func f) #[] cap] w λvs w'=>∃ i:Nat,i<=n/\(0<i->p (i-1)=false)/\(i<n->p i=true)/\vs=[.int .i64 (i:Int)]/\Sat w' l :=
 znq _ _ <| by
  delta zzr AF Af Ah Ak Ap BI Bf Bg Br
  refine wp_lt ?_
  refine zg (λq w'=>∃ i:Nat,i<=n/\(0<i->p (i-1)=false)/\(i<n->p i=true)/\q=((i:Int),())/\Sat w' l) ?_ ?_
  rotate_left
  ·rintro _ w' ⟨i,h1,h2,h3,rfl,hs⟩
   refine wp_lt ?_
   exact ⟨rfl,i,h1,h2,h3,rfl,hs⟩
  refine z04 (λm v w=>∃ i j:Nat,v=((i:Int),((j:Int),()))/\i<=j/\j<=n/\j-i=m/\(0<i->p (i-1)=false)/\(j<n->p j=true)/\Sat w l) n ⟨0,n,rfl,by omega,by omega,rfl,(λh=>by omega),(λh=>by omega),hs⟩ ?_
  clear hs
  rintro m _ w ⟨i,j,rfl,hij,hjn,hm,h1,h2,hs⟩
  refine zm ?_
  refine ze (λhc=>?_) λhc=>?_
  rotate_left
  ·have:i=j:=by omega
   subst this
   exact zh (zj ⟨i,hjn,h1,h2,rfl,hs⟩)
  have hc:i<j:=by omega
  have e:IntKind.wrap .i64 (Int.fdiv (IntKind.wrap .u64 (IntKind.wrap .i64 ((i:Int)+j))) 2)=(((i+j) / 2:Nat):Int):=by
   rw [w64 (x:=(i:Int)+j) (by omega) (by omega),zla (by omega) (by omega)]
   have:Int.fdiv ((i:Int)+j) 2=(((i+j) / 2:Nat):Int):=by
    rw [Int.fdiv_eq_ediv_of_nonneg _ (by omega)]
    omega
   rw [this,w64 (by omega) (by omega)]
  refine z1w (y:=(((i+j) / 2:Nat):Int)) ?_ e
  refine zv4 hok (p ((i+j) / 2),()) (hp ((i+j) / 2) w (by omega) hs) rfl λw' hs=>⟨trivial,?_⟩
  refine zm ?_
  refine z56 ?_
  refine ze (λh3=>?_) λh3=>?_
  ·have h3:p ((i+j) / 2)=false:=by simpa using h3
   refine z1w (y:=(((i+j) / 2+1:Nat):Int)) ?_ (by rw [w64 (by omega) (by omega)];omega)
   refine z4f ?_
   refine z16 (j-((i+j) / 2+1)) ⟨(i+j) / 2+1,j,rfl,by omega,hjn,rfl,λ_=>by rw [Nat.add_sub_cancel];exact h3,h2,hs⟩
  ·have h3:p ((i+j) / 2)=true:=by simpa using h3
   refine wp_lt ?_
   refine z4f ?_
   refine z16 ((i+j) / 2-i) ⟨i,(i+j) / 2,rfl,by omega,by omega,rfl,h1,λ_=>h3,hs⟩
theorem z00m (i:Nat) (a0 a1:Nat) (o:Int) {r1 r2:List HP} {z:Sl} (hi:i<X.l.length) [h0:FocB l a0 (.cells [.pointer (some ⟨b,0,none⟩)].toArray T.a26) r1] [h1:FocB l a1 (.cells [.int .i64 o].toArray T.a13) r2]
  [h2:FocB l b (.cells [.int .i64 X.offset,.int .i64 X.place,.int .i64 X.late,.int .i64 X.gap,.slice z.a z.len z.cap].toArray T.a10) r] [h3:FocR l z 3 (X.l.flatMap z3n)] (hs:Sat w l) :
  Ret P F.a52 #[.int .i64 (i:Int),.pointer (some ⟨a0,0,none⟩),.pointer (some ⟨a1,0,none⟩)] w λvs w'=>vs=[.bool (decide (X.l[i].offset>o))]/\Sat w' l :=
 zsl _ _ _ <| by
  delta z04y AI AL AN AS Ad Ag Al Ap Ar BD Cb
  refine zy hs λw' hs=>?_
  refine za hs ?_
  refine zk ?_
  refine za hs ?_
  refine z03w hs (xs:=X.l) (enc:=z3n) i hi ?_
  refine za hs ?_
  refine wp_lt ?_
  refine zd ?_
  exact ⟨rfl,rfl,hs⟩
def orE (o:Option EntA):EntA:=o.getD ⟨0,0,0⟩
theorem ztj {l:List EntA} {i:Nat} (hi:i<=l.length):(if ((i:Int)-1)<0 then (⟨0,0,0⟩:EntA) else l.getD ((i:Int)-1).toNat ⟨0,0,0⟩)=orE (l.take i).getLast? /\ decide (0<=(i:Int)-1)=(l.take i).getLast?.isSome:=by
 rw [zv0 hi]
 by_cases h:i=0
 ·subst h;exact ⟨rfl,rfl⟩
 ·rw [if_neg h,if_neg (by omega),List.getD_eq_getElem?_getD,show ((i:Int)-1).toNat=i-1 by omega,List.getElem?_eq_getElem (by omega)]
  exact ⟨rfl,decide_eq_true (by omega)⟩
theorem z02h (o:Int) (hm:X.l.Pairwise λa b=>a.offset<b.offset) [hf:Fo l z26 b X r] (hs:Sat w l) :
  Ret P F.a51 #[.pointer (some ⟨b,0,none⟩),.int .i64 o] w λvs w'=>vs=[.agg (z3n (orE (z2r X.l o))).toArray,.bool (z2r X.l o).isSome]/\Sat w' (z26 b X::r) :=
 zsk _ o <| by
  delta z04x AC AD AF AI AL AN AS Ab Ad Ag Ah Aj Ak Al Am Ap Aq Ax BX Ce
  have hs:=hs.perm hf.perm
  refine zn hs λa0 w' hs=>?_
  refine zn hs λa1 w' hs=>?_
  refine zt hs λa2 w' hs=>?_
  refine za hs ?_
  refine z06 ?_ (by simp)
  refine zg (λq w'=>q=((z2r X.l o).isSome,())/\Sat w' (pt a2 (.cells [.int .i64 (orE (z2r X.l o)).offset,.int .i64 (orE (z2r X.l o)).place,.int .i64 (orE (z2r X.l o)).before].toArray T.a9)::z26 b X::r)) ?_ ?_
  rotate_left
  ·rintro _ w2 ⟨rfl,hs⟩
   refine zi hs ?_
   exact ⟨rfl,rfl,hs.tail⟩
  obtain ⟨z,hok,hs⟩:=zds (hs.pick [3])
  have hl:=hs.slen z (xs:=X.l) (enc:=z3n)
  have hlen:=hok.len
  have hpl:=hok.place
  refine zy hs λw' hs=>?_
  refine z18 hs ?_
  refine za hs ?_
  refine zk ?_
  refine za hs ?_
  rw [hl]
  refine z8 (zkr X.l.length (by omega) F.a52 #[.pointer (some ⟨a0,0,none⟩),.pointer (some ⟨a1,0,none⟩)] (λi=>decide ((X.l.getD i ⟨0,0,0⟩).offset>o)) (by kernel_rfl) (λi w hi hs=>?_) hs) λ_ w' hs=>?_
  ·have e:X.l.getD i ⟨0,0,0⟩=X.l[i]:=by rw [List.getD_eq_getElem?_getD,List.getElem?_eq_getElem hi];rfl
   simp only [e]
   exact z00m (X:=X) i a0 a1 o hi hs
  obtain ⟨i,hi,h1,h2,rfl,hs⟩:=hs
  refine zb ?_ (by first|trivial|(repeat (first|exact trivial|exact λ_=>z09 hs|exact λ_=>z0q hs|refine And.intro ?_ ?_)))
  refine zd ?_
  rw [w64 (by omega) (by omega)]
  replace hs:Sat _ (z26 b X::pt a2 (.cells [.int .i64 0,.int .i64 0,.int .i64 0].toArray T.a9)::pt a0 (.cells [.pointer (some ⟨b,0,none⟩)].toArray T.a26)::r):=z7r X (z:=z) hok hs.sub
  refine z8 (z00i (b:=b) ((i:Int)-1) (by omega) hs) λ_ w' hs=>?_
  obtain ⟨rfl,hs⟩:=hs
  have hcut:z2r X.l o=(X.l.take i).getLast? := by
   unfold z2r
   rw [zra hi (hm.imp λ{a b} hab=>by simp only [decide_eq_true_eq];omega)]
   ·intro h h0
    have:=h1 h0
    rw [List.getD_eq_getElem?_getD,List.getElem?_eq_getElem h] at this
    have:decide (X.l[i-1].offset>o)=false:=this
    simpa using this
   ·intro h
    have:=h2 h
    rw [List.getD_eq_getElem?_getD,List.getElem?_eq_getElem h] at this
    have:decide (X.l[i].offset>o)=true:=this
    simpa using this
  obtain ⟨c1_,c2_⟩:=ztj (l:=X.l) hi
  rw [c1_,c2_,<- hcut]
  refine ⟨((orE (z2r X.l o)).offset,(orE (z2r X.l o)).place,(orE (z2r X.l o)).before,(z2r X.l o).isSome,()),rfl,(by first|trivial|(repeat (first|exact trivial|exact λ_=>z09 hs|exact λ_=>z0q hs|refine And.intro ?_ ?_))),zy5 _ _ _ _ ?_⟩
  refine zv hs λw' hs=>?_
  refine wp_lt ?_
  refine zd ?_
  exact zj ⟨rfl,hs.sub⟩
end
structure SegM where
 ix:Nat
 s:SegA
structure LogM where
 d:Nat
 pre:ByteArray
 seg:Int
 gap:Int
 z:Sl
 SM:List (Nat × SegM)
structure LogA where
 d:Nat
 pre:ByteArray
 seg:Int
 gap:Int
 l:List SegA
def LogM.l (M:LogM):List SegA:=M.SM.map λt=>t.2.s
def LogM.A (M:LogM):LogA:=⟨M.d,M.pre,M.seg,M.gap,M.l⟩
def z1j (b:Nat):List Value:=[.pointer (some ⟨b,0,none⟩)]
instance:Enc1 z1j .ptr (λb=>some ⟨b,0,none⟩):=⟨λ_=>rfl⟩
instance:EncN z1j 1:=⟨λ_=>rfl,by decide,by simp [z1j,Value.oneCell']⟩
def z0m (gap:Int) (a:Nat) (t:SegM):HP:=HP.star (pt a (.cells #[.pointer (some ⟨t.ix,0,none⟩),.int .i64 t.s.base,.int .i64 t.s.fin,.int .i64 (z0b t.s.bs),.int .i64 (z1a (-1) t.s.bs),.int .i64 (t.s.file.length:Nat)] T.a45)) (z26 t.ix (t.s.idx gap))
structure okM (gap seg:Int) (pre:ByteArray):Prop where
 gap:1<=gap/\gap<=4194304
 seg:64<=seg/\seg<=4194304
 pre:z3q pre=true
def lgQ (lg:Nat) (M:LogM):HP:=HP.and (okM M.gap M.seg M.pre) (HP.star (pt lg (.cells #[.pointer (some ⟨M.d,0,none⟩),.string M.pre,.int .i64 M.seg,.int .i64 M.gap,.slice M.z.a M.z.len M.z.cap] T.a44))
 (HP.star (slc T.a29 1 M.z ((M.SM.map Prod.fst).flatMap z1j)) (HP.all (M.SM.map λt=>z0m M.gap t.1 t.2))))
def lgP (lg:Nat) (A:LogA):HP:=HP.ex λM:LogM=>HP.and (M.A=A) (lgQ lg M)
def zwo:Option Nat->Option Addr
 | none=>none
 | some b=>some ⟨b,0,none⟩
section
variable {w:World} {l r:List HP} {lg:Nat} {M:LogM} {A:LogA} {gap:Int} {a:Nat} {t:SegM}
theorem z3i (hs:Sat w (z0m gap a t::l)):Sat w (pt a (.cells #[.pointer (some ⟨t.ix,0,none⟩),.int .i64 t.s.base,.int .i64 t.s.fin,.int .i64 (z0b t.s.bs),.int .i64 (z1a (-1) t.s.bs),.int .i64 (t.s.file.length:Nat)] T.a45)::z26 t.ix (t.s.idx gap)::l):=hs.star
theorem z2g (t:SegM) (hs:Sat w (pt a (.cells #[.pointer (some ⟨t.ix,0,none⟩),.int .i64 t.s.base,.int .i64 t.s.fin,.int .i64 (z0b t.s.bs),.int .i64 (z1a (-1) t.s.bs),.int .i64 (t.s.file.length:Nat)] T.a45)::z26 t.ix (t.s.idx gap)::l)):Sat w (z0m gap a t::l):=.star_mk hs
theorem z2j (hs:Sat w (lgQ lg M::l)):okM M.gap M.seg M.pre/\Sat w (pt lg (.cells #[.pointer (some ⟨M.d,0,none⟩),.string M.pre,.int .i64 M.seg,.int .i64 M.gap,.slice M.z.a M.z.len M.z.cap] T.a44)::slc T.a29 1 M.z ((M.SM.map Prod.fst).flatMap z1j)::HP.all (M.SM.map λt=>z0m M.gap t.1 t.2)::l):=by
 obtain ⟨h,hs⟩:=hs.and
 have hs:=hs.star
 exact ⟨h,((hs.pick [1]).star).pick [2]⟩
theorem z1h (M:LogM) (h:okM M.gap M.seg M.pre) (hs:Sat w (pt lg (.cells #[.pointer (some ⟨M.d,0,none⟩),.string M.pre,.int .i64 M.seg,.int .i64 M.gap,.slice M.z.a M.z.len M.z.cap] T.a44)::slc T.a29 1 M.z ((M.SM.map Prod.fst).flatMap z1j)::HP.all (M.SM.map λt=>z0m M.gap t.1 t.2)::l)):Sat w (lgQ lg M::l):=by
 refine .and_mk h (.star_mk ?_)
 exact ((hs.pick [1,1]).star_mk).pick [1]
theorem z77 (hs:Sat w (lgP lg A::l)):∃ M:LogM,M.A=A/\Sat w (lgQ lg M::l):=by
 obtain ⟨M,hs⟩:=hs.ex
 obtain ⟨h,hs⟩:=hs.and
 exact ⟨M,h,hs⟩
theorem z3z (M:LogM) (hs:Sat w (lgQ lg M::l)):Sat w (lgP lg M.A::l):=.ex_mk M (.and_mk rfl hs)
theorem zhk:∀ (j n:Nat),z2n (j+1) n=z5m (n / 16 ^ j % 16)::z2n j n
 | 0,n=>by simp [z2n]
 | j+1,n=>by
  show z2n (j+1) (n / 16)++[z5m (n % 16)]=_
  rw [zhk j (n / 16)]
  have e:n / 16 / 16 ^ j=n / 16 ^ (j+1):=by rw [Nat.div_div_eq_div_mul,Nat.pow_succ,Nat.mul_comm]
  rw [e]
  rfl
theorem z01s (k:Nat) (c:UInt8):∀ (xs:List UInt8),(List.replicate (k+1) (0:UInt8)++xs).set k c=List.replicate k 0++c::xs:=by
 induction k with
 | zero=>intro xs;rfl
 | succ k ih=>intro xs;rw [List.replicate_succ,List.cons_append,List.set_cons_succ,ih,List.replicate_succ,List.cons_append]
theorem z05h (n:Nat) (h:n<18446744073709551616):BitVec.toNat (BitVec.ofInt 64 (n:Int) &&& BitVec.ofInt 64 15)=n % 16:=by
 rw [BitVec.ofInt_natCast,BitVec.toNat_and,BitVec.toNat_ofNat,Nat.mod_eq_of_lt h]
 show n &&& 15=n % 16
 exact Nat.and_two_pow_sub_one_eq_mod n 4
theorem z02b {k:Nat} (h:k<16):bt (ByteArray.mk #[48,49,50,51,52,53,54,55,56,57,97,98,99,100,101,102]) (k:Int)=(((z5m k).toNat:Nat):Int):=by
 have:∀ k:Fin 16,bt (ByteArray.mk #[48,49,50,51,52,53,54,55,56,57,97,98,99,100,101,102]) (k.val:Int)=(((z5m k.val).toNat:Nat):Int):=by decide +kernel
 exact this ⟨k,h⟩
theorem z03y {P:Program} {t el:TypeId} {bytes:Nat} {Q:Post} {S:World->Prop} {k:Sl->Prog} [ht:SlT P t el 1 bytes] [hz:Zer P el (.int .u8 0)] (n:Nat) (hs:Sat w l) (h:∀ x w',Sat w' (slc el 1 x ((List.replicate n (0:UInt8)).flatMap zf)::l)->(k x).wp P S w' Q) (hb:n*bytes<=281474976710656/\n<=9223372036854775807) (hS:∀ w',S w':=by exact λ_=>trivial) :
  (Prog.act (Instr.makeSlice t (.int .i64 (n:Int)) (.int .i64 (n:Int))) sL (u1 k)).wp P S w Q:=by
 obtain ⟨i,z,hi,h2,h3,h4,h5⟩:=ht.parts
 have hz':z=.int .u8 0:=by
  have:=hz.ok
  unfold z95 at this
  rw [hi] at this
  simp only at this
  rw [h4] at this
  exact Option.some.inj this
 have hrun:=run_make (P:=P) w t el i z ht.ok.1 hi h4 .i64 .i64 n n (by omega) (Int.le_refl _) (by rw [h3,<- Int.natCast_mul,Nat.mul_comm];omega) (by omega)
 simp only [Int.toNat_natCast] at hrun
 have hp:=hs.push (o:=.cells (madeCells z.cells (n*i.size)) el) (w':=w.alloc (.cells (madeCells z.cells (n*i.size)) el)) rfl
 refine ⟨(⟨some ⟨w.heap.size,0,none⟩,n,n⟩,()),_,hrun,hS _,h ⟨some ⟨w.heap.size,0,none⟩,n,n⟩ _ ?_⟩
 refine hp.imp λp hp=>.inr ⟨w.heap.size,0,_,_,rfl,hp,by rw [z3g,List.length_replicate],Nat.le_refl _,by rw [size_madeCells,h2];simp,λj hj=>?_,z2b _ _⟩
 rw [z3g,List.length_replicate,Nat.mul_one] at hj
 rw [h2,Nat.mul_one,Nat.zero_add,z9d,hz']
 have e1:(madeCells (Value.int .u8 0).cells n)[j]? = some (.int .u8 0):=by
  rw [Array.getElem?_eq_getElem (by rw [size_madeCells];exact hj)]
  simp [madeCells,Value.cells,Nat.mod_one]
 rw [e1,List.getElem?_map,List.getElem?_replicate,if_pos hj]
 rfl
theorem z7a (base:Int) (h:0<=base/\base<17592186044416) (x:ByteArray) (hx:x.size<=100) {d_:Value} {seg gp:Value} {zz:Value} (pre:ByteArray) (hp:pre.size<=100) [hf:FocB l lg (.cells [d_,.string pre,seg,gp,zz].toArray T.a44) r] (hs:Sat w l) :
  Ret P F.a140 #[.pointer (some ⟨lg,0,none⟩),.int .i64 base,.string x] w λvs w'=>vs=[.string (zl pre base (bl x))]/\Sat w' l :=
 zmv _ base x <| by
  delta zz9 AF AI AL AN AR AT AY AZ Af Ah Ak Al Ap Az Br
  refine z03y 11 hs (λz w' hs=>?_) (by omega)
  refine zg (λ_ w'=>Sat w' (slc T.a48 1 z ((z2n 11 base.toNat).flatMap zf)::l)) ?_ ?_
  ·refine z04 (λm v w=>∃ j:Nat,v=(((base.toNat / 16 ^ j:Nat):Int),((10-(j:Int)),()))/\j<=11/\11-j=m/\Sat w (slc T.a48 1 z ((List.replicate (11-j) 0++z2n j base.toNat).flatMap zf)::l)) 11 ⟨0,by rw [Nat.pow_zero,Nat.div_one,Int.toNat_of_nonneg h.1];rfl,by omega,rfl,by simpa [z2n] using hs⟩ ?_
   clear hs
   rintro m _ w ⟨j,rfl,hj,hm,hs⟩
   refine zm ?_
   refine ze (λhc=>?_) λhc=>?_
   rotate_left
   ·have:j=11:=by omega
    subst this
    exact zh (zj (by simpa using hs))
   have hj2:j<=10:=by omega
   have hb:base.toNat / 16 ^ j<18446744073709551616:=by
    have:=Nat.div_le_self base.toNat (16 ^ j)
    omega
   have hmod:=Nat.mod_lt (base.toNat / 16 ^ j) (show 0<16 by omega)
   rw [z05h _ hb,w64 (by omega) (by omega)]
   refine wp_must (by omega) ?_
   rw [z02b hmod]
   refine z03x hs (xs:=List.replicate (11-j) 0++z2n j base.toNat) (enc:=zf) (10-j) (by rw [List.length_append,List.length_replicate];omega) (z5m (base.toNat / 16 ^ j % 16)) λw' hs=>?_
   refine z1w (y:=((base.toNat / 16 ^ (j+1):Nat):Int)) ?_ ?_
   ·refine z1w (y:=10-((j+1:Nat):Int)) ?_ (by rw [w64 (by omega) (by omega)];omega)
    refine z16 (11-(j+1)) ⟨j+1,rfl,by omega,rfl,?_⟩
    have e:=z01s (10-j) (z5m (base.toNat / 16 ^ j % 16)) (z2n j base.toNat)
    rw [show 10-j+1=11-j by omega] at e
    rw [e,<- zhk] at hs
    rw [show 11-(j+1)=10-j by omega]
    exact hs
   ·rw [z76 _ (by omega)]
    show ((base.toNat / 16 ^ j / 16:Nat):Int)=_
    rw [Nat.div_div_eq_div_mul,<- Nat.pow_succ]
  clear hs
  rintro _ w hs
  refine zm ?_
  refine zy hs λw' hs=>?_
  refine zk ?_
  refine za hs ?_
  refine wp_must (by omega) ?_
  refine zv7 (bs:=z2n 11 base.toNat) hs ?_
  have h11:=z6h 11 base.toNat
  have s1:(pre++ByteArray.mk #[45]).size=pre.size+1:=ByteArray.size_append ..
  have s2:(ByteArray.mk (z2n 11 base.toNat).toArray).size=11:=h11
  refine wp_must (by omega) ?_
  have s3:(pre++ByteArray.mk #[45]++ByteArray.mk (z2n 11 base.toNat).toArray).size=pre.size+12:=by rw [ByteArray.size_append,s1,s2]
  refine wp_must (by omega) ?_
  refine wp_lt ?_
  refine zd ?_
  refine ⟨rfl,?_,hs.tail⟩
  congr 2
  apply zbk
  rw [z75]
  unfold bl
  simp only [ByteArray.data_append,Array.toList_append,List.append_assoc]
  rfl
theorem z06i {a d:Nat} (hd:d<16) (ha:a<576460752303423488):BitVec.toNat (BitVec.ofInt 64 ((a:Int)*16) ||| BitVec.ofInt 64 (d:Int))=16*a+d:=by
 have e:(a:Int)*16=((16*a:Nat):Int):=by omega
 rw [e,BitVec.ofInt_natCast,BitVec.ofInt_natCast,BitVec.toNat_or,BitVec.toNat_ofNat,BitVec.toNat_ofNat,Nat.mod_eq_of_lt (show 16*a<2 ^ 64 by omega),Nat.mod_eq_of_lt (show d<2 ^ 64 by omega)]
 exact (Nat.two_pow_add_eq_or_of_lt (i:=4) hd a).symm
theorem zg8:∀ {r:List UInt8} {x v k:Nat},z38 x r=some v->x<16 ^ k->v<16 ^ (k+r.length)
 | [],x,v,k,h,hx=>by simp [z38] at h;subst h;simpa using hx
 | c::r,x,v,k,h,hx=>by
  unfold z38 at h
  cases hd:z5n c with
  | none=>rw [hd] at h;cases h
  | some d =>
   rw [hd] at h
   have hd:=(z02p hd).2
   have:=zg8 (k:=k+1) h (by rw [Nat.pow_succ];omega)
   rw [List.length_cons,show k+(r.length+1)=k+1+r.length by omega]
   exact this
theorem zaj (s:ByteArray) (i j:Nat):bl (s.extract i j)=((bl s).drop i).take (j-i):=by
 unfold bl
 rw [ByteArray.data_extract,Array.toList_extract,List.extract_eq_take_drop]
theorem zoe (n x:ByteArray) (hn:n.size<=1000) (hx:x.size<=100) {d_:Value} {seg gp:Value} {zz:Value} (pre:ByteArray) (hp:pre.size<=100) [hf:FocB l lg (.cells [d_,.string pre,seg,gp,zz].toArray T.a44) r] (hs:Sat w l) :
  Ret P F.a134 #[.pointer (some ⟨lg,0,none⟩),.string n,.string x] w λvs w'=>vs=[.int .i64 (((z19 pre n (bl x)).getD 0:Nat):Int),.bool (z19 pre n (bl x)).isSome]/\Sat w' l :=
 zmq _ n x <| by
  delta zz4 AF AH AI AR AY Af Ag Ah Ak Al Ap BE BF Bg Br
  refine zk ?_
  refine za hs ?_
  have e1:IntKind.wrap .i64 (((ByteArray.size pre:Nat):Int)+1)=((pre.size+1:Nat):Int):=by rw [w64 (by omega) (by omega)];omega
  have e2:IntKind.wrap .i64 (((pre.size+1:Nat):Int)+11)=((pre.size+12:Nat):Int):=by rw [w64 (by omega) (by omega)];omega
  have e3:IntKind.wrap .i64 (((pre.size+12:Nat):Int)+((ByteArray.size x:Nat):Int))=((pre.size+12+x.size:Nat):Int):=by rw [w64 (by omega) (by omega)];omega
  rw [e1]
  refine wp_lt ?_
  rw [e2,e3]
  refine wp_must ?_ ?_
  ·intro h
   have h:((n.size:Nat):Int)=((pre.size+12+x.size:Nat):Int):=by simpa using h
   omega
  have hb:z19 pre n (bl x)=if n.size=pre.size+12+x.size/\(bl n).drop (pre.size+12)=bl x then z38 0 (((bl n).drop (pre.size+1)).take 11) else none:=by
   unfold z19
   rw [z1c,z1c,z1c]
  refine ze (λh=>?_) λh=>?_
  ·have:z19 pre n (bl x)=none:=by
    rw [hb,if_neg]
    rintro ⟨h1,h2⟩
    rcases h with h|h
    ·apply h;rw [h1]
    ·apply h
     rw [Int.toNat_natCast]
     apply zbk
     rw [zaj,h2,List.take_of_length_le]
     rw [z1c];omega
   rw [this]
   exact ⟨rfl,rfl,hs⟩
  have h1:n.size=pre.size+12+x.size:=by
   have:¬ (((n.size:Nat):Int)≠((pre.size+12+x.size:Nat):Int)):=λhh=>h (.inl hh)
   omega
  have h2:(bl n).drop (pre.size+12)=bl x:=by
   have h3:ByteArray.extract n (pre.size+12) n.size=x:=by
    apply Decidable.byContradiction
    intro hh
    exact h (.inr (by rw [Int.toNat_natCast];exact hh))
   rw [<- h3,zaj,List.take_of_length_le]
   rw [List.length_drop,z1c];omega
  rw [if_pos ⟨h1,h2⟩] at hb
  refine wp_must (by omega) ?_
  rw [Int.toNat_natCast,Int.toNat_natCast]
  have h4:(ByteArray.extract n (pre.size+1) (pre.size+12)).data.toList=((bl n).drop (pre.size+1)).take 11:=by
   have:=zaj n (pre.size+1) (pre.size+12)
   rw [show pre.size+12-(pre.size+1)=11 by omega] at this
   exact this
  refine zl9 hs λy w' hs=>?_
  rw [h4] at hs
  generalize hcs:((bl n).drop (pre.size+1)).take 11=cs at *
  have hcl:cs.length=11:=by rw [<- hcs,List.length_take,List.length_drop,z1c];omega
  have hl:=hs.slen y (xs:=cs) (enc:=zf)
  rw [hb]
  refine zg (λq w'=>∃ v:Nat,z38 0 cs=some v/\q=((v:Int),())/\Sat w' l) ?_ ?_
  rotate_left
  ·rintro _ w2 ⟨v,hv,rfl,hs⟩
   refine wp_lt ?_
   rw [hv]
   exact ⟨rfl,rfl,hs⟩
  refine z04 (λm q w=>∃ i v:Nat,q=((v:Int),((i:Int),()))/\i<=11/\11-i=m/\z38 0 (cs.take i)=some v/\Sat w (slc T.a48 1 y (cs.flatMap zf)::l)) 11 ⟨0,0,rfl,by omega,rfl,rfl,hs⟩ ?_
  clear hs
  rintro m _ w ⟨i,v,rfl,hi,hm,hv,hs⟩
  refine zm ?_
  refine ze (λhc=>?_) λhc=>?_
  rotate_left
  ·refine zh (zj ⟨v,?_,rfl,hs.tail⟩)
   rwa [List.take_of_length_le (by omega)] at hv
  have hil:i<cs.length:=by omega
  have hvl:=zg8 (k:=0) hv (by omega)
  rw [List.length_take] at hvl
  have hvl2:v<1152921504606846976 / 16:=by
   have h5:16 ^ (0+min i cs.length)<=16 ^ 10:=Nat.pow_le_pow_right (by omega) (by omega)
   omega
  have hstep:z38 0 (cs.take (i+1))=(z5n cs[i]).map λd=>16*v+d:=by
   rw [List.take_succ_eq_append_getElem hil,zdr,hv]
   show z38 v [cs[i]]=_
   unfold z38
   cases z5n cs[i] <;> rfl
  have hcut:∀ j,z38 0 (cs.take j)=none->z38 0 cs=none:=λj hj=>by
   rw [<- List.take_append_drop j cs,zdr,hj];rfl
  refine z1v hs (xs:=cs) (enc:=zf) i hil ?_
  refine wp_lt ?_
  refine wp_lt ?_
  have hgo:∀ {w:World} (d:Nat),z5n cs[i]=some d->Sat w (slc T.a48 1 y (cs.flatMap zf)::l)->∃ i' v':Nat,((((16*v+d:Nat):Int),(((i+1:Nat):Int),())):Int × Int × Unit)=((v':Int),((i':Int),()))/\i'<=11/\11-i'=11-(i+1)/\z38 0 (cs.take i')=some v'/\Sat w (slc T.a48 1 y (cs.flatMap zf)::l):=λd hd hs =>
   ⟨i+1,16*v+d,rfl,by omega,rfl,by rw [hstep,hd];rfl,hs⟩
  have hcb:=(cs[i]).toNat_lt
  have ei:IntKind.wrap .i64 ((i:Int)+1)=((i+1:Nat):Int):=by rw [w64 (by omega) (by omega)];omega
  refine zg (λq w'=>∃ d:Nat,z5n cs[i]=some d/\q=(((16*v+d:Nat):Int),())/\Sat w' (slc T.a48 1 y (cs.flatMap zf)::l)) ?_ ?_
  rotate_left
  ·rintro _ w2 ⟨d,hd,rfl,hs⟩
   rw [ei]
   exact z16 (11-(i+1)) (hgo d hd hs)
  have hor:∀ d:Nat,d<16->IntKind.wrap .i64 (((BitVec.toNat (BitVec.ofInt 64 (IntKind.wrap .i64 ((v:Int)*16)) ||| BitVec.ofInt 64 (d:Int)):Nat):Int))=((16*v+d:Nat):Int):=λd hd=>by
   rw [w64 (x:=(v:Int)*16) (by omega) (by omega),z06i hd (by omega),w64 (by omega) (by omega)]
  refine ze (λh5=>?_) λh5=>?_
  ·have hd:z5n cs[i]=some ((cs[i]).toNat-48):=by unfold z5n;rw [if_pos (by omega)]
   have e5:IntKind.wrap .i64 (IntKind.wrap .u8 ((((cs[i]).toNat:Nat):Int)-48))=(((cs[i]).toNat-48:Nat):Int):=by
    rw [wu8 (by omega) (by omega),w64 (by omega) (by omega)];omega
   rw [e5]
   refine z1w (y:=((16*v+((cs[i]).toNat-48):Nat):Int)) ?_ (hor _ (by omega))
   exact zj ⟨_,hd,rfl,hs⟩
  refine wp_lt ?_
  refine ze (λh6=>?_) λh6=>?_
  ·have hd:z5n cs[i]=some ((cs[i]).toNat-87):=by unfold z5n;rw [if_neg (by omega),if_pos (by omega)]
   have e5:IntKind.wrap .i64 (IntKind.wrap .u8 (IntKind.wrap .u8 ((((cs[i]).toNat:Nat):Int)-97)+10))=(((cs[i]).toNat-87:Nat):Int):=by
    rw [wu8 (x:=(((cs[i]).toNat:Nat):Int)-97) (by omega) (by omega),wu8 (by omega) (by omega),w64 (by omega) (by omega)];omega
   rw [e5]
   refine z1w (y:=((16*v+((cs[i]).toNat-87):Nat):Int)) ?_ (hor _ (by omega))
   exact zj ⟨_,hd,rfl,hs⟩
  ·have hd:z5n cs[i]=none:=by unfold z5n;rw [if_neg (by omega),if_neg (by omega)]
   have hno:z38 0 cs=none:=hcut (i+1) (by rw [hstep,hd];rfl)
   rw [hno]
   exact zh (zh (zh ⟨rfl,rfl,hs.tail⟩))
theorem zjr (base fin:Int) (hb:0<=base/\base<9223372036854775808) (hf:0<=fin/\fin<9223372036854775808) (hs:Sat w l):Ret P F.a148 #[.int .i64 base,.int .i64 fin] w λvs w'=>∃ z:Sl,vs=[z.v]/\Sat w' (slc T.a48 1 z ((shL base fin).flatMap zf)::l) :=
 zn3 base fin <| by
  delta zzh AR An Ap
  refine zac hs (enc:=zf) [(83:UInt8)] λz1 w' hs=>?_
  refine z8 (z4l base hb hs) λ_ w' hs=>?_
  obtain ⟨z2,rfl,hs⟩:=hs
  refine zb ?_
  refine z8 (z4l fin hf hs) λ_ w' hs=>?_
  obtain ⟨z3,rfl,hs⟩:=hs
  refine zb ?_
  refine zac hs (enc:=z0c) [z1,z2,z3] λz4 w' hs=>?_
  have u1_:=z1p base
  have u2_:=z1p fin
  have f1:FocR (slc T.a42 1 z4 ([z1,z2,z3].flatMap z0c)::slc T.a48 1 z3 ((uI fin).flatMap zf)::slc T.a48 1 z2 ((uI base).flatMap zf)::slc T.a48 1 z1 (([83]:List UInt8).flatMap zf)::l) z1 1 (([83]:List UInt8).flatMap zf):=inferInstance
  have f2:FocR (slc T.a42 1 z4 ([z1,z2,z3].flatMap z0c)::slc T.a48 1 z3 ((uI fin).flatMap zf)::slc T.a48 1 z2 ((uI base).flatMap zf)::slc T.a48 1 z1 (([83]:List UInt8).flatMap zf)::l) z2 1 ((uI base).flatMap zf):=inferInstance
  have f3:FocR (slc T.a42 1 z4 ([z1,z2,z3].flatMap z0c)::slc T.a48 1 z3 ((uI fin).flatMap zf)::slc T.a48 1 z2 ((uI base).flatMap zf)::slc T.a48 1 z1 (([83]:List UInt8).flatMap zf)::l) z3 1 ((uI fin).flatMap zf):=inferInstance
  refine z8 (zoo z4 [(z1,[83]),(z2,uI base),(z3,uI fin)] (λp hp=>?_) (by show 3<=1000000;omega) hs) λ_ w' hs=>?_
  ·simp only [List.mem_cons,List.not_mem_nil,or_false] at hp
   rcases hp with rfl|rfl|rfl
   ·exact ⟨f1,by show (1:Nat)<=_;omega⟩
   ·exact ⟨f2,by show (uI base).length<=_;omega⟩
   ·exact ⟨f3,by show (uI fin).length<=_;omega⟩
  obtain ⟨z5,rfl,hs⟩:=hs
  refine zb ?_
  refine ⟨rfl,z5,rfl,?_⟩
  have e:([(z1,[83]),(z2,uI base),(z3,uI fin)]:List (Sl × List UInt8)).flatMap Prod.snd=shB base fin:=by simp [shB]
  rw [e] at hs
  have hs:Sat _ (slc T.a48 1 z5 ((shL base fin).flatMap zf)::_):=hs
  exact hs.sub
theorem zvr (x:Sl) (body:List UInt8) (base:Int) (hb:0<=base/\base<9223372036854775808) [hx:FocR l x 1 (body.flatMap zf)] (hn:body.length<=1000000000) (hs:Sat w l) :
  Ret P F.a149 #[x.v,.int .i64 base] w λvs w'=>∃ v:Int,vs=[.int .i64 v,.bool (z59 base body).isSome]/\(∀ f,z59 base body=some f->v=f)/\Sat w' l :=
 zn4 x base <| by
  delta zzi AF AX Ad Af Ag Ah Ak Am Ap Bc Bd
  refine z8 (zu8 x body hn hs) λ_ w' hs=>?_
  obtain ⟨p,rfl,hs⟩:=hs
  refine zb ?_
  refine z8 (zg4 (p:=p) hs) λ_ _ hs=>?_
  obtain ⟨rfl,hs⟩:=hs
  refine zb ?_
  refine z8 (zgr (p:=p) hs) λ_ _ hs=>?_
  obtain ⟨rfl,hs⟩:=hs
  refine zb ?_
  refine z8 (zgr (p:=p) hs) λ_ _ hs=>?_
  obtain ⟨rfl,hs⟩:=hs
  refine zb ?_
  refine wp_lt ?_
  refine wp_lt ?_
  refine wp_lt ?_
  refine z8 (ztm (p:=p) hs) λ_ w' hs=>?_
  obtain ⟨e,rfl,he,hs⟩:=hs
  refine zb ?_
  have eh:z59 base body=if (z0j (z0j (z0t (some body)).2).2).2=some []/\(z0t (some body)).1=83/\((z0j (z0t (some body)).2).1:Int)=base/\base<=1099511627776/\(z0j (z0j (z0t (some body)).2).2).1<=1099511627776/\((z0j (z0j (z0t (some body)).2).2).1=0\/base<(z0j (z0j (z0t (some body)).2).2).1) then some ((z0j (z0j (z0t (some body)).2).2).1:Int) else none:=rfl
  generalize z59 base body=HS at eh he ⊢
  generalize z0t (some body)=k at eh he ⊢
  generalize z0j k.2=m at eh he ⊢
  generalize z0j m.2=q at eh he ⊢
  have ew:IntKind.wrap .u64 base=base:=zla (by omega) (by omega)
  rw [ew]
  refine ze (λh=>?_) λh=>?_
  ·have:HS=none:=by
    rw [eh,if_neg]
    rintro ⟨h1,h2,h3,h4,h5,-⟩
    have h6:=he.2 h1
    rcases h with (((h|h)|h)|h)|h
    ·exact h h6
    ·apply h;rw [h2];rfl
    ·exact h h3
    ·omega
    ·omega
   rw [this]
   exact ⟨rfl,0,rfl,(λf hf=>by cases hf),hs⟩
  have h1:q.2=some []:=he.1 (Decidable.byContradiction λhh=>h (.inl (.inl (.inl (.inl hh)))))
  have h2:k.1=83:=by
   have:((k.1:Nat):Int)=83:=Decidable.byContradiction λhh=>h (.inl (.inl (.inl (.inr hh))))
   omega
  have h3:((m.1:Nat):Int)=base:=Decidable.byContradiction λhh=>h (.inl (.inl (.inr hh)))
  have h4:base<=1099511627776:=by
   apply Decidable.byContradiction;intro hh;exact h (.inl (.inr (by omega)))
  have h5:q.1<=1099511627776:=by
   apply Decidable.byContradiction;intro hh;exact h (.inr (by omega))
  rw [w64 (by omega) (by omega)]
  refine wp_lt ?_
  refine wp_lt ?_
  refine ⟨rfl,((q.1:Nat):Int),?_,?_,hs⟩
  ·congr 2
   rw [eh]
   by_cases h6:q.1=0\/base<q.1
   ·rw [if_pos ⟨h1,h2,h3,h4,h5,h6⟩]
    have:(((q.1:Nat):Int) == 0 || decide (((q.1:Nat):Int)>base))=true:=by
     rw [Bool.or_eq_true,beq_iff_eq,decide_eq_true_eq];omega
    rw [this];rfl
   ·rw [if_neg λhh=>h6 hh.2.2.2.2.2]
    have:(((q.1:Nat):Int) == 0 || decide (((q.1:Nat):Int)>base))=false:=by
     rw [Bool.or_eq_false_iff,beq_eq_false_iff_ne,decide_eq_false_iff_not];omega
    rw [this];rfl
  ·intro f hf
   rw [eh] at hf
   split at hf
   ·exact Option.some.inj hf
   ·cases hf
theorem zrd (x:Int) (rs:List RecM) (i:Nat) (hi:i<rs.length):z5c x (rs.take (i+1))=max (z5c x (rs.take i)) rs[i].time:=by
 rw [List.take_succ_eq_append_getElem hi]
 unfold z5c
 rw [List.foldl_append]
 rfl
theorem zvw (b:BatM) [hb:FocR l b.x 4 (b.rs.flatMap z02)] (hlen:b.rs.length<=1000000000) (hs:Sat w l):Ret P F.a150 #[.agg (zu b).toArray] w λvs w'=>vs=[.int .i64 (z2t b)]/\Sat w' l :=
 zn5 b.base b.pid b.epoch b.seq b.kind b.time b.x <| by
  delta zzj AC AD AF AS Aa Ab Af Ah Ak Al Ap Ar Bg Br Bw Bx
  have hl:=hs.slen b.x (xs:=b.rs) (enc:=z02)
  refine zn hs λa0 w' hs=>?_
  refine za hs ?_
  refine zg (λq w'=>q=(z5c (-1) b.rs,())/\Sat w' (pt a0 (.cells (cB b) T.a0)::l)) ?_ ?_
  ·refine z04 (λm v w=>∃ i:Nat,v=(z5c (-1) (b.rs.take i),((i:Int),()))/\i<=b.rs.length/\b.rs.length-i=m/\Sat w (pt a0 (.cells (cB b) T.a0)::l)) b.rs.length ⟨0,rfl,by omega,rfl,hs⟩ ?_
   clear hs
   rintro m _ w ⟨i,rfl,hi,hm,hs⟩
   refine zm ?_
   refine ze (λhc=>?_) λhc=>?_
   rotate_left
   ·refine zh (zj ⟨?_,hs⟩)
    rw [List.take_of_length_le (by omega)]
   have hil:i<b.rs.length:=by omega
   refine z68 hs (xs:=b.rs) (enc:=z02) i hil ?_
   refine zt hs λc w' hs=>?_
   refine zv hs λw' hs=>?_
   refine za hs ?_
   refine z1w (y:=z5c (-1) (b.rs.take (i+1))) ?_ (by rw [zrd _ _ _ hil];split <;> omega)
   rw [wS (i:=i) (by omega)]
   exact z16 (b.rs.length-(i+1)) ⟨i+1,rfl,by omega,rfl,hs.sub⟩
  clear hs
  rintro _ w ⟨rfl,hs⟩
  refine zm ?_
  refine za hs ?_
  refine zg (λq w'=>q=(z2t b,())/\Sat w' (pt a0 (.cells (cB b) T.a0)::l)) ?_ ?_
  ·unfold z2t
   refine ze (λh=>?_) λh=>?_
   ·refine za hs ?_
    refine wp_lt ?_
    refine zj ⟨?_,hs⟩
    rw [if_pos (List.length_eq_zero_iff.1 (by omega))]
   ·refine zj ⟨?_,hs⟩
    rw [if_neg (by rintro h0;rw [h0] at hl;simp at hl;omega)]
  rintro _ w2 ⟨rfl,hs⟩
  refine wp_lt ?_
  exact ⟨rfl,rfl,hs.tail⟩
theorem z02y (seg gap:Int) (hs:Sat w l):Ret P F.a151 #[.agg #[.int .i64 seg,.int .i64 gap]] w λvs w'=>vs=[.bool (decide ((64<=seg/\seg<=4194304)/\(1<=gap/\gap<=4194304)))]/\Sat w' l :=
 zn6 seg gap <| by
  delta zzk Ab Ag Ap Ar As Av
  refine zn hs λa0 w' hs=>?_
  refine za hs ?_
  refine za hs ?_
  refine za hs ?_
  refine za hs ?_
  refine wp_lt ?_
  refine ⟨rfl,?_,hs.tail⟩
  congr 2
  rw [Bool.eq_iff_iff,decide_eq_true_iff]
  simp only [Bool.and_eq_true,decide_eq_true_eq]
  omega
theorem zwn (s:ByteArray) (hs:Sat w l):Ret P F.a147 #[.string s] w λvs w'=>vs=[.bool (z3q s)]/\Sat w' l :=
 zn2 s <| by
  delta zzg AA AF AR Ah Ak Al Ap Az BE BF
  unfold z3q
  refine ze (λh=>?_) λh=>?_
  ·rw [decide_eq_false (by omega),Bool.false_and]
   exact ⟨rfl,rfl,hs⟩
  rw [decide_eq_true (by omega),Bool.true_and]
  refine zl9 hs λx w' hs=>?_
  have hl:=hs.slen x (xs:=bl s) (enc:=zf)
  have hsz:=z1c s
  refine zg (λ_ w'=>((bl s).all λc=>(97<=c.toNat && c.toNat<=122) || (48<=c.toNat && c.toNat<=57))=true/\Sat w' l) ?_ ?_
  rotate_left
  ·rintro _ w2 ⟨h2,hs⟩
   rw [h2]
   exact ⟨rfl,rfl,hs⟩
  refine z04 (λm v w=>∃ i:Nat,v=((i:Int),())/\i<=(bl s).length/\(bl s).length-i=m/\(((bl s).take i).all λc=>(97<=c.toNat && c.toNat<=122) || (48<=c.toNat && c.toNat<=57))=true/\Sat w (slc T.a48 1 x ((bl s).flatMap zf)::l)) (bl s).length ⟨0,rfl,by omega,rfl,rfl,hs⟩ ?_
  clear hs
  rintro m _ w ⟨i,rfl,hi,hm,hall,hs⟩
  refine zm ?_
  refine ze (λhc=>?_) λhc=>?_
  rotate_left
  ·refine zh (zj ⟨?_,hs.tail⟩)
   rwa [List.take_of_length_le (by omega)] at hall
  have hil:i<(bl s).length:=by omega
  refine z1v hs (xs:=bl s) (enc:=zf) i hil ?_
  refine wp_lt ?_
  have hstep:(((bl s).take (i+1)).all λc=>(97<=c.toNat && c.toNat<=122) || (48<=c.toNat && c.toNat<=57))=((97<=(bl s)[i].toNat && (bl s)[i].toNat<=122) || (48<=(bl s)[i].toNat && (bl s)[i].toNat<=57)):=by
   rw [List.take_succ_eq_append_getElem hil,List.all_append,hall]
   simp
  refine z0p (λh3=>?_) λh3=>?_
  ·refine zh (zh ⟨rfl,?_,hs.tail⟩)
   have hf:((97<=(bl s)[i].toNat && (bl s)[i].toNat<=122) || (48<=(bl s)[i].toNat && (bl s)[i].toNat<=57))=false:=by
    rw [Bool.eq_false_iff]
    intro hh
    simp only [Bool.not_eq_true',Bool.or_eq_false_iff,Bool.and_eq_false_iff,decide_eq_false_iff_not] at h3
    simp only [Bool.or_eq_true,Bool.and_eq_true,decide_eq_true_eq] at hh
    omega
   have:((bl s).all λc=>(97<=c.toNat && c.toNat<=122) || (48<=c.toNat && c.toNat<=57))=false:=by
    rw [<- List.take_append_drop (i+1) (bl s),List.all_append,hstep,hf]
    rfl
   rw [this]
  ·rw [wS (i:=i) (by omega)]
   refine z16 ((bl s).length-(i+1)) ⟨i+1,rfl,by omega,rfl,?_,hs⟩
   rw [hstep]
   simp only [Bool.not_eq_false',Bool.or_eq_true,Bool.and_eq_true,decide_eq_true_eq] at h3
   simp only [Bool.or_eq_true,Bool.and_eq_true,decide_eq_true_eq]
   omega
end
instance (priority:=low) AddrIs.adds {a:Addr} {b off n:Nat} [h:AddrIs a b off]:AddrIs (a.add n) b (off+n):=⟨by rw [h.ok,z3v]⟩
section
variable {P:Program} {w:World} {Q:Post} {S:World->Prop}
theorem zri {g:Prop} {o:Option Addr} {f:Addr->Prog} (h:(f ⟨0,0,none⟩).wp P S w Q) (hg:¬ g):(Prog.ex [.adr] (c1 λx=>g->o=some x) (u1 f)).wp P S w Q:=⟨(⟨0,0,none⟩,()),λh=>absurd h hg,h⟩
theorem zrh {g:Prop} {m:Sem Value} {p:Pr} {f:p.D->Prog} (x:p.D) (hg:¬ g) (h:(f x).wp P S w Q):(Prog.read g m (.one (.one p)) (u1 f)).wp P S w Q:=⟨(x,()),λh=>absurd h hg,h⟩
end
def SegA.add (s:SegA) (bs:List BatM):SegA:=⟨s.base,s.fin,s.bs++bs.map BatM.p⟩
theorem zg0 (s:SegA):s.add []=s:=by unfold SegA.add;simp
theorem zob (s:SegA) (a b:List BatM):(s.add a).add b=s.add (a++b):=by unfold SegA.add;simp
theorem zjn (bs:List BatM):(bs.map BatM.p).flatMap frL=bs.flatMap frL:=by
 rw [List.flatMap_map];rfl
theorem z6g (s:SegA) (bs:List BatM):(s.add bs).file=s.file++bs.flatMap frL:=by
 unfold SegA.file SegA.add
 simp only [List.flatMap_append,zjn,List.append_assoc]
theorem z00s (gap:Int) (s:SegA) (b:BatM):(s.add [b]).idx gap=(z9g (s.idx gap) b.base (s.file.length:Nat) (z2t b)).2:=by
 unfold SegA.idx SegA.add
 show zaq (zc1 gap) _ (s.bs++[b.p])=_
 rw [zc2,z2d]
 rw [show ((((shL s.base s.fin).length+(s.bs.flatMap frL).length:Nat)):Int)=((shL s.base s.fin).length:Int)+((s.bs.flatMap frL).length:Int) by omega]
 rfl
theorem z9r {α β:Type} (f:α->β) (l:List α):(l.map f).getLast? = l.getLast?.map f:=by simp
section
variable {w:World} {l r:List HP} {lg:Nat} {M:LogM} {A:LogA} {gap:Int} {a:Nat} {t:SegM}
theorem z01j [hf:Fo l (z0m gap) a t r] (hs:Sat w l):Ret P F.a153 #[.pointer (some ⟨a,0,none⟩)] w λvs w'=>vs=[.int .i64 t.s.reach]/\Sat w' (z0m gap a t::r) :=
 zn8 _ <| by
  delta zzm AI AL AN Af Ah Ap Ar
  have hs:=z3i (hs.perm hf.perm)
  refine zy hs λw' hs=>?_
  refine zk ?_
  refine za hs ?_
  refine zk ?_
  refine za hs ?_
  refine zk ?_
  refine za hs ?_
  refine z1w (y:=t.s.reach) ?_ (by unfold SegA.reach;split <;> split <;> omega)
  refine zd ?_
  exact ⟨rfl,rfl,z2g t hs⟩
theorem zk1 (base fin:Int) (hb:0<=base/\base<9223372036854775808) (hf':0<=fin/\fin<9223372036854775808) [hf:Fo l lgQ lg M r] (hs:Sat w l) :
  Ret P F.a144 #[.pointer (some ⟨lg,0,none⟩),.int .i64 base,.int .i64 fin] w λvs w'=>∃ a ix,vs=[.pointer (some ⟨a,0,none⟩)]/\Sat w' (z0m M.gap a ⟨ix,⟨base,fin,[]⟩⟩::lgQ lg M::r) :=
 zmz _ base fin <| by
  delta zzd AI Ab Ad Af Ah Al An Ap Ar Aw Ax
  obtain ⟨hok,hs⟩:=z2j (hs.perm hf.perm)
  refine zk ?_
  refine za hs ?_
  refine z8 (z02s M.gap hok.gap hs) λ_ w' hs=>?_
  obtain ⟨ix,rfl,hs⟩:=hs
  refine zb ?_
  refine wp_lt ?_
  refine z8 (zjr base fin hb hf' hs) λ_ w' hs=>?_
  obtain ⟨z,rfl,hs⟩:=hs
  refine zb ?_
  have hl:=hs.slen z (xs:=shL base fin) (enc:=zf)
  refine zn hs λa w' hs=>?_
  refine ⟨rfl,a,ix,rfl,?_⟩
  have hs:Sat w' (pt a (.cells #[.pointer (some ⟨ix,0,none⟩),.int .i64 base,.int .i64 fin,.int .i64 (z0b []),.int .i64 (z1a (-1) []),.int .i64 ((SegA.file ⟨base,fin,[]⟩).length:Nat)] T.a45)::slc T.a48 1 z ((shL base fin).flatMap zf)::z26 ix ((SegA.mk base fin []).idx M.gap)::pt lg (.cells #[.pointer (some ⟨M.d,0,none⟩),.string M.pre,.int .i64 M.seg,.int .i64 M.gap,.slice M.z.a M.z.len M.z.cap] T.a44)::slc T.a29 1 M.z ((M.SM.map Prod.fst).flatMap z1j)::HP.all (M.SM.map λt=>z0m M.gap t.1 t.2)::r):=by
   have e:(SegA.file ⟨base,fin,[]⟩).length=z.len:=by rw [z2d,hl];simp
   rw [e]
   exact hs
  have hs:=z1h M hok (hs.pick [3,3,3])
  exact z2g ⟨ix,⟨base,fin,[]⟩⟩ (hs.sub)
theorem zuz (b:BatM) (hv:z03 b=0) [hf:Fo l (z0m gap) a t r] [hb:FocR r b.x 4 (b.rs.flatMap z02)] (hlen:t.s.file.length+(frL b).length<=1000000000) (hs:Sat w l) :
  Ret P F.a154 #[.pointer (some ⟨a,0,none⟩),.agg (zu b).toArray,.int .i64 ((frL b).length:Nat)] w λvs w'=>vs=[]/\Sat w' (z0m gap a ⟨t.ix,t.s.add [b]⟩::r) :=
 zn9 _ b.base b.pid b.epoch b.seq b.kind b.time b.x _ <| by
  delta zzn AF AI AJ AL AN AT Aa Ab Ac Ad Af Ah Am Ap Ar
  obtain ⟨h64,-⟩:=z2x hv
  obtain ⟨-,-,⟨-,hba,-⟩,-,-⟩:=z12 b hv
  have hs:=z3i (hs.perm hf.perm)
  refine zn hs λa0 w' hs=>?_
  refine zi hs ?_
  refine z8 (zvw b (by omega) hs) λ_ w' hs=>?_
  obtain ⟨rfl,hs⟩:=hs
  refine zb ?_
  refine wp_lt ?_
  refine zy hs λw' hs=>?_
  refine zk ?_
  refine za hs ?_
  refine za hs ?_
  refine zk ?_
  refine za hs ?_
  refine z8 (z034 (b:=t.ix) b.base ((t.s.file.length:Nat):Int) (z2t b) (by omega) (by omega) hs) λ_ w' hs=>?_
  obtain ⟨rfl,hs⟩:=hs
  refine zb ?_
  refine zd ?_
  refine zi hs ?_
  refine z8 (z8h b hs) λ_ w' hs=>?_
  obtain ⟨rfl,hs⟩:=hs
  refine zb ?_
  refine zk ?_
  refine z07 hs λw' hs=>?_
  refine zk ?_
  refine za hs ?_
  refine zk ?_
  refine z07 hs λw' hs=>?_
  refine zk ?_
  refine za hs ?_
  refine zk ?_
  rw [w64 (by omega) (by omega)]
  refine z07 hs λw' hs=>?_
  refine ⟨rfl,rfl,?_⟩
  have e1:z1l b=z0b (t.s.add [b]).bs:=by
   show _=z0b (t.s.bs++[b.p])
   rw [z39]
   unfold z1l
   rw [if_neg (by rw [hv];simp)]
   rfl
  have e2:(if z2t b>z1a (-1) t.s.bs then z2t b else z1a (-1) t.s.bs)=z1a (-1) (t.s.add [b]).bs:=by
   show _=z1a (-1) (t.s.bs++[b.p])
   rw [zes]
   show _=max _ (z2t b)
   split <;> omega
  have e3:((t.s.file.length:Nat):Int)+((frL b).length:Nat)=(((t.s.add [b]).file.length:Nat):Int):=by
   rw [z6g,List.length_append];simp
  rw [e1,e2,e3,<- z00s] at hs
  have hs:Sat w' (pt a (.cells #[.pointer (some ⟨t.ix,0,none⟩),.int .i64 (t.s.add [b]).base,.int .i64 (t.s.add [b]).fin,.int .i64 (z0b (t.s.add [b]).bs),.int .i64 (z1a (-1) (t.s.add [b]).bs),.int .i64 ((t.s.add [b]).file.length:Nat)] T.a45)::_):=hs
  refine z2g ⟨t.ix,t.s.add [b]⟩ ?_
  exact hs.sub
theorem zeq [hf:Fo l lgQ lg M r] (hlen:M.SM.length<=1000000000) (hs:Sat w l):Ret P F.a139 #[.pointer (some ⟨lg,0,none⟩)] w λvs w'=>vs=[.pointer (zwo (M.SM.getLast?.map Prod.fst))]/\Sat w' (lgQ lg M::r) :=
 zmu _ <| by
  delta zz8 AF AI AJ AL AN AS Ad Ak Al Ap
  obtain ⟨hok,hs⟩:=z2j (hs.perm hf.perm)
  have hl:=hs.slen M.z (xs:=M.SM.map Prod.fst) (enc:=z1j)
  rw [List.length_map] at hl
  refine zk ?_
  refine za hs ?_
  refine ze (λh=>?_) λh=>?_
  ·have:M.SM=[]:=List.length_eq_zero_iff.1 (by omega)
   rw [this]
   rw [this] at hs
   have hs:=z1h M hok (by rw [this];exact hs)
   exact ⟨rfl,rfl,hs⟩
  have h0:0<M.SM.length:=by omega
  refine zy hs λw' hs=>?_
  refine zk ?_
  refine za hs ?_
  refine zk ?_
  refine za hs ?_
  rw [w64 (by omega) (by omega)]
  refine z1v hs (xs:=M.SM.map Prod.fst) (enc:=z1j) (M.SM.length-1) (by rw [List.length_map];omega) ?_
  refine zd ?_
  refine ⟨rfl,?_,z1h M hok hs⟩
  have e:M.SM.getLast?.map Prod.fst=some ((M.SM.map Prod.fst)[M.SM.length-1]'(by rw [List.length_map];omega)):=by
   rw [List.getLast?_eq_getElem?,List.getElem?_eq_getElem (by omega)]
   simp
  rw [e]
  rfl
theorem z8x {SM:List (Nat × SegM)} (hs:Sat w (HP.all (SM.map λt=>z0m gap t.1 t.2)::l)) {i:Nat} (hi:i<SM.length) :
  Sat w (z0m gap SM[i].1 SM[i].2::HP.all ((SM.eraseIdx i).map λt=>z0m gap t.1 t.2)::l):=by
 exact ((hs.all_perm ((z6d hi).map _))).all_cons
theorem z6k {SM:List (Nat × SegM)} {i:Nat} (hi:i<SM.length) (hs:Sat w (z0m gap SM[i].1 SM[i].2::HP.all ((SM.eraseIdx i).map λt=>z0m gap t.1 t.2)::l)) :
  Sat w (HP.all (SM.map λt=>z0m gap t.1 t.2)::l):=by
 have h1:Sat w (HP.all ((SM[i]::SM.eraseIdx i).map λt=>z0m gap t.1 t.2)::l):=hs.all_put
 exact h1.all_perm ((z6d hi).symm.map _)
theorem zg6 [hf:Fo l lgQ lg M r] (hs:Sat w l):Ret P F.a126 #[.pointer (some ⟨lg,0,none⟩)] w λvs w'=>vs=[.int .i64 (z1z M.l)]/\Sat w' (lgQ lg M::r) :=
 zmk _ <| by
  delta zyy AI AJ AO AS Af Ah Ak Al Ap Ar BA
  obtain ⟨hok,hs⟩:=z2j (hs.perm hf.perm)
  have hl:=hs.slen M.z (xs:=M.SM.map Prod.fst) (enc:=z1j)
  rw [List.length_map] at hl
  refine z0k ?_
  refine za hs ?_
  refine ze (λh=>?_) λh=>?_
  ·have h:M.SM=[]:=by
    rcases h with h|h
    ·cases h
    ·exact List.length_eq_zero_iff.1 (by omega)
   have e:z1z M.l=0:=by unfold LogM.l;rw [h];rfl
   rw [e]
   exact ⟨rfl,rfl,z1h M hok hs⟩
  have h0:0<M.SM.length:=by
   apply Nat.pos_of_ne_zero
   intro h1
   exact h (.inr (by omega))
  refine zk ?_
  refine za hs ?_
  refine z7h hs (xs:=M.SM.map Prod.fst) (enc:=z1j) 0 (by rw [List.length_map];exact h0) ?_ rfl rfl
  have e0:(M.SM.map Prod.fst)[0]'(by rw [List.length_map];exact h0)=M.SM[0].1:=by simp
  rw [e0]
  refine zk ?_
  have hs:=z3i (z8x (hs.pick [2]) h0)
  refine za hs ?_
  refine wp_lt ?_
  have e:z1z M.l=M.SM[0].2.s.base:=by
   obtain ⟨x,xs,hx⟩:=List.exists_cons_of_length_pos h0
   simp only [LogM.l,hx,List.map_cons,z1z,List.getElem_cons_zero]
  rw [e]
  refine ⟨rfl,rfl,?_⟩
  have hs:=z6k h0 (z2g M.SM[0].2 hs)
  exact z1h M hok (hs.pick [1,1])
theorem za6 [hf:Fo l lgQ lg M r] (hlen:M.SM.length<=1000000000) (hs:Sat w l):Ret P F.a127 #[.pointer (some ⟨lg,0,none⟩)] w λvs w'=>vs=[.int .i64 (zq M.l)]/\Sat w' (lgQ lg M::r) :=
 zml _ <| by
  delta zyz AO AX Ad Af Ah Ak Al Am Ap BA
  obtain ⟨hok,hs⟩:=z2j (hs.perm hf.perm)
  have hl:=hs.slen M.z (xs:=M.SM.map Prod.fst) (enc:=z1j)
  rw [List.length_map] at hl
  refine z0k ?_
  refine za hs ?_
  refine ze (λh=>?_) λh=>?_
  ·have h:M.SM=[]:=by
    rcases h with h|h
    ·cases h
    ·exact List.length_eq_zero_iff.1 (by omega)
   have e:zq M.l=0:=by unfold LogM.l;rw [h];rfl
   rw [e]
   exact ⟨rfl,rfl,z1h M hok hs⟩
  have h0:0<M.SM.length:=by
   apply Nat.pos_of_ne_zero
   intro h1
   exact h (.inr (by omega))
  have hs:=z1h M hok hs
  refine z8 (zeq (lg:=lg) hlen hs) λ_ w' hs=>?_
  obtain ⟨rfl,hs⟩:=hs
  refine zb ?_
  have e1:M.SM.getLast? = some (M.SM[M.SM.length-1]'(by omega)):=by
   rw [List.getLast?_eq_getElem?,List.getElem?_eq_getElem (by omega)]
  rw [e1]
  obtain ⟨-,hs⟩:=z2j hs
  have hs:=z8x (hs.pick [2]) (show M.SM.length-1<M.SM.length by omega)
  refine z8 (z01j (gap:=M.gap) (a:=M.SM[M.SM.length-1].1) hs) λ_ w' hs=>?_
  obtain ⟨rfl,hs⟩:=hs
  refine zb ?_
  refine wp_lt ?_
  have e:zq M.l=(M.SM[M.SM.length-1]'(by omega)).2.s.reach:=by
   unfold LogM.l zq
   rw [z9r,e1]
   rfl
  rw [e]
  have hs:=z6k (show M.SM.length-1<M.SM.length by omega) hs
  exact ⟨rfl,rfl,z1h M hok (hs.pick [1,1])⟩
def z6e (seg:Int) (l:List SegA) (n:Nat):Bool:=match l.getLast? with
 | none=>false
 | some s=>decide (z0b s.bs=0) || decide (((s.file.length+n:Nat):Int)<=seg)
theorem z02j (n:Nat) (hn:n<=1000000000) [hf:Fo l lgQ lg M r] (hlen:M.SM.length<=1000000000) (hfl:∀ s ∈ M.l,s.file.length<=1000000000) (hs:Sat w l):Ret P F.a137 #[.pointer (some ⟨lg,0,none⟩),.int .i64 (n:Int)] w λvs w'=>vs=[.bool (z6e M.seg M.l n)]/\Sat w' (lgQ lg M::r) :=
 zmt _ _ <| by
  delta zz7 AF AL AN AO AX Ad Ag Ap As
  refine z8 (zeq (lg:=lg) hlen hs) λ_ w' hs=>?_
  obtain ⟨rfl,hs⟩:=hs
  refine zb ?_
  refine zy hs λw' hs=>?_
  by_cases h0:M.SM=[]
  ·have e:z6e M.seg M.l n=false:=by unfold LogM.l z6e;rw [h0];rfl
   rw [e,h0]
   refine zri ?_ (λh=>by cases h)
   refine zrh (0:Int) (λh=>by cases h) ?_
   refine zri ?_ (λh=>by cases h.1)
   refine zrh (0:Int) (λh=>by cases h.1) ?_
   refine zri ?_ (λh=>by cases h.1)
   refine zrh (0:Int) (λh=>by cases h.1) ?_
   refine wp_lt ?_
   refine zd ?_
   exact ⟨rfl,rfl,hs⟩
  have hp:=List.length_pos_iff.2 h0
  have e1:M.SM.getLast? = some (M.SM[M.SM.length-1]'(by omega)):=by
   rw [List.getLast?_eq_getElem?,List.getElem?_eq_getElem (by omega)]
  have e:z6e M.seg M.l n=(decide (z0b (M.SM[M.SM.length-1]'(by omega)).2.s.bs=0) || decide ((((M.SM[M.SM.length-1]'(by omega)).2.s.file.length+n:Nat):Int)<=M.seg)):=by
   unfold LogM.l z6e
   rw [z9r,e1]
   rfl
  have hfl':=hfl _ (List.mem_map.2 ⟨_,List.getElem_mem (show M.SM.length-1<M.SM.length by omega),rfl⟩)
  rw [e,e1]
  obtain ⟨hok,hs⟩:=z2j hs
  have hs:=z3i (z8x (hs.pick [2]) (show M.SM.length-1<M.SM.length by omega))
  refine z0k ?_
  refine za hs ?_
  refine z0k ?_
  refine za hs ?_
  refine z0k ?_
  refine za hs ?_
  rw [w64 (by omega) (by omega)]
  refine wp_lt ?_
  refine zd ?_
  have hs:=z6k (show M.SM.length-1<M.SM.length by omega) (z2g (M.SM[M.SM.length-1]'(by omega)).2 hs)
  refine ⟨rfl,?_,z1h M hok (hs.pick [1,1])⟩
  rfl
theorem zy2 (a:Nat) (t:SegM) {r0:List HP} [hf:Fo l lgQ lg M r0] [hf2:Fo r0 (z0m M.gap) a t r] (hlen:M.SM.length<=1000000000) (hs:Sat w l) :
  Ret P F.a142 #[.pointer (some ⟨lg,0,none⟩),.pointer (some ⟨a,0,none⟩)] w λvs w'=>∃ z:Sl,vs=[]/\Sat w' (lgQ lg { M with z:=z,SM:=M.SM++[(a,t)] }::r) :=
 zmx _ _ <| by
  delta zzb AI AR AS AT Ad Ap
  obtain ⟨hok,hs⟩:=z2j (hs.perm (hf.perm.trans (.cons _ hf2.perm)))
  have hl:=hs.slen M.z (xs:=M.SM.map Prod.fst) (enc:=z1j)
  refine zk ?_
  refine za hs ?_
  refine z67 (xs:=M.SM.map Prod.fst) (enc:=z1j) (y:=a) hs (λz w' hs=>?_) rfl (by rw [List.length_map];omega)
  refine zk ?_
  refine z07 hs λw' hs=>?_
  refine ⟨rfl,z,rfl,?_⟩
  have hs:Sat w' (pt lg (.cells #[.pointer (some ⟨M.d,0,none⟩),.string M.pre,.int .i64 M.seg,.int .i64 M.gap,.slice z.a z.len z.cap] T.a44)::slc T.a29 1 z ((M.SM.map Prod.fst++[a]).flatMap z1j)::HP.all (M.SM.map λt=>z0m M.gap t.1 t.2)::z0m M.gap a t::r):=hs
  have h1:Sat w' (HP.all (((a,t)::M.SM).map λt=>z0m M.gap t.1 t.2)::pt lg (.cells #[.pointer (some ⟨M.d,0,none⟩),.string M.pre,.int .i64 M.seg,.int .i64 M.gap,.slice z.a z.len z.cap] T.a44)::slc T.a29 1 z ((M.SM.map Prod.fst++[a]).flatMap z1j)::r):=(hs.pick [3,2]).all_put
  have h2:=h1.all_perm ((List.perm_append_comm (l₁:=[(a,t)]) (l₂:=M.SM)).map λt=>z0m M.gap t.1 t.2)
  refine z1h { M with z:=z,SM:=M.SM++[(a,t)] } hok ?_
  have e:(M.SM++[(a,t)]).map Prod.fst=M.SM.map Prod.fst++[a]:=by simp
  show Sat w' (pt lg _::slc T.a29 1 z (((M.SM++[(a,t)]).map Prod.fst).flatMap z1j)::HP.all ((M.SM++[(a,t)]).map λt=>z0m M.gap t.1 t.2)::r)
  rw [e]
  exact h2.pick [1,1]
end
theorem z0a.mem:∀ {n:Int} {l:List SegA},z0a n l->∀ s ∈ l,SegOk s/\n<=s.base
 | _,a::l,⟨h1,h2,h3⟩,s,hs=>by
  rcases List.mem_cons.1 hs with rfl|hs
  ·exact ⟨h2,h1⟩
  ·have:=h3.mem s hs
   exact ⟨this.1,by omega⟩
def z0i (pre:ByteArray) (l:List SegA) (D:DiskA):Int × DiskA:=match l.getLast? with
 | none=>(0,D)
 | some s=>z1m D [zl pre s.base zr]
def BatM.to (b:BatM) (n:Int):BatM:=⟨n,b.pid,b.epoch,b.seq,b.kind,b.time,b.x,b.rs⟩
def zw:Int->List BatM->Int × List BatM
 | _,[]=>(0,[])
 | n,b::bs=>if z03 (b.to n)≠0 then (z03 (b.to n),[]) else if (zw (n+zo b) bs).1≠0 then ((zw (n+zo b) bs).1,[]) else (0,b.to n::(zw (n+zo b) bs).2)
def frP (p:Sl × List UInt8):HP:=slc T.a48 1 p.1 (p.2.flatMap zf)
theorem zc9:∀ {bs:List BatM} {n:Int},(zw n bs).1=0->(zw n bs).2.length=bs.length/\(∀ b ∈ (zw n bs).2,z03 b=0/\∃ c ∈ bs,b.x=c.x/\b.rs=c.rs)/\∀ b,(zw n bs).2.head? = some b->b.base=n
 | [],n,_=>⟨rfl,(λ_ h=>by cases h),(λ_ h=>by cases h)⟩
 | b::bs,n,h=>by
  unfold zw at h ⊢
  by_cases h1:z03 (b.to n)≠0
  ·rw [if_pos h1] at h;exact absurd h h1
  rw [if_neg h1] at h ⊢
  by_cases h2:(zw (n+zo b) bs).1≠0
  ·rw [if_pos h2] at h;exact absurd h h2
  rw [if_neg h2]
  obtain ⟨i1,i2,-⟩:=zc9 (Decidable.not_not.1 h2)
  refine ⟨by simp [i1],λc hc=>?_,λc hc=>?_⟩
  ·rcases List.mem_cons.1 hc with rfl|hc
   ·exact ⟨Decidable.not_not.1 h1,b,List.mem_cons_self ..,rfl,rfl⟩
   ·obtain ⟨v,d,hd,e⟩:=i2 c hc
    exact ⟨v,d,List.mem_cons_of_mem _ hd,e⟩
  ·simp at hc;subst hc;rfl
theorem zoh:∀ {bs:List BatM},(∀ b ∈ bs,z03 b=0)->(bs.flatMap frL).length<=bs.length*262152
 | [],_=>by simp
 | b::bs,h=>by
  have h1:=z4i (h b (List.mem_cons_self ..))
  have h2:=z5e (h b (List.mem_cons_self ..))
  have h3:=zoh λx hx=>h x (List.mem_cons_of_mem _ hx)
  rw [List.flatMap_cons,List.length_append,List.length_cons]
  omega
section
variable {w:World} {l r:List HP} {lg:Nat} {M:LogM} {D:DiskA} {gap:Int} {a:Nat} {t:SegM}
theorem zea {fs:List (Sl × List UInt8)} {p:Sl × List UInt8} (hp:p ∈ fs) [hf:Foc l (HP.all (fs.map frP)) r]:FocR l p.1 1 (p.2.flatMap zf):=⟨λw hs=>by
 obtain ⟨L,hs⟩:=(hs.perm hf.perm).all_mem hp
 exact Sat.rd hs⟩
theorem zkg:∀ {fs gs:List (Sl × List UInt8)},(∀ p ∈ gs,FocR l p.1 1 (p.2.flatMap zf))->z98 l (gs.map Prod.fst) (gs.map Prod.snd)
 | _,[],_=>trivial
 | fs,p::gs,h=>⟨(h p (List.mem_cons_self ..)).rd,zkg (fs:=fs) λq hq=>h q (List.mem_cons_of_mem _ hq)⟩
theorem zoz {r1:List HP} [hf:Fo l lgQ lg M r1] [hf2:Fo r1 dk M.d D r] (hlen:M.SM.length<=1000000000) (hok:z0a 0 M.l) (hs:Sat w l) :
  Ret P F.a133 #[.pointer (some ⟨lg,0,none⟩)] w λvs w'=>vs=[.int .i64 (z0i M.pre M.l D).1]/\Sat w' (lgQ lg M::dk M.d (z0i M.pre M.l D).2::r) :=
 zmp _ <| by
  delta zz3 AI AL AN AR AX Ad Af Ah Ak Am Ap Ar Ay Ba Bg
  have hs:=hs.perm (hf.perm.trans (.cons _ hf2.perm))
  refine z06 ?_ (by simp)
  refine z8 (zeq (lg:=lg) hlen hs) λ_ w' hs=>?_
  obtain ⟨rfl,hs⟩:=hs
  refine zb ?_
  by_cases h0:M.SM=[]
  ·have e:z0i M.pre M.l D=(0,D):=by unfold LogM.l z0i;rw [h0];rfl
   rw [e,h0]
   refine z06 ?_ (by simp [zwo])
   exact ⟨rfl,rfl,hs⟩
  have hp:=List.length_pos_iff.2 h0
  have hsz:M.SM.length-1<M.SM.length:=by omega
  have e1:M.SM.getLast? = some (M.SM[M.SM.length-1]'hsz):=by
   rw [List.getLast?_eq_getElem?,List.getElem?_eq_getElem (by omega)]
  have e:z0i M.pre M.l D=z1m D [zl M.pre (M.SM[M.SM.length-1]'hsz).2.s.base zr]:=by
   unfold LogM.l z0i
   rw [z9r,e1]
   rfl
  have hmem:(M.SM[M.SM.length-1]'hsz).2.s ∈ M.l:=List.mem_map.2 ⟨_,List.getElem_mem hsz,rfl⟩
  have hbase:=(hok.mem _ hmem).1.base
  rw [e,e1]
  obtain ⟨hokm,hs⟩:=z2j hs
  have hpre:M.pre.size<=100:=by
   have:=hokm.pre
   unfold z3q at this
   rw [Bool.and_eq_true,decide_eq_true_eq] at this
   omega
  refine z0g ?_ (by simp [zwo])
  have hs:=z3i (z8x (hs.pick [2]) hsz)
  refine zg (λq w'=>q=((z1m D [zl M.pre (M.SM[M.SM.length-1]'hsz).2.s.base zr]).1,())/\Sat w' (lgQ lg M::dk M.d (z1m D [zl M.pre (M.SM[M.SM.length-1]'hsz).2.s.base zr]).2::r)) ?_ ?_
  rotate_left
  ·rintro _ w2 ⟨rfl,hs⟩
   exact ⟨rfl,rfl,hs⟩
  refine zy hs λw' hs=>?_
  refine zk ?_
  refine z18 hs ?_
  refine zk ?_
  refine za hs ?_
  refine z8 (z7a (lg:=lg) _ (by omega) (ByteArray.mk #[46,108,111,103]) (by decide) M.pre hpre hs) λ_ w' hs=>?_
  obtain ⟨rfl,hs⟩:=hs
  refine zb ?_ (by first|trivial|(repeat (first|exact trivial|exact λ_=>z09 hs|exact λ_=>z0q hs|refine And.intro ?_ ?_)))
  refine z7i hs (enc:=z21) [zl M.pre (M.SM[M.SM.length-1]'hsz).2.s.base zr] λy w' hs=>⟨(by first|trivial|(repeat (first|exact trivial|exact λ_=>z09 hs|exact λ_=>z0q hs|refine And.intro ?_ ?_))),?_⟩
  refine zd ?_
  refine z8 (z03m (d:=M.d) y [zl M.pre (M.SM[M.SM.length-1]'hsz).2.s.base zr] (by show 1<=100000;omega) hs) λ_ w' hs=>?_
  obtain ⟨rfl,hs⟩:=hs
  refine zb ?_
  refine wp_lt ?_
  refine zd ?_
  refine zj ⟨rfl,?_⟩
  replace hs:Sat _ (z0m M.gap _ _::_):=z2g (M.SM[M.SM.length-1]'hsz).2 (hs.pick [2,2])
  have hs:=z6k hsz (hs.pick [0,2])
  exact (z1h M hokm (hs.pick [3,3])).sub
theorem zwg (x:Sl) (bs:List BatM) [hf:Fo l lgQ lg M r] (hlen:M.SM.length<=1000000000) (hbl:bs.length<=100000) (hx:FocR r x 7 (bs.flatMap zu)) (hbs:∀ b ∈ bs,FocR r b.x 4 (b.rs.flatMap z02)) (hs:Sat w l) :
  Ret P F.a141 #[.pointer (some ⟨lg,0,none⟩),x.v] w λvs w' =>
   ((zw (zq M.l) bs).1≠0/\vs=[.slice none 0 0,.slice none 0 0,.int .i64 (zw (zq M.l) bs).1]/\Sat w' (lgQ lg M::r)) \/
   ((zw (zq M.l) bs).1=0/\∃ (z1 z2:Sl) (fs:List (Sl × List UInt8)),vs=[z1.v,z2.v,.int .i64 0]/\fs.map Prod.snd=(zw (zq M.l) bs).2.map frL /\
    Sat w' (slc T.a0 7 z1 ((zw (zq M.l) bs).2.flatMap zu)::slc T.a42 1 z2 ((fs.map Prod.fst).flatMap z0c)::HP.all (fs.map frP)::lgQ lg M::r)) :=
 zmw _ x <| by
  delta zza AB AC AD AF AK AR AT Aa Ac Ad Af Ah Ak Al Am An Ap
  have hs:=hs.perm hf.perm
  have hl:=hs.slen x (xs:=bs) (enc:=zu)
  refine z8 (za6 (lg:=lg) hlen hs) λ_ w' hs=>?_
  obtain ⟨rfl,hs⟩:=hs
  refine zb ?_
  refine wp_lt ?_
  generalize zq M.l=n0
  refine zg (λq w'=>∃ (z1 z2:Sl) (fs:List (Sl × List UInt8)),(zw n0 bs).1=0/\q=(z1,z2,())/\fs.map Prod.snd=(zw n0 bs).2.map frL /\
    Sat w' (slc T.a0 7 z1 ((zw n0 bs).2.flatMap zu)::slc T.a42 1 z2 ((fs.map Prod.fst).flatMap z0c)::HP.all (fs.map frP)::lgQ lg M::r)) ?_ ?_
  rotate_left
  ·rintro _ w2 ⟨z1,z2,fs,h1,rfl,h2,hs⟩
   exact ⟨rfl,.inr ⟨h1,z1,z2,fs,rfl,h2,hs⟩⟩
  have h0:Sat w' (slc T.a0 7 ⟨none,0,0⟩ (([]:List BatM).flatMap zu)::slc T.a42 1 ⟨none,0,0⟩ (((([]:List (Sl × List UInt8))).map Prod.fst).flatMap z0c)::HP.all ((([]:List (Sl × List UInt8))).map frP)::lgQ lg M::r):=(Sat.all_nil hs).slc_nil.slc_nil
  refine z04 (λm v w=>∃ (i:Nat) (n:Int) (done:List BatM) (z1 z2:Sl) (fs:List (Sl × List UInt8)),v=(n,z1,z2,(i:Int),())/\i<=bs.length/\bs.length-i=m/\done.length=i/\fs.length=i /\
   zw n0 bs=(if (zw n (bs.drop i)).1≠0 then ((zw n (bs.drop i)).1,[]) else (0,done++(zw n (bs.drop i)).2))/\fs.map Prod.snd=done.map frL /\
   Sat w (slc T.a0 7 z1 (done.flatMap zu)::slc T.a42 1 z2 ((fs.map Prod.fst).flatMap z0c)::HP.all (fs.map frP)::lgQ lg M::r)) bs.length
   ⟨0,n0,[],⟨none,0,0⟩,⟨none,0,0⟩,[],rfl,by omega,rfl,rfl,rfl,?_,rfl,h0⟩ ?_
  ·rw [List.drop_zero,List.nil_append]
   by_cases h:(zw n0 bs).1≠0
   ·rw [if_pos h]
    have:∀ {bs:List BatM} {n:Int},(zw n bs).1≠0->(zw n bs).2=[]:=by
     intro bs
     induction bs with
     | nil=>intro n h;exact absurd rfl h
     | cons b bs ih =>
      intro n h
      unfold zw at h ⊢
      split
      ·rfl
      ·split
       ·rfl
       ·rename_i h1 h2
        rw [if_neg h1,if_neg h2] at h
        exact absurd rfl h
    rw [<- this h]
   ·rw [if_neg h]
    have h:=Decidable.not_not.1 h
    rw [<- h]
  clear hs h0
  rintro m _ w ⟨i,n,done,z1,z2,fs,rfl,hi,hm,hdl,hfl,hpl,hfs,hs⟩
  refine zm ?_
  refine ze (λhc=>?_) λhc=>?_
  rotate_left
  ·have e:bs.drop i=[]:=List.drop_eq_nil_of_le (by omega)
   rw [e] at hpl
   simp only [zw,List.append_nil] at hpl
   have hpl:zw n0 bs=(0,done):=by rw [hpl];rfl
   refine zh (zj ⟨z1,z2,fs,by rw [hpl],rfl,by rw [hpl];exact hfs,?_⟩)
   rw [hpl]
   exact hs
  have hil:i<bs.length:=by omega
  have hdrop:bs.drop i=bs[i]::bs.drop (i+1):=List.drop_eq_getElem_cons hil
  rw [hdrop] at hpl
  have hR:=hbs bs[i] (List.getElem_mem hil)
  refine z68 hs (xs:=bs) (enc:=zu) i hil ?_
  refine zt hs λa w' hs=>?_
  refine zv hs λw' hs=>?_
  refine z07 hs λw' hs=>?_
  refine zi hs ?_
  have hRt:FocR r (bs[i].to n).x 4 ((bs[i].to n).rs.flatMap z02):=hR
  refine z8 (zvl (bs[i].to n) hs) λ_ w' hs=>?_
  have hunf:zw n (bs[i]::bs.drop (i+1))=if z03 (bs[i].to n)≠0 then (z03 (bs[i].to n),[]) else if (zw (n+zo bs[i]) (bs.drop (i+1))).1≠0 then ((zw (n+zo bs[i]) (bs.drop (i+1))).1,[]) else (0,bs[i].to n::(zw (n+zo bs[i]) (bs.drop (i+1))).2):=rfl
  rcases hs with ⟨hv,rfl,hs⟩|⟨hv,y,rfl,hs⟩
  ·refine zb ?_
   refine wp_lt ?_
   refine z0g ?_ hv
   refine wp_lt ?_
   rw [if_pos hv] at hunf
   have hpl:zw n0 bs=(z03 (bs[i].to n),[]):=by rw [hpl,hunf,if_pos hv]
   refine zh (zh ⟨rfl,.inl ⟨by rw [hpl];exact hv,by rw [hpl],hs.sub⟩⟩)
  ·refine zb ?_
   refine wp_lt ?_
   refine z06 ?_ (by simp)
   rw [if_neg (by rw [hv];simp)] at hunf
   have hbl2:=z5e hv
   have hfrl:=z4i hv
   refine zi hs ?_
   refine z67 (xs:=done) (enc:=zu) (y:=bs[i].to n) hs (λz1' w' hs=>?_) rfl (by omega)
   refine zac hs (enc:=z0c) [y] λy2 w' hs=>?_
   refine z8 (zvo y2 y (z2c (bs[i].to n)) (by omega) hs) λ_ w' hs=>?_
   obtain ⟨y3,rfl,hs⟩:=hs
   refine zb ?_
   refine z67 (xs:=fs.map Prod.fst) (enc:=z0c) (y:=y3) hs (λz2' w' hs=>?_) rfl (by rw [List.length_map];omega)
   refine zi hs ?_
   refine z8 (z8h (bs[i].to n) hs) λ_ w' hs=>?_
   obtain ⟨rfl,hs⟩:=hs
   refine zb ?_
   refine wp_lt ?_
   rw [wS (i:=i) (by omega)]
   have en:z1l (bs[i].to n)=n+zo bs[i]:=by
    unfold z1l
    rw [if_neg (by rw [hv];simp)]
    rfl
   rw [en]
   refine z16 (bs.length-(i+1)) ⟨i+1,n+zo bs[i],done++[bs[i].to n],z1',z2',fs++[(y3,frL (bs[i].to n))],rfl,by omega,rfl,by simp [hdl],by simp [hfl],?_,by simp [hfs],?_⟩
   ·rw [hpl,hunf]
    by_cases h2:(zw (n+zo bs[i]) (bs.drop (i+1))).1≠0
    ·rw [if_pos h2,if_pos h2,if_pos h2]
    ·rw [if_neg h2,if_neg h2,if_neg (by simp),List.append_assoc]
     rfl
   ·have e2:(fs++[(y3,frL (bs[i].to n))]).map Prod.fst=fs.map Prod.fst++[y3]:=by simp
    rw [e2]
    have hs:Sat w' (slc T.a42 1 z2' ((fs.map Prod.fst++[y3]).flatMap z0c)::slc T.a48 1 y3 ((frL (bs[i].to n)).flatMap zf)::slc T.a42 1 y2 (([y]:List Sl).flatMap z0c)::slc T.a0 7 z1' ((done++[bs[i].to n]).flatMap zu)::_):=hs
    have hs:Sat w' (frP (y3,frL (bs[i].to n))::HP.all (fs.map frP)::slc T.a0 7 z1' ((done++[bs[i].to n]).flatMap zu)::slc T.a42 1 z2' ((fs.map Prod.fst++[y3]).flatMap z0c)::lgQ lg M::r):=by
     have h3:Sat w' (slc T.a48 1 y3 ((frL (bs[i].to n)).flatMap zf)::HP.all (fs.map frP)::slc T.a0 7 z1' ((done++[bs[i].to n]).flatMap zu)::slc T.a42 1 z2' ((fs.map Prod.fst++[y3]).flatMap z0c)::lgQ lg M::r):=hs.sub
     exact h3
    have h4:Sat w' (HP.all (((y3,frL (bs[i].to n))::fs).map frP)::_):=hs.all_put
    have h5:=h4.all_perm ((List.perm_append_comm (l₁:=[(y3,frL (bs[i].to n))]) (l₂:=fs)).map frP)
    exact h5.pick [1,1]
end
def z4o (l:List SegA):Int:=match l.getLast? with
 | none=>0
 | some s=>s.base
def z4h (l:List SegA) (bs:List BatM):List SegA:=match l.getLast? with
 | none=>l
 | some s=>l.dropLast++[s.add bs]
def z0u (pre:ByteArray) (seg:Int) (l:List SegA) (D:DiskA) (bs:List BatM):(Int × Int) × List SegA × DiskA :=
 if bs=[] then ((0,3),l,D) else
 if (zw (zq l) bs).1≠0 then ((0,(zw (zq l) bs).1),l,D) else
 if z6e seg l ((zw (zq l) bs).2.flatMap frL).length then
  if (z08 D (zl pre (z4o l) zr) ((zw (zq l) bs).2.flatMap frL)).1≠0 then ((0,(z08 D (zl pre (z4o l) zr) ((zw (zq l) bs).2.flatMap frL)).1),l,(z08 D (zl pre (z4o l) zr) ((zw (zq l) bs).2.flatMap frL)).2)
  else ((zq l,0),z4h l (zw (zq l) bs).2,(z08 D (zl pre (z4o l) zr) ((zw (zq l) bs).2.flatMap frL)).2)
 else
  if (z0i pre l D).1≠0 then ((0,(z0i pre l D).1),l,(z0i pre l D).2) else
  if (z08 (z0i pre l D).2 (zl pre (zq l) zr) (shL (zq l) 0++(zw (zq l) bs).2.flatMap frL)).1≠0 then ((0,(z08 (z0i pre l D).2 (zl pre (zq l) zr) (shL (zq l) 0++(zw (zq l) bs).2.flatMap frL)).1),l,(z08 (z0i pre l D).2 (zl pre (zq l) zr) (shL (zq l) 0++(zw (zq l) bs).2.flatMap frL)).2)
  else ((zq l,0),l++[(⟨zq l,0,[]⟩:SegA).add (zw (zq l) bs).2],(z08 (z0i pre l D).2 (zl pre (zq l) zr) (shL (zq l) 0++(zw (zq l) bs).2.flatMap frL)).2)
def LogA.set (A:LogA) (l:List SegA):LogA:=⟨A.d,A.pre,A.seg,A.gap,l⟩
theorem z0a.next:∀ {n:Int} {l:List SegA},0<=n->z0a n l->0<=zq l/\zq l<=1099511627777
 | _,[],_,_=>⟨by decide,by decide⟩
 | n,[s],hn,⟨h1,h2,_⟩=>by
  have:=z4v h2
  have:=h2.base
  show 0<=s.reach/\s.reach<=_
  omega
 | n,s::t::l,hn,⟨h1,h2,h3⟩=>by
  have:=h2.base
  have:=z0a.next (by omega) h3
  exact this
instance:EncF zu 0 (.int .i64) (λb=>b.base):=⟨λ_=>rfl⟩
section
variable {w:World} {l r:List HP} {lg:Nat} {M:LogM} {A:LogA} {D:DiskA} {gap:Int} {a:Nat} {t:SegM}
theorem zbc {SM0:List (Nat × SegM)} (h:M.SM=SM0++[(a,t)]) (hs:Sat w (lgQ lg M::l)):okM M.gap M.seg M.pre /\
  Sat w (z0m M.gap a t::pt lg (.cells #[.pointer (some ⟨M.d,0,none⟩),.string M.pre,.int .i64 M.seg,.int .i64 M.gap,.slice M.z.a M.z.len M.z.cap] T.a44)::slc T.a29 1 M.z ((SM0.map Prod.fst++[a]).flatMap z1j)::HP.all (SM0.map λt=>z0m M.gap t.1 t.2)::l):=by
 obtain ⟨hok,hs⟩:=z2j hs
 rw [h] at hs
 have h1:=(hs.pick [2]).all_perm ((List.perm_append_comm (l₁:=SM0) (l₂:=[(a,t)])).map λt=>z0m M.gap t.1 t.2)
 have h2:Sat w (z0m M.gap a t::HP.all (SM0.map λt=>z0m M.gap t.1 t.2)::_):=h1.all_cons
 rw [List.map_append] at h2
 exact ⟨hok,h2.pick [0,1,1]⟩
theorem za5 (M:LogM) {SM0:List (Nat × SegM)} (hok:okM M.gap M.seg M.pre) (hs:Sat w (z0m M.gap a t::pt lg (.cells #[.pointer (some ⟨M.d,0,none⟩),.string M.pre,.int .i64 M.seg,.int .i64 M.gap,.slice M.z.a M.z.len M.z.cap] T.a44)::slc T.a29 1 M.z ((SM0.map Prod.fst++[a]).flatMap z1j)::HP.all (SM0.map λt=>z0m M.gap t.1 t.2)::l)) :
  Sat w (lgQ lg { M with SM:=SM0++[(a,t)] }::l):=by
 have h1:Sat w (HP.all (((a,t)::SM0).map λt=>z0m M.gap t.1 t.2)::_):=(hs.pick [0,2]).all_put
 have h2:=h1.all_perm ((List.perm_append_comm (l₁:=[(a,t)]) (l₂:=SM0)).map λt=>z0m M.gap t.1 t.2)
 refine z1h { M with SM:=SM0++[(a,t)] } hok ?_
 show Sat w (pt lg _::slc T.a29 1 M.z (((SM0++[(a,t)]).map Prod.fst).flatMap z1j)::HP.all ((SM0++[(a,t)]).map λt=>z0m M.gap t.1 t.2)::l)
 rw [List.map_append]
 exact h2.pick [1,1]
theorem z30 {α:Type} {l:List α} (h:l≠[]):∃ (l0:List α) (x:α),l=l0++[x]:=⟨l.dropLast,l.getLast h,(List.dropLast_concat_getLast h).symm⟩
theorem zkf {fs:List (Sl × List UInt8)} (h:∀ p ∈ fs,FocR l p.1 1 (p.2.flatMap zf)):z98 l (fs.map Prod.fst) (fs.map Prod.snd):=zkg (fs:=fs) h
theorem okM.size {g s:Int} {p:ByteArray} (h:okM g s p):p.size<=100:=by
 have:=h.pre
 unfold z3q at this
 rw [Bool.and_eq_true,decide_eq_true_eq] at this
 omega
set_option maxHeartbeats 1000000 in
theorem ztz (x:Sl) (bs:List BatM) {r1:List HP} [hf:Fo l lgP lg A r1] [hf2:Fo r1 dk A.d D r] (hlen:A.l.length<=1000000) (hok:z0a 0 A.l) (hfl:∀ s ∈ A.l,s.file.length<=500000000) (hbl:bs.length<=900)
  (hx:FocR r x 7 (bs.flatMap zu)) (hbs:∀ b ∈ bs,FocR r b.x 4 (b.rs.flatMap z02)) (hs:Sat w l) :
  Ret P F.a125 #[.pointer (some ⟨lg,0,none⟩),x.v] w λvs w'=>vs=[.int .i64 (z0u A.pre A.seg A.l D bs).1.1,.int .i64 (z0u A.pre A.seg A.l D bs).1.2] /\
   Sat w' (lgP lg (A.set (z0u A.pre A.seg A.l D bs).2.1)::dk A.d (z0u A.pre A.seg A.l D bs).2.2::r) :=
 zdh _ x <| by
  delta zro AA AB AC AD AE AF AI AL AN AR AS AX Aa Ac Ad Af Ah Ak Al Am An Ao Ap Ar Ay Az Ba Bg Bj Br Bz
  have hs:=hs.perm (hf.perm.trans (.cons _ hf2.perm))
  clear hf hf2
  obtain ⟨M,rfl,hs⟩:=z77 hs
  have hlxs:=hs.slen x (xs:=bs) (enc:=zu)
  have hMl:M.A.l=M.l:=rfl
  have hMpre:M.A.pre=M.pre:=rfl
  have hMseg:M.A.seg=M.seg:=rfl
  have hMd:M.A.d=M.d:=rfl
  rw [hMl] at hlen hok hfl ⊢
  rw [hMpre,hMseg,hMd]
  rw [hMd] at hs
  have hll:M.l.length=M.SM.length:=List.length_map ..
  have hnx:=hok.next (Int.le_refl 0)
  have hsame:∀ {w:World} {D':DiskA},Sat w (lgQ lg M::dk M.d D'::r)->Sat w (lgP lg (M.A.set M.l)::dk M.d D'::r):=λhs=>z3z M hs
  unfold z0u
  refine z06 ?_ (by simp)
  refine ze (λh=>?_) λh=>?_
  ·have:bs=[]:=List.length_eq_zero_iff.1 (by omega)
   rw [if_pos this]
   exact ⟨rfl,rfl,hsame hs⟩
  rw [if_neg (by rintro rfl;simp at hlxs;omega)]
  have hx':FocR (dk M.d D::r) x 7 (bs.flatMap zu):=inferInstance
  refine z8 (zwg (lg:=lg) x bs (by omega) (by omega) inferInstance (λb hb=>by have:=hbs b hb;infer_instance) hs) λ_ w' hs=>?_
  have hplo:=zc9 (bs:=bs) (n:=zq M.l)
  rcases hs with ⟨he,rfl,hs⟩|⟨he,z1,z2,fs,rfl,hfs,hs⟩
  ·refine zb ?_
   refine wp_lt ?_
   refine z0g ?_ he
   refine wp_lt ?_
   rw [if_pos he]
   exact ⟨rfl,rfl,hsame hs⟩
  refine zb ?_
  refine wp_lt ?_
  refine z06 ?_ (by simp)
  rw [if_neg (by rw [he];simp)]
  obtain ⟨hp1,hp2,hp3⟩:=hplo he
  have hbl0:0<bs.length:=by
   apply Nat.pos_of_ne_zero
   intro h0
   rw [h0] at hlxs
   omega
  generalize hn0:zq M.l=n0 at *
  generalize hPL:zw n0 bs=PL at *
  obtain ⟨e0,q⟩:=PL
  have he:e0=0:=he
  subst he
  dsimp only at hp1 hp2 hp3 hfs hs ⊢
  have hsum:=zoh λb hb=>(hp2 b hb).1
  have hfsl:fs.length=q.length:=by have:=congrArg List.length hfs;simpa using this
  have hfl1:=hs.slen z2 (xs:=fs.map Prod.fst) (enc:=z0c)
  rw [List.length_map] at hfl1
  have hfget:∀ (i:Nat) (h:i<fs.length),fs[i].2=frL (q[i]'(by omega)):=λi h=>by
   have:=List.getElem_of_eq hfs (i:=i) (by rw [List.length_map];exact h)
   simpa using this
  have hfsum:∀ i,((q.take i).flatMap frL).length<=(q.flatMap frL).length:=λi=>by
   have:(q.flatMap frL)=(q.take i).flatMap frL++(q.drop i).flatMap frL:=by rw [<- List.flatMap_append,List.take_append_drop]
   rw [this,List.length_append];omega
  refine zg (λv w'=>v=(((q.flatMap frL).length:Int),())/\Sat w' (slc T.a0 7 z1 (q.flatMap zu)::slc T.a42 1 z2 ((fs.map Prod.fst).flatMap z0c)::HP.all (fs.map frP)::lgQ lg M::dk M.d D::r)) ?_ ?_
  ·refine z04 (λm v w=>∃ i:Nat,v=((((q.take i).flatMap frL).length:Int),((i:Int),()))/\i<=q.length/\q.length-i=m/\Sat w (slc T.a0 7 z1 (q.flatMap zu)::slc T.a42 1 z2 ((fs.map Prod.fst).flatMap z0c)::HP.all (fs.map frP)::lgQ lg M::dk M.d D::r)) q.length ⟨0,rfl,by omega,rfl,hs⟩ ?_
   clear hs
   rintro m _ w ⟨i,rfl,hi,hm,hs⟩
   refine zm ?_
   refine ze (λhc=>?_) λhc=>?_
   rotate_left
   ·refine zh (zj ⟨?_,hs⟩)
    rw [List.take_of_length_le (by omega)]
   have hil:i<q.length:=by omega
   have hil2:i<fs.length:=by omega
   refine z1v hs (xs:=fs.map Prod.fst) (enc:=z0c) i (by rw [List.length_map];omega) ?_
   have e1:(fs.map Prod.fst)[i]'(by rw [List.length_map];omega)=fs[i].1:=by simp
   rw [e1]
   have hR:FocR (HP.all (fs.map frP)::lgQ lg M::dk M.d D::r) fs[i].1 1 (fs[i].2.flatMap zf):=zea (List.getElem_mem hil2)
   have hl2:=hs.slen fs[i].1 (xs:=fs[i].2) (enc:=zf)
   rw [hfget i hil2] at hl2
   have hfi:((q.take (i+1)).flatMap frL).length=((q.take i).flatMap frL).length+(frL q[i]).length:=by
    rw [List.take_succ_eq_append_getElem hil,List.flatMap_append,List.length_append];simp
   have:=hfsum (i+1)
   rw [hl2,w64 (by omega) (by omega)]
   refine wp_lt ?_
   rw [wS (i:=i) (by omega)]
   have ec:(((q.take i).flatMap frL).length:Int)+((frL q[i]).length:Nat)=(((q.take (i+1)).flatMap frL).length:Int):=by rw [hfi];omega
   rw [ec]
   exact z16 (q.length-(i+1)) ⟨i+1,rfl,by omega,rfl,hs⟩
  clear hs
  rintro _ w ⟨rfl,hs⟩
  refine zm ?_
  refine z8 (zeq (lg:=lg) (by omega) hs) λ_ w' hs=>?_
  obtain ⟨rfl,hs⟩:=hs
  refine zb ?_
  refine z8 (z02j (lg:=lg) (q.flatMap frL).length (by omega) (by omega) (λs hs'=>by have:=hfl s hs';omega) hs) λ_ w' hs=>?_
  obtain ⟨rfl,hs⟩:=hs
  refine zb ?_
  generalize hF:q.flatMap frL=Fr at *
  have hbsl:fs.map Prod.snd=q.map frL:=hfs
  have hflat:(fs.map Prod.snd).flatten=Fr:=by rw [hfs,<- hF,List.flatMap]
  have hlbound:∀ p ∈ fs,p.2.length<=262152:=λp hp=>by
   obtain ⟨i,hi,rfl⟩:=List.mem_iff_getElem.1 hp
   rw [hfget i hi]
   have:=z4i (hp2 _ (List.getElem_mem (show i<q.length by omega))).1
   have:=z5e (hp2 _ (List.getElem_mem (show i<q.length by omega))).1
   omega
  refine zg (λv w'=>∃ (M1:LogM) (SM0:List (Nat × SegM)) (a:Nat) (t:SegM) (D1:DiskA),v=(some ⟨a,0,none⟩,())/\M1.SM=SM0++[(a,t)]/\t.s.file.length<=600000000 /\
    (if z6e M.seg M.l Fr.length then
     if (z08 D (zl M.pre (z4o M.l) zr) Fr).1≠0 then ((0,(z08 D (zl M.pre (z4o M.l) zr) Fr).1),M.l,(z08 D (zl M.pre (z4o M.l) zr) Fr).2)
     else ((n0,(0:Int)),z4h M.l q,(z08 D (zl M.pre (z4o M.l) zr) Fr).2)
    else
     if (z0i M.pre M.l D).1≠0 then ((0,(z0i M.pre M.l D).1),M.l,(z0i M.pre M.l D).2) else
     if (z08 (z0i M.pre M.l D).2 (zl M.pre n0 zr) (shL n0 0++Fr)).1≠0 then ((0,(z08 (z0i M.pre M.l D).2 (zl M.pre n0 zr) (shL n0 0++Fr)).1),M.l,(z08 (z0i M.pre M.l D).2 (zl M.pre n0 zr) (shL n0 0++Fr)).2)
     else ((n0,0),M.l++[(⟨n0,0,[]⟩:SegA).add q],(z08 (z0i M.pre M.l D).2 (zl M.pre n0 zr) (shL n0 0++Fr)).2))=((n0,0),(SM0.map λt=>t.2.s)++[t.s.add q],D1) /\
    (M1.d=M.d/\M1.pre=M.pre/\M1.seg=M.seg/\M1.gap=M.gap) /\
    Sat w' (lgQ lg M1::dk M.d D1::slc T.a0 7 z1 (q.flatMap zu)::slc T.a42 1 z2 ((fs.map Prod.fst).flatMap z0c)::HP.all (fs.map frP)::r)) ?_ ?_
  ·refine ze (λhr=>?_) λhr=>?_
   ·
    have hr:z6e M.seg M.l Fr.length=false:=by simpa using hr
    rw [if_neg (by rw [hr];simp)]
    have hs:Sat w' (lgQ lg M::slc T.a0 7 z1 (q.flatMap zu)::slc T.a42 1 z2 ((fs.map Prod.fst).flatMap z0c)::HP.all (fs.map frP)::dk M.d D::r):=hs
    refine z8 (zoz (lg:=lg) (D:=D) (by omega) hok hs) λ_ w' hs=>?_
    obtain ⟨rfl,hs⟩:=hs
    refine zb ?_
    refine wp_lt ?_
    refine ze (λh2=>?_) λh2=>?_
    ·refine wp_lt ?_
     rw [if_pos h2]
     refine zh ⟨rfl,rfl,hsame hs.sub⟩
    rw [if_neg h2]
    generalize (z0i M.pre M.l D).2=D1 at *
    refine z8 (za6 (lg:=lg) (by omega) hs) λ_ w' hs=>?_
    obtain ⟨rfl,hs⟩:=hs
    refine zb ?_
    rw [hn0]
    refine z8 (zk1 (lg:=lg) n0 0 (by omega) (by omega) hs) λ_ w' hs=>?_
    obtain ⟨a,ix,rfl,hs⟩:=hs
    refine zb ?_
    have hshl:=zgp n0 0
    refine zg (λv w'=>v=((z08 D1 (zl M.pre n0 zr) (shL n0 0++Fr)).1,())/\Sat w' (z0m M.gap a ⟨ix,⟨n0,0,[]⟩⟩::lgQ lg M::dk M.d (z08 D1 (zl M.pre n0 zr) (shL n0 0++Fr)).2::slc T.a0 7 z1 (q.flatMap zu)::slc T.a42 1 z2 ((fs.map Prod.fst).flatMap z0c)::HP.all (fs.map frP)::r)) ?_ ?_
    ·obtain ⟨hokm,hs⟩:=z2j (hs.pick [1])
     have hs:=z3i (hs.pick [3])
     refine zy hs λw' hs=>?_
     refine zk ?_
     refine z18 hs ?_
     refine zk ?_
     refine za hs ?_
     refine zk ?_
     refine z18 hs ?_
     refine z8 (z7a (lg:=lg) n0 (by omega) (ByteArray.mk #[46,108,111,103]) (by decide) M.pre hokm.size hs) λ_ w' hs=>?_
     obtain ⟨rfl,hs⟩:=hs
     refine zb ?_ (by first|trivial|(repeat (first|exact trivial|exact λ_=>z09 hs|exact λ_=>z0q hs|refine And.intro ?_ ?_)))
     refine z8 (zjr n0 0 (by omega) (by omega) hs) λ_ w' hs=>?_
     obtain ⟨y,rfl,hs⟩:=hs
     refine zb ?_ (by first|trivial|(repeat (first|exact trivial|exact λ_=>z09 hs|exact λ_=>z0q hs|refine And.intro ?_ ?_)))
     refine z7i hs (enc:=z0c) [y] λy2 w' hs=>⟨(by first|trivial|(repeat (first|exact trivial|exact λ_=>z09 hs|exact λ_=>z0q hs|refine And.intro ?_ ?_))),?_⟩
     refine z021 (xs:=[y]) (ys:=fs.map Prod.fst) (enc:=z0c) hs (λy3 w' hs=>⟨(by first|trivial|(repeat (first|exact trivial|exact λ_=>z09 hs|exact λ_=>z0q hs|refine And.intro ?_ ?_))),?_⟩) (by rw [List.length_map];simp only [List.length_cons,List.length_nil];omega)
     refine zd ?_
     have hs:Sat w' (dk M.d D1::slc T.a42 1 y3 (([y]++fs.map Prod.fst).flatMap z0c)::slc T.a48 1 y ((shL n0 0).flatMap zf)::HP.all (fs.map frP)::pt a (.cells #[.pointer (some ⟨ix,0,none⟩),.int .i64 n0,.int .i64 0,.int .i64 (z0b []),.int .i64 (z1a (-1) []),.int .i64 ((SegA.file ⟨n0,0,[]⟩).length:Nat)] T.a45)::z26 ix ((SegA.mk n0 0 []).idx M.gap)::pt lg (.cells #[.pointer (some ⟨M.d,0,none⟩),.string M.pre,.int .i64 M.seg,.int .i64 M.gap,.slice M.z.a M.z.len M.z.cap] T.a44)::slc T.a29 1 M.z ((M.SM.map Prod.fst).flatMap z1j)::HP.all (M.SM.map λt=>z0m M.gap t.1 t.2)::slc T.a0 7 z1 (q.flatMap zu)::slc T.a42 1 z2 ((fs.map Prod.fst).flatMap z0c)::r):=hs.sub
     have hall:∀ p ∈ ((y,shL n0 0)::fs),FocR (slc T.a42 1 y3 (([y]++fs.map Prod.fst).flatMap z0c)::slc T.a48 1 y ((shL n0 0).flatMap zf)::HP.all (fs.map frP)::pt a (.cells #[.pointer (some ⟨ix,0,none⟩),.int .i64 n0,.int .i64 0,.int .i64 (z0b []),.int .i64 (z1a (-1) []),.int .i64 ((SegA.file ⟨n0,0,[]⟩).length:Nat)] T.a45)::z26 ix ((SegA.mk n0 0 []).idx M.gap)::pt lg (.cells #[.pointer (some ⟨M.d,0,none⟩),.string M.pre,.int .i64 M.seg,.int .i64 M.gap,.slice M.z.a M.z.len M.z.cap] T.a44)::slc T.a29 1 M.z ((M.SM.map Prod.fst).flatMap z1j)::HP.all (M.SM.map λt=>z0m M.gap t.1 t.2)::slc T.a0 7 z1 (q.flatMap zu)::slc T.a42 1 z2 ((fs.map Prod.fst).flatMap z0c)::r) p.1 1 (p.2.flatMap zf):=λp hp=>by
      rcases List.mem_cons.1 hp with rfl|hp
      ·infer_instance
      ·have:FocR (HP.all (fs.map frP)::pt a (.cells #[.pointer (some ⟨ix,0,none⟩),.int .i64 n0,.int .i64 0,.int .i64 (z0b []),.int .i64 (z1a (-1) []),.int .i64 ((SegA.file ⟨n0,0,[]⟩).length:Nat)] T.a45)::z26 ix ((SegA.mk n0 0 []).idx M.gap)::pt lg (.cells #[.pointer (some ⟨M.d,0,none⟩),.string M.pre,.int .i64 M.seg,.int .i64 M.gap,.slice M.z.a M.z.len M.z.cap] T.a44)::slc T.a29 1 M.z ((M.SM.map Prod.fst).flatMap z1j)::HP.all (M.SM.map λt=>z0m M.gap t.1 t.2)::slc T.a0 7 z1 (q.flatMap zu)::slc T.a42 1 z2 ((fs.map Prod.fst).flatMap z0c)::r) p.1 1 (p.2.flatMap zf):=zea hp
       infer_instance
     have hpsF:FocR (slc T.a42 1 y3 (([y]++fs.map Prod.fst).flatMap z0c)::slc T.a48 1 y ((shL n0 0).flatMap zf)::HP.all (fs.map frP)::pt a (.cells #[.pointer (some ⟨ix,0,none⟩),.int .i64 n0,.int .i64 0,.int .i64 (z0b []),.int .i64 (z1a (-1) []),.int .i64 ((SegA.file ⟨n0,0,[]⟩).length:Nat)] T.a45)::z26 ix ((SegA.mk n0 0 []).idx M.gap)::pt lg (.cells #[.pointer (some ⟨M.d,0,none⟩),.string M.pre,.int .i64 M.seg,.int .i64 M.gap,.slice M.z.a M.z.len M.z.cap] T.a44)::slc T.a29 1 M.z ((M.SM.map Prod.fst).flatMap z1j)::HP.all (M.SM.map λt=>z0m M.gap t.1 t.2)::slc T.a0 7 z1 (q.flatMap zu)::slc T.a42 1 z2 ((fs.map Prod.fst).flatMap z0c)::r) y3 1 ((((y,shL n0 0)::fs).map Prod.fst).flatMap zdk):=(inferInstance:FocR _ y3 1 (([y]++fs.map Prod.fst).flatMap z0c))
     refine z8 (zj5 (d:=M.d) (A:=D1) (zl M.pre n0 (bl (ByteArray.mk #[46,108,111,103]))) y3 (((y,shL n0 0)::fs).map Prod.fst) (((y,shL n0 0)::fs).map Prod.snd) (hps:=hpsF) (zkf hall) (by simp only [List.length_map,List.length_cons];omega) (λb hb=>?_) hs) λ_ w' hs=>?_
     ·obtain ⟨p,hp,rfl⟩:=List.mem_map.1 hb
      rcases List.mem_cons.1 hp with rfl|hp
      ·show (shL n0 0).length<=_;omega
      ·have:=hlbound p hp;omega
     obtain ⟨rfl,hs⟩:=hs
     refine zb ?_
     refine wp_lt ?_
     refine zd ?_
     have e2:(((y,shL n0 0)::fs).map Prod.snd).flatten=shL n0 0++Fr:=by rw [List.map_cons,List.flatten_cons,hflat]
     rw [e2] at hs ⊢
     refine zj ⟨rfl,?_⟩
     have hs:Sat w' (dk M.d (z08 D1 (zl M.pre n0 zr) (shL n0 0++Fr)).2::slc T.a42 1 y3 _::slc T.a48 1 y _::HP.all (fs.map frP)::pt a _::z26 ix _::pt lg _::slc T.a29 1 M.z _::HP.all (M.SM.map λt=>z0m M.gap t.1 t.2)::slc T.a0 7 z1 (q.flatMap zu)::slc T.a42 1 z2 ((fs.map Prod.fst).flatMap z0c)::r):=hs
     have hs:=z1h M hokm (hs.pick [6,6,6])
     have hs:Sat w' (z0m M.gap a ⟨ix,⟨n0,0,[]⟩⟩::lgQ lg M::dk M.d _::slc T.a42 1 y3 _::slc T.a48 1 y _::HP.all (fs.map frP)::slc T.a0 7 z1 (q.flatMap zu)::slc T.a42 1 z2 ((fs.map Prod.fst).flatMap z0c)::r):=z2g ⟨ix,⟨n0,0,[]⟩⟩ (hs.pick [5,5])
     exact hs.sub
    rintro _ w2 ⟨rfl,hs⟩
    refine ze (λh3=>?_) λh3=>?_
    ·refine wp_lt ?_
     rw [if_pos h3]
     refine zh ⟨rfl,rfl,hsame hs.sub⟩
    rw [if_neg h3]
    have hs:=hs.pick [1]
    refine z8 (zy2 (lg:=lg) a ⟨ix,⟨n0,0,[]⟩⟩ (by omega) hs) λ_ w' hs=>?_
    obtain ⟨z,rfl,hs⟩:=hs
    refine zb ?_
    refine zj ⟨{ M with z:=z,SM:=M.SM++[(a,⟨ix,⟨n0,0,[]⟩⟩)] },M.SM,a,⟨ix,⟨n0,0,[]⟩⟩,(z08 D1 (zl M.pre n0 zr) (shL n0 0++Fr)).2,rfl,rfl,?_,rfl,⟨rfl,rfl,rfl,rfl⟩,hs⟩
    rw [z2d]
    simp only [List.flatMap_nil,List.length_nil]
    omega
   ·
    have hr:z6e M.seg M.l Fr.length=true:=by simpa using hr
    rw [if_pos hr]
    have h0:M.SM≠[]:=by
     intro h0
     have:M.l=[]:=by unfold LogM.l;rw [h0];rfl
     rw [this] at hr
     cases hr
    obtain ⟨SM0,⟨a,t⟩,hSM⟩:=z30 h0
    have hl1:M.l=SM0.map (λt=>t.2.s)++[t.s]:=by unfold LogM.l;rw [hSM];simp
    have hbase:z4o M.l=t.s.base:=by unfold z4o;rw [hl1,z1o]
    have hadd:z4h M.l q=SM0.map (λt=>t.2.s)++[t.s.add q]:=by unfold z4h;rw [hl1,z1o];simp
    have hlst:M.SM.getLast? = some (a,t):=by rw [hSM,z1o]
    rw [hlst]
    have htm:t.s ∈ M.l:=by rw [hl1];simp
    have htb:=(hok.mem _ htm).1.base
    have htf:=hfl _ htm
    refine zg (λv w'=>v=((z08 D (zl M.pre (z4o M.l) zr) Fr).1,())/\Sat w' (lgQ lg M::dk M.d (z08 D (zl M.pre (z4o M.l) zr) Fr).2::slc T.a0 7 z1 (q.flatMap zu)::slc T.a42 1 z2 ((fs.map Prod.fst).flatMap z0c)::HP.all (fs.map frP)::r)) ?_ ?_
    ·obtain ⟨hokm,hs⟩:=zbc hSM hs
     have hs:=z3i hs
     refine zy hs λw' hs=>?_
     refine zk ?_
     refine z18 hs ?_
     refine zk ?_
     refine za hs ?_
     refine z8 (z7a (lg:=lg) t.s.base (by omega) (ByteArray.mk #[46,108,111,103]) (by decide) M.pre hokm.size hs) λ_ w' hs=>?_
     obtain ⟨rfl,hs⟩:=hs
     refine zb ?_ (by first|trivial|(repeat (first|exact trivial|exact λ_=>z09 hs|exact λ_=>z0q hs|refine And.intro ?_ ?_)))
     refine zd ?_
     have hs:=hs.pick [8]
     have hall:∀ p ∈ fs,FocR (pt a (.cells #[.pointer (some ⟨t.ix,0,none⟩),.int .i64 t.s.base,.int .i64 t.s.fin,.int .i64 (z0b t.s.bs),.int .i64 (z1a (-1) t.s.bs),.int .i64 (t.s.file.length:Nat)] T.a45)::z26 t.ix (t.s.idx M.gap)::pt lg (.cells #[.pointer (some ⟨M.d,0,none⟩),.string M.pre,.int .i64 M.seg,.int .i64 M.gap,.slice M.z.a M.z.len M.z.cap] T.a44)::slc T.a29 1 M.z ((SM0.map Prod.fst++[a]).flatMap z1j)::HP.all (SM0.map λt=>z0m M.gap t.1 t.2)::slc T.a0 7 z1 (q.flatMap zu)::slc T.a42 1 z2 ((fs.map Prod.fst).flatMap z0c)::HP.all (fs.map frP)::r) p.1 1 (p.2.flatMap zf):=λp hp=>by
      have:FocR (HP.all (fs.map frP)::r) p.1 1 (p.2.flatMap zf):=zea hp
      infer_instance
     have hpsF:FocR (pt a (.cells #[.pointer (some ⟨t.ix,0,none⟩),.int .i64 t.s.base,.int .i64 t.s.fin,.int .i64 (z0b t.s.bs),.int .i64 (z1a (-1) t.s.bs),.int .i64 (t.s.file.length:Nat)] T.a45)::z26 t.ix (t.s.idx M.gap)::pt lg (.cells #[.pointer (some ⟨M.d,0,none⟩),.string M.pre,.int .i64 M.seg,.int .i64 M.gap,.slice M.z.a M.z.len M.z.cap] T.a44)::slc T.a29 1 M.z ((SM0.map Prod.fst++[a]).flatMap z1j)::HP.all (SM0.map λt=>z0m M.gap t.1 t.2)::slc T.a0 7 z1 (q.flatMap zu)::slc T.a42 1 z2 ((fs.map Prod.fst).flatMap z0c)::HP.all (fs.map frP)::r) z2 1 ((fs.map Prod.fst).flatMap zdk):=(inferInstance:FocR _ z2 1 ((fs.map Prod.fst).flatMap z0c))
     refine z8 (zj5 (d:=M.d) (A:=D) (zl M.pre t.s.base (bl (ByteArray.mk #[46,108,111,103]))) z2 (fs.map Prod.fst) (fs.map Prod.snd) (hps:=hpsF) (zkf hall) (by simp only [List.length_map];omega) (λb hb=>?_) hs) λ_ w' hs=>?_
     ·obtain ⟨p,hp,rfl⟩:=List.mem_map.1 hb
      have:=hlbound p hp;omega
     obtain ⟨rfl,hs⟩:=hs
     refine zb ?_
     refine wp_lt ?_
     refine zd ?_
     rw [hflat] at hs ⊢
     refine zj ⟨by rw [hbase];rfl,?_⟩
     rw [hbase]
     have hs:Sat w' (dk M.d (z08 D (zl M.pre t.s.base zr) Fr).2::pt a _::z26 t.ix _::pt lg _::slc T.a29 1 M.z _::HP.all (SM0.map λt=>z0m M.gap t.1 t.2)::slc T.a0 7 z1 (q.flatMap zu)::slc T.a42 1 z2 ((fs.map Prod.fst).flatMap z0c)::HP.all (fs.map frP)::r):=hs
     have hs:=za5 M hokm (z2g t (hs.pick [1,1]) |>.pick [0,1,1,1])
     have e:{ M with SM:=SM0++[(a,t)] }=M:=by rw [<- hSM]
     rw [e] at hs
     exact hs.sub
    rintro _ w2 ⟨rfl,hs⟩
    refine ze (λh3=>?_) λh3=>?_
    ·refine wp_lt ?_
     rw [if_pos h3]
     refine zh ⟨rfl,rfl,hsame hs.sub⟩
    rw [if_neg h3]
    refine zj ⟨M,SM0,a,t,(z08 D (zl M.pre (z4o M.l) zr) Fr).2,rfl,hSM,by omega,by rw [hadd],⟨rfl,rfl,rfl,rfl⟩,hs⟩
  rintro _ w2 ⟨M1,SM0,a,t,D1,rfl,hSM,htl,hres,⟨hd1,hd2,hd3,hd4⟩,hs⟩
  clear hsame
  rw [hres]
  obtain ⟨hokm,hs⟩:=zbc hSM hs
  have hF2:∀ i,((q.take i).flatMap frL).length<=Fr.length:=hfsum
  have hlq:=hs.slen z1 (xs:=q) (enc:=zu)
  refine zg (λ_ w'=>Sat w' (z0m M1.gap a ⟨t.ix,t.s.add q⟩::pt lg (.cells #[.pointer (some ⟨M1.d,0,none⟩),.string M1.pre,.int .i64 M1.seg,.int .i64 M1.gap,.slice M1.z.a M1.z.len M1.z.cap] T.a44)::slc T.a29 1 M1.z ((SM0.map Prod.fst++[a]).flatMap z1j)::HP.all (SM0.map λt=>z0m M1.gap t.1 t.2)::dk M.d D1::slc T.a0 7 z1 (q.flatMap zu)::slc T.a42 1 z2 ((fs.map Prod.fst).flatMap z0c)::HP.all (fs.map frP)::r)) ?_ ?_
  ·refine z04 (λm v w=>∃ i:Nat,v=((i:Int),())/\i<=q.length/\q.length-i=m/\Sat w (z0m M1.gap a ⟨t.ix,t.s.add (q.take i)⟩::pt lg (.cells #[.pointer (some ⟨M1.d,0,none⟩),.string M1.pre,.int .i64 M1.seg,.int .i64 M1.gap,.slice M1.z.a M1.z.len M1.z.cap] T.a44)::slc T.a29 1 M1.z ((SM0.map Prod.fst++[a]).flatMap z1j)::HP.all (SM0.map λt=>z0m M1.gap t.1 t.2)::dk M.d D1::slc T.a0 7 z1 (q.flatMap zu)::slc T.a42 1 z2 ((fs.map Prod.fst).flatMap z0c)::HP.all (fs.map frP)::r)) q.length ⟨0,rfl,by omega,rfl,by rw [List.take_zero,zg0];exact hs⟩ ?_
   clear hs
   rintro m _ w ⟨i,rfl,hi,hm,hs⟩
   refine zm ?_
   refine ze (λhc=>?_) λhc=>?_
   rotate_left
   ·refine zh (zj ?_)
    rwa [List.take_of_length_le (by omega)] at hs
   have hil:i<q.length:=by omega
   have hil2:i<fs.length:=by omega
   refine z68 hs (xs:=q) (enc:=zu) i hil ?_
   refine zt hs λc w' hs=>?_
   refine wp_lt ?_
   refine zv hs λw' hs=>?_
   refine zy hs λw' hs=>?_
   refine zi hs ?_
   refine z1v hs (xs:=fs.map Prod.fst) (enc:=z0c) i (by rw [List.length_map];omega) ?_
   have e1:(fs.map Prod.fst)[i]'(by rw [List.length_map];omega)=fs[i].1:=by simp
   rw [e1]
   have hR:FocR (HP.all (fs.map frP)::r) fs[i].1 1 (fs[i].2.flatMap zf):=zea (List.getElem_mem hil2)
   have hl2:=hs.slen fs[i].1 (xs:=fs[i].2) (enc:=zf)
   rw [hfget i hil2] at hl2
   rw [hl2]
   obtain ⟨hvq,c0,hc0,hcx,hcr⟩:=hp2 q[i] (List.getElem_mem hil)
   have hRb:FocR r q[i].x 4 (q[i].rs.flatMap z02):=by rw [hcx,hcr];exact hbs c0 hc0
   have hfi:((q.take (i+1)).flatMap frL).length=((q.take i).flatMap frL).length+(frL q[i]).length:=by
    rw [List.take_succ_eq_append_getElem hil,List.flatMap_append,List.length_append];simp
   have:=hF2 (i+1)
   refine z8 (zuz (gap:=M1.gap) (a:=a) q[i] hvq (by show (t.s.add (q.take i)).file.length+_<=_;rw [z6g,List.length_append];omega) hs) λ_ w' hs=>?_
   obtain ⟨rfl,hs⟩:=hs
   refine zb ?_
   refine zd ?_
   rw [wS (i:=i) (by omega)]
   refine z16 (q.length-(i+1)) ⟨i+1,rfl,by omega,rfl,?_⟩
   have e2:(t.s.add (q.take i)).add [q[i]]=t.s.add (q.take (i+1)):=by rw [zob,List.take_succ_eq_append_getElem hil]
   have hs:Sat w' (z0m M1.gap a ⟨t.ix,(t.s.add (q.take i)).add [q[i]]⟩::_):=hs
   rw [e2] at hs
   exact hs.sub
  clear hs
  rintro _ w3 hs
  refine zm ?_
  refine z022 hs (xs:=q) (enc:=zu) 0 (by omega) ?_
  refine wp_lt ?_
  have hq0:(q[0]'(by omega)).base=n0:=hp3 _ (by rw [List.head?_eq_getElem?,List.getElem?_eq_getElem])
  rw [hq0]
  refine ⟨rfl,rfl,?_⟩
  have hs:=z3z _ (za5 M1 hokm hs)
  have eA:LogM.A { M1 with SM:=SM0++[(a,(⟨t.ix,t.s.add q⟩:SegM))] }=M.A.set ((SM0.map λt=>t.2.s)++[t.s.add q]):=by
   unfold LogM.A LogM.l LogA.set
   simp only [List.map_append,List.map_cons,List.map_nil,hd1,hd2,hd3,hd4]
  rw [eA] at hs
  exact hs.sub
end
def z2o (s:SegA) (k:Nat):Nat:=(shL s.base s.fin).length+((s.bs.take k).flatMap frL).length
def z05 (l:List SegA):List BatM:=l.flatMap SegA.bs
def z4w (l:List SegA) (off most:Int):Int × List BatM:=if most<1 then (2,[]) else if off<z1z l\/off>zq l then (8,[]) else (0,((z05 l).filterMap (z0o off)).take most.toNat)
def zuh (s:SegA) (o:Option EntA):Int:=match o with
 | none=>((shL s.base s.fin).length:Int)
 | some e=>e.place
theorem zuk (s:SegA):z2o s 0=(shL s.base s.fin).length:=by simp [z2o]
theorem zwj (s:SegA):z2o s s.bs.length=s.file.length:=by unfold z2o;rw [List.take_length,z2d]
theorem zhz (s:SegA) {k:Nat} (hk:k<s.bs.length):z2o s (k+1)=z2o s k+(frL s.bs[k]).length:=by
 unfold z2o
 rw [List.take_succ_eq_append_getElem hk,List.flatMap_append,List.length_append]
 simp
 omega
theorem zgj (s:SegA) (k:Nat):z2o s k<=s.file.length:=by
 unfold z2o
 rw [z2d]
 have:(s.bs.flatMap frL)=(s.bs.take k).flatMap frL++(s.bs.drop k).flatMap frL:=by rw [<- List.flatMap_append,List.take_append_drop]
 rw [this,List.length_append];omega
theorem ztl (s:SegA) (k:Nat):s.file.drop (z2o s k)=(s.bs.drop k).flatMap frL:=by
 have e:s.file=(shL s.base s.fin++(s.bs.take k).flatMap frL)++(s.bs.drop k).flatMap frL:=by
  unfold SegA.file
  rw [List.append_assoc,<- List.flatMap_append,List.take_append_drop]
 rw [e]
 exact List.drop_left' (by rw [List.length_append];rfl)
theorem zqg {s:SegA} (h:SegOk s) {k:Nat} (hk:k<s.bs.length):z0v (s.file.drop (z2o s k))=some (z2c s.bs[k],(frL s.bs[k]).length)/\z5f (z2c s.bs[k])=some s.bs[k]:=by
 obtain ⟨hv,hp⟩:=h.bs.valid s.bs[k] (List.getElem_mem hk)
 have hl:=z5e hv
 have hf:=z4i hv
 refine ⟨?_,by rw [zh6 hv,hp]⟩
 rw [ztl,List.drop_eq_getElem_cons hk,List.flatMap_cons,hf.2]
 exact z5y hl.2 _
theorem z1g.lt:∀ {n:Int} {bs:List BatM},z1g n bs->∀ (j i:Nat) (hi:i<bs.length) (hj:j<i),n<=(bs[j]'(by omega)).base/\(bs[j]'(by omega)).base+zo (bs[j]'(by omega))<=bs[i].base
 | n,b::bs,⟨h1,h2,h3,h4⟩,0,i+1,hi,hj=>by
  refine ⟨h3,?_⟩
  simp only [List.getElem_cons_zero,List.getElem_cons_succ]
  have hi:i<bs.length:=by simpa using hi
  obtain ⟨s1,-,-,-,-⟩:=z12 b h1
  cases i with
  | zero =>
   cases bs with
   | nil=>simp at hi
   | cons c cs=>exact h4.2.2.1
  | succ i =>
   have:=(h4.lt 0 (i+1) hi (by omega)).1
   have h5:=(h4.lt 0 (i+1) hi (by omega)).2
   obtain ⟨s2,-,-,-,-⟩:=z12 _ (h4.valid _ (List.getElem_mem (show 0<bs.length by omega))).1
   omega
 | n,b::bs,⟨h1,h2,h3,h4⟩,j+1,i+1,hi,hj=>by
  simp only [List.getElem_cons_succ]
  have hi:i<bs.length:=by simpa using hi
  have:=h4.lt j i hi (by omega)
  obtain ⟨s1,-,-,-,-⟩:=z12 b h1
  exact ⟨by omega,this.2⟩
theorem z1g.le_next {n:Int} {bs:List BatM} (h:z1g n bs) {b:BatM} (hb:b ∈ bs):b.base+zo b<=z0b bs:=by
 obtain ⟨j,hj,rfl⟩:=List.mem_iff_getElem.1 hb
 have hne:bs≠[]:=by rintro rfl;simp at hj
 have e:z0b bs=(bs[bs.length-1]'(by omega)).base+zo (bs[bs.length-1]'(by omega)):=by
  unfold z0b
  rw [List.getLast?_eq_getElem?,List.getElem?_eq_getElem (by omega)]
 rw [e]
 by_cases hjl:j=bs.length-1
 ·subst hjl;exact Int.le_refl _
 ·have:=(h.lt j (bs.length-1) (by omega) (by omega)).2
  obtain ⟨s1,-,-,-,-⟩:=z12 _ (h.valid _ (List.getElem_mem (show bs.length-1<bs.length by omega))).1
  omega
theorem zen {off:Int} {b:BatM} (hv:z03 b=0) (h:b.base+zo b<=off):z0o off b=none:=by
 unfold z0o
 rw [if_pos (.inr (by unfold z1l;rw [if_neg (by rw [hv];simp)];exact h))]
theorem zon {off:Int} {b c:BatM} (hp:b.p=b) (h:z0o off b=some c):c.p=c:=by
 have hx:b.x=z7c:=by rw [<- hp];rfl
 unfold z0o at h
 split at h
 ·cases h
 ·split at h
  ·simp only [Option.some.injEq] at h;subst h;exact hp
  ·simp only [Option.some.injEq] at h;subst h;unfold zip BatM.p;simp only [hx];rfl
theorem za0 {α β:Type} {f:α->Option β} {l:List α} (h:∀ x ∈ l,f x=none):l.filterMap f=[]:=by
 rw [List.filterMap_eq_nil_iff];exact h
theorem zto {s:SegA} (h:SegOk s) (hl:s.file.length<=4194304) (gap off:Int):∃ k,k<=s.bs.length/\zuh s (z2r (s.idx gap).l off)=((z2o s k:Nat):Int)/\∀ b ∈ s.bs.take k,b.base+zo b<=off:=by
 have hi:=zjs gap s.bs.length (n:=s.base) (q:=(shL s.base s.fin).length) rfl h.base.1 (by omega) h.bs (by have:=z2d s;omega)
 cases hf:z2r (s.idx gap).l off with
 | none=>exact ⟨0,Nat.zero_le _,by rw [zuk];rfl,by simp⟩
 | some e =>
  unfold z2r at hf
  obtain ⟨a,c,hac,he,-⟩:=zlg hf
  have he:e.offset<=off:=by simpa using he
  obtain ⟨i,hil,hie⟩:=hi.ent e (by show e ∈ (s.idx gap).l;rw [hac];simp)
  refine ⟨i,by omega,?_,λb hb=>?_⟩
  ·show e.place=_
   rw [hie]
   unfold z2o
   simp only
   omega
  ·obtain ⟨j,hj,rfl⟩:=List.mem_iff_getElem.1 hb
   rw [List.length_take] at hj
   rw [List.getElem_take]
   have:=(h.bs.lt j i hil (by omega)).2
   rw [hie] at he
   simp only at he
   omega
theorem z0a.skip:∀ {n:Int} {l:List SegA},z0a n l->∀ (i j:Nat) (hj:j<l.length) (hi:i<j),(l[i]'(by omega)).reach<=l[j].base/\(l[i]'(by omega)).base<l[j].base
 | n,s::l,⟨h1,h2,h3⟩,0,j+1,hj,_=>by
  have hj:j<l.length:=by simpa using hj
  have:=(h3.mem l[j] (List.getElem_mem hj)).2
  simp only [List.getElem_cons_zero,List.getElem_cons_succ]
  omega
 | n,s::l,⟨h1,h2,h3⟩,i+1,j+1,hj,hi=>by
  simp only [List.getElem_cons_succ]
  exact h3.skip i j (by simpa using hj) (by omega)
theorem zx1 {l:List SegA} (hok:z0a 0 l) {off:Int} {i:Nat} (hi:i<l.length) (hb:l[i].base<=off\/i=0):(z05 l).filterMap (z0o off)=(z05 (l.drop i)).filterMap (z0o off):=by
 have e:z05 l=z05 (l.take i)++z05 (l.drop i):=by unfold z05;rw [<- List.flatMap_append,List.take_append_drop]
 rw [e,List.filterMap_append,za0 (l:=z05 (l.take i)),List.nil_append]
 intro b hb'
 obtain ⟨s,hs,hbs⟩:=List.mem_flatMap.1 hb'
 obtain ⟨j,hj,rfl⟩:=List.mem_iff_getElem.1 hs
 rw [List.length_take] at hj
 rw [List.getElem_take] at hbs
 have h1:=(hok.skip j i hi (by omega)).1
 have hsg:=(hok.mem (l[j]'(by omega)) (List.getElem_mem _)).1
 have h2:=hsg.bs.le_next hbs
 have h3:=(z4v hsg).2.2.1
 refine zen (hsg.bs.valid b hbs).1 ?_
 rcases hb with hb|hb
 ·omega
 ·omega
theorem zg5 {s:SegA} (h:SegOk s):s.bs.length*10<=s.file.length:=by
 have:=z8o h.bs
 rw [z2d];omega
def z0s (pre:ByteArray):List ByteArray->DiskA->Int × List Int × DiskA
 | [],D=>(0,[],D)
 | n::ns,D=>if (z19 pre n z7b).isSome=true/\(z0x D n).1≠0 then ((z0x D n).1,[],(z0x D n).2) else
  ((z0s pre ns (if (z19 pre n z7b).isSome then (z0x D n).2 else D)).1,(match z19 pre n zr with|some b=>[(b:Int)]|none=>[])++(z0s pre ns (if (z19 pre n z7b).isSome then (z0x D n).2 else D)).2.1,(z0s pre ns (if (z19 pre n z7b).isSome then (z0x D n).2 else D)).2.2)
def z5w (pre:ByteArray):List Int->DiskA->Int × DiskA
 | [],D=>(0,D)
 | b::bs,D=>if (z0x D (zl pre b zr)).1≠0 then z0x D (zl pre b zr) else z5w pre bs (z0x D (zl pre b zr)).2
def z1i (pre:ByteArray) (l:List SegA) (D:DiskA) (base:Int):(Bool × Int) × List SegA × DiskA:=match z01 D.fs (zl pre base zr) with
 | none=>((false,3),l,D)
 | some p=>match z47 base p.1 with
  | none=>((false,(z0x D (zl pre base zr)).1),l,(z0x D (zl pre base zr)).2)
  | some q=>if q.2=p.1.length then ((true,0),l++[q.1],D) else ((false,(cutA' D (zl pre base zr) (q.2:Nat)).1),l++[q.1],(cutA' D (zl pre base zr) (q.2:Nat)).2)
def z1u (pre:ByteArray):List Int->List SegA->DiskA->Int × List SegA × DiskA
 | [],l,D=>(0,l,D)
 | b::bs,l,D=>if b<zq l then (if (z0x D (zl pre b zr)).1≠0 then ((z0x D (zl pre b zr)).1,l,(z0x D (zl pre b zr)).2) else z1u pre bs l (z0x D (zl pre b zr)).2) else
  if (z1i pre l D b).1.2≠0 then ((z1i pre l D b).1.2,(z1i pre l D b).2) else
  if (z1i pre l D b).1.1=true then z1u pre bs (z1i pre l D b).2.1 (z1i pre l D b).2.2 else ((z5w pre bs (z1i pre l D b).2.2).1,(z1i pre l D b).2.1,(z5w pre bs (z1i pre l D b).2.2).2)
def z41 (pre:ByteArray) (D:DiskA):Int × List SegA × DiskA :=
 if (z0s pre (z0w (z11 pre) D.fs) D).1≠0 then ((z0s pre (z0w (z11 pre) D.fs) D).1,[],(z0s pre (z0w (z11 pre) D.fs) D).2.2) else
  z1u pre (z0s pre (z0w (z11 pre) D.fs) D).2.1 [] (z0s pre (z0w (z11 pre) D.fs) D).2.2
theorem z00f (pre:ByteArray):pre++ByteArray.mk #[45]=z11 pre:=by
 apply zbk
 rw [zg2]
 unfold bl
 simp
theorem zvb {pre n:ByteArray} {x:List UInt8} {v:Nat} (h:z19 pre n x=some v):v<17592186044416:=by
 unfold z19 at h
 split at h
 ·have:=zg8 (k:=0) h (by omega)
  have h2:16 ^ (0+(((bl n).drop ((bl pre).length+1)).take 11).length)<=16 ^ 11:=Nat.pow_le_pow_right (by omega) (by rw [List.length_take];omega)
  omega
 ·cases h
theorem zhc {pre:ByteArray}:∀ {ns:List ByteArray} {D:DiskA},∀ b ∈ (z0s pre ns D).2.1,0<=b/\b<17592186044416
 | [],D,b,h=>by cases h
 | n::ns,D,b,h=>by
  unfold z0s at h
  split at h
  ·cases h
  ·simp only at h
   rcases List.mem_append.1 h with h|h
   ·cases hb:z19 pre n zr with
    | none=>rw [hb] at h;cases h
    | some v =>
     rw [hb] at h
     simp only [List.mem_cons,List.not_mem_nil,or_false] at h
     have:=zvb hb
     omega
   ·exact zhc b h
theorem zel {pre:ByteArray}:∀ {ns:List ByteArray} {D:DiskA},(z0s pre ns D).2.1.length<=ns.length
 | [],D=>Nat.le_refl _
 | n::ns,D=>by
  unfold z0s
  split
  ·exact Nat.zero_le _
  ·simp only [List.length_append,List.length_cons]
   have:=zel (pre:=pre) (ns:=ns) (D:=if (z19 pre n z7b).isSome then (z0x D n).2 else D)
   split <;> simp <;> omega
section
variable {w:World} {l r:List HP} {lg:Nat} {M:LogM} {A:LogA} {D:DiskA} {gap:Int} {a:Nat} {t:SegM}
def lgR (M:LogM):HP:=HP.star (slc T.a29 1 M.z ((M.SM.map Prod.fst).flatMap z1j)) (HP.all (M.SM.map λt=>z0m M.gap t.1 t.2))
theorem z8r (hs:Sat w (lgQ lg M::l)):okM M.gap M.seg M.pre/\Sat w (pt lg (.cells #[.pointer (some ⟨M.d,0,none⟩),.string M.pre,.int .i64 M.seg,.int .i64 M.gap,.slice M.z.a M.z.len M.z.cap] T.a44)::lgR M::l):=by
 obtain ⟨h,hs⟩:=hs.and
 exact ⟨h,hs.star⟩
theorem z40 (M:LogM) (h:okM M.gap M.seg M.pre) (hs:Sat w (pt lg (.cells #[.pointer (some ⟨M.d,0,none⟩),.string M.pre,.int .i64 M.seg,.int .i64 M.gap,.slice M.z.a M.z.len M.z.cap] T.a44)::lgR M::l)):Sat w (lgQ lg M::l):=.and_mk h (.star_mk hs)
theorem z00l {r1:List HP} [hf:Fo l lgQ lg M r1] [hf2:Fo r1 dk M.d D r] (hs:Sat w l) :
  Ret P F.a136 #[.pointer (some ⟨lg,0,none⟩)] w λvs w' =>
   ((z0s M.pre (z0w (z11 M.pre) D.fs) D).1≠0/\vs=[.slice none 0 0,.int .i64 (z0s M.pre (z0w (z11 M.pre) D.fs) D).1]/\Sat w' (lgQ lg M::dk M.d (z0s M.pre (z0w (z11 M.pre) D.fs) D).2.2::r)) \/
   ((z0s M.pre (z0w (z11 M.pre) D.fs) D).1=0/\∃ z:Sl,vs=[z.v,.int .i64 0]/\Sat w' (slc T.a13 1 z ((z0s M.pre (z0w (z11 M.pre) D.fs) D).2.1.flatMap z3o)::lgQ lg M::dk M.d (z0s M.pre (z0w (z11 M.pre) D.fs) D).2.2::r)) :=
 zms _ <| by
  delta zz6 AF AI AJ AL AN AQ AR AY AZ Ad Af Ag Ah Ak Al Am An Ap Az BM Bs
  have hs:=hs.perm (hf.perm.trans (.cons _ hf2.perm))
  clear hf hf2
  obtain ⟨hokm,hs⟩:=z8r hs
  have hsz:=hokm.size
  refine zy hs λw' hs=>?_
  refine zk ?_
  refine za hs ?_
  refine zk ?_
  refine za hs ?_
  refine wp_must (by omega) ?_
  rw [z00f]
  obtain ⟨m_,FS_,-,hokD,-⟩:=z1x (hs.pick [2])
  have hok24:∀ n ∈ z0w (z11 M.pre) D.fs,n.size<=24:=λn hn=>by
   unfold z0w at hn
   obtain ⟨f,hf,rfl⟩:=List.mem_map.1 (List.mem_filter.1 hn).1
   exact hokD.names f hf
  have hnl:(z0w (z11 M.pre) D.fs).length<=128:=by
   unfold z0w
   exact Nat.le_trans (List.length_filter_le _ _) (by rw [List.length_map];exact hokD.many)
  refine z8 (zp2 (d:=M.d) (A:=D) (z11 M.pre) hs) λ_ w' hs=>?_
  obtain ⟨x,rfl,hs⟩:=hs
  refine zb ?_
  refine zd ?_
  generalize z0w (z11 M.pre) D.fs=ns at *
  have hl:=hs.slen x (xs:=ns) (enc:=z21)
  refine zg (λq w'=>∃ z:Sl,q=(z,())/\(z0s M.pre ns D).1=0/\Sat w' (slc T.a13 1 z ((z0s M.pre ns D).2.1.flatMap z3o)::lgQ lg M::dk M.d (z0s M.pre ns D).2.2::r)) ?_ ?_
  rotate_left
  ·rintro _ w2 ⟨z,rfl,h1,hs⟩
   exact ⟨rfl,.inr ⟨h1,z,rfl,hs⟩⟩
  have hs:Sat w' (slc T.a13 1 ⟨none,0,0⟩ (([]:List Int).flatMap z3o)::dk M.d D::pt lg (.cells #[.pointer (some ⟨M.d,0,none⟩),.string M.pre,.int .i64 M.seg,.int .i64 M.gap,.slice M.z.a M.z.len M.z.cap] T.a44)::lgR M::slc T.a47 1 x (ns.flatMap z21)::r):=by
   have h1:Sat w' (slc T.a13 1 ⟨none,0,0⟩ (([]:List Int).flatMap z3o)::_):=hs.slc_nil
   exact h1.sub
  refine z04 (λm v w=>∃ (i:Nat) (z:Sl) (done:List Int) (D':DiskA),v=(z,((i:Int),()))/\i<=ns.length/\ns.length-i=m/\done.length<=i /\
   ((z0s M.pre ns D).1=(z0s M.pre (ns.drop i) D').1/\(z0s M.pre ns D).2.2=(z0s M.pre (ns.drop i) D').2.2/\((z0s M.pre (ns.drop i) D').1=0->(z0s M.pre ns D).2.1=done++(z0s M.pre (ns.drop i) D').2.1)) /\
   Sat w (slc T.a13 1 z (done.flatMap z3o)::dk M.d D'::pt lg (.cells #[.pointer (some ⟨M.d,0,none⟩),.string M.pre,.int .i64 M.seg,.int .i64 M.gap,.slice M.z.a M.z.len M.z.cap] T.a44)::lgR M::slc T.a47 1 x (ns.flatMap z21)::r)) ns.length
   ⟨0,⟨none,0,0⟩,[],D,rfl,by omega,rfl,by simp,⟨rfl,rfl,λ_=>rfl⟩,hs⟩ ?_
  clear hs
  rintro m _ w ⟨i,z,done,D',rfl,hi,hm,hdl,⟨hq1,hq2,hq3⟩,hs⟩
  refine zm ?_
  refine ze (λhc=>?_) λhc=>?_
  rotate_left
  ·have e:ns.drop i=[]:=List.drop_eq_nil_of_le (by omega)
   rw [e] at hq1 hq2 hq3
   have hq3:=hq3 rfl
   have e2:(z0s M.pre [] D').2.1=[]:=rfl
   rw [e2,List.append_nil] at hq3
   refine zh (zj ⟨z,rfl,hq1,?_⟩)
   have e3:(z0s M.pre [] D').2.2=D':=rfl
   rw [hq2,hq3,e3]
   have hs:=z40 M hokm (hs.pick [2,2])
   exact hs.sub
  have hil:i<ns.length:=by omega
  have hdrop:ns.drop i=ns[i]::ns.drop (i+1):=List.drop_eq_getElem_cons hil
  rw [hdrop] at hq1 hq2 hq3
  have hn24:=hok24 ns[i] (List.getElem_mem hil)
  refine z1v hs (xs:=ns) (enc:=z21) i hil ?_
  refine wp_lt ?_
  refine z8 (zoe (lg:=lg) ns[i] (ByteArray.mk #[46,108,111,103]) (by omega) (by decide) M.pre hsz hs) λ_ w' hs=>?_
  obtain ⟨rfl,hs⟩:=hs
  refine zb ?_
  refine wp_lt ?_
  refine wp_lt ?_
  have eb:z19 M.pre ns[i] (bl (ByteArray.mk #[46,108,111,103]))=z19 M.pre ns[i] zr:=rfl
  rw [eb]
  refine zg (λq w'=>∃ z':Sl,q=(z',())/\Sat w' (slc T.a13 1 z' ((done++(match z19 M.pre ns[i] zr with|some b=>[(b:Int)]|none=>[])).flatMap z3o)::dk M.d D'::pt lg (.cells #[.pointer (some ⟨M.d,0,none⟩),.string M.pre,.int .i64 M.seg,.int .i64 M.gap,.slice M.z.a M.z.len M.z.cap] T.a44)::lgR M::slc T.a47 1 x (ns.flatMap z21)::r)) ?_ ?_
  ·cases hb:z19 M.pre ns[i] zr with
   | none =>
    refine z06 ?_ (by simp)
    refine zj ⟨z,rfl,?_⟩
    rw [List.append_nil]
    exact hs
   | some b =>
    refine z0g ?_ (by rfl)
    refine z67 (xs:=done) (enc:=z3o) (y:=(b:Int)) hs (λz' w' hs=>?_) rfl (by omega)
    exact zj ⟨z',rfl,hs⟩
  rintro _ w2 ⟨z',rfl,hs⟩
  have hdl2:(done++(match z19 M.pre ns[i] zr with|some b=>[(b:Int)]|none=>[])).length<=i+1:=by
   rw [List.length_append]
   split <;> simp <;> omega
  refine z8 (zoe (lg:=lg) ns[i] (ByteArray.mk #[46,110,101,119]) (by omega) (by decide) M.pre hsz hs) λ_ w' hs=>?_
  obtain ⟨rfl,hs⟩:=hs
  refine zb ?_
  refine wp_lt ?_
  refine wp_lt ?_
  have eb2:z19 M.pre ns[i] (bl (ByteArray.mk #[46,110,101,119]))=z19 M.pre ns[i] z7b:=rfl
  rw [eb2]
  have hun:z0s M.pre (ns[i]::ns.drop (i+1)) D'=if (z19 M.pre ns[i] z7b).isSome=true/\(z0x D' ns[i]).1≠0 then ((z0x D' ns[i]).1,[],(z0x D' ns[i]).2) else
   ((z0s M.pre (ns.drop (i+1)) (if (z19 M.pre ns[i] z7b).isSome then (z0x D' ns[i]).2 else D')).1,(match z19 M.pre ns[i] zr with|some b=>[(b:Int)]|none=>[])++(z0s M.pre (ns.drop (i+1)) (if (z19 M.pre ns[i] z7b).isSome then (z0x D' ns[i]).2 else D')).2.1,(z0s M.pre (ns.drop (i+1)) (if (z19 M.pre ns[i] z7b).isSome then (z0x D' ns[i]).2 else D')).2.2):=rfl
  refine zg (λq w'=>¬ ((z19 M.pre ns[i] z7b).isSome=true/\(z0x D' ns[i]).1≠0)/\Sat w' (slc T.a13 1 z' ((done++(match z19 M.pre ns[i] zr with|some b=>[(b:Int)]|none=>[])).flatMap z3o)::dk M.d (if (z19 M.pre ns[i] z7b).isSome then (z0x D' ns[i]).2 else D')::pt lg (.cells #[.pointer (some ⟨M.d,0,none⟩),.string M.pre,.int .i64 M.seg,.int .i64 M.gap,.slice M.z.a M.z.len M.z.cap] T.a44)::lgR M::slc T.a47 1 x (ns.flatMap z21)::r)) ?_ ?_
  ·refine ze (λh=>?_) λh=>?_
   rotate_left
   ·refine zj ⟨λhh=>h hh.1,?_⟩
    rw [if_neg h]
    exact hs
   refine zk ?_
   refine za hs ?_
   refine z8 (zay (d:=M.d) (A:=D') ns[i] hs) λ_ w' hs=>?_
   obtain ⟨rfl,hs⟩:=hs
   refine zb ?_
   refine wp_lt ?_
   refine ze (λh2=>?_) λh2=>?_
   ·refine wp_lt ?_
    rw [if_pos ⟨h,h2⟩] at hun
    rw [hun] at hq1 hq2
    have hs:=z40 M hokm (hs.pick [2,2])
    refine zh (zh (zh ⟨rfl,.inl ⟨by rw [hq1];exact h2,by rw [hq1],?_⟩⟩))
    rw [hq2]
    exact hs.sub
   ·refine zj ⟨λhh=>h2 hh.2,?_⟩
    rw [if_pos h]
    exact hs.sub
  rintro _ w3 ⟨hno,hs⟩
  rw [if_neg hno] at hun
  rw [hun] at hq1 hq2 hq3
  refine zm ?_
  rw [wS (i:=i) (by omega)]
  refine z16 (ns.length-(i+1)) ⟨i+1,z',done++(match z19 M.pre ns[i] zr with|some b=>[(b:Int)]|none=>[]),_,rfl,by omega,rfl,hdl2,⟨hq1,hq2,λh=>?_⟩,hs⟩
  rw [hq3 h,List.append_assoc]
theorem z00g (x:Sl) (bs:List Int) (hb:∀ b ∈ bs,0<=b/\b<17592186044416) {r1:List HP} [hf:Fo l lgQ lg M r1] [hf2:Fo r1 dk M.d D r] (hx:FocR r x 1 (bs.flatMap z3o)) (hlen:bs.length<=1000000) (hs:Sat w l) :
  Ret P F.a135 #[.pointer (some ⟨lg,0,none⟩),x.v] w λvs w'=>vs=[.int .i64 (z5w M.pre bs D).1]/\Sat w' (lgQ lg M::dk M.d (z5w M.pre bs D).2::r) :=
 zmr _ x <| by
  delta zz5 AA AF AI AL AN Ad Af Ah Ak Al Am Ap Ar Ay Az Ba Bg
  have hs:=hs.perm (hf.perm.trans (.cons _ hf2.perm))
  clear hf hf2
  obtain ⟨hokm,hs⟩:=z8r hs
  have hsz:=hokm.size
  have hl:=hs.slen x (xs:=bs) (enc:=z3o)
  refine zg (λ_ w'=>(z5w M.pre bs D).1=0/\Sat w' (lgQ lg M::dk M.d (z5w M.pre bs D).2::r)) ?_ ?_
  rotate_left
  ·rintro _ w2 ⟨h1,hs⟩
   rw [h1]
   exact ⟨rfl,rfl,hs⟩
  refine z04 (λm v w=>∃ (i:Nat) (D':DiskA),v=((i:Int),())/\i<=bs.length/\bs.length-i=m/\z5w M.pre bs D=z5w M.pre (bs.drop i) D' /\
   Sat w (pt lg (.cells #[.pointer (some ⟨M.d,0,none⟩),.string M.pre,.int .i64 M.seg,.int .i64 M.gap,.slice M.z.a M.z.len M.z.cap] T.a44)::lgR M::dk M.d D'::r)) bs.length ⟨0,D,rfl,by omega,rfl,rfl,hs⟩ ?_
  clear hs
  rintro m _ w ⟨i,D',rfl,hi,hm,hq,hs⟩
  refine zm ?_
  refine ze (λhc=>?_) λhc=>?_
  rotate_left
  ·have e:bs.drop i=[]:=List.drop_eq_nil_of_le (by omega)
   rw [e] at hq
   refine zh (zj ⟨by rw [hq];rfl,?_⟩)
   rw [hq]
   exact z40 M hokm hs
  have hil:i<bs.length:=by omega
  rw [List.drop_eq_getElem_cons hil] at hq
  have hbb:=hb bs[i] (List.getElem_mem hil)
  refine z1v hs (xs:=bs) (enc:=z3o) i hil ?_
  refine wp_lt ?_
  have hun:z5w M.pre (bs[i]::bs.drop (i+1)) D'=if (z0x D' (zl M.pre bs[i] zr)).1≠0 then z0x D' (zl M.pre bs[i] zr) else z5w M.pre (bs.drop (i+1)) (z0x D' (zl M.pre bs[i] zr)).2:=rfl
  refine zg (λv w'=>v=((z0x D' (zl M.pre bs[i] zr)).1,())/\Sat w' (pt lg (.cells #[.pointer (some ⟨M.d,0,none⟩),.string M.pre,.int .i64 M.seg,.int .i64 M.gap,.slice M.z.a M.z.len M.z.cap] T.a44)::lgR M::dk M.d (z0x D' (zl M.pre bs[i] zr)).2::r)) ?_ ?_
  ·refine zy hs λw' hs=>?_
   refine zk ?_
   refine z18 hs ?_
   refine z8 (z7a (lg:=lg) bs[i] hbb (ByteArray.mk #[46,108,111,103]) (by decide) M.pre hsz hs) λ_ w' hs=>?_
   obtain ⟨rfl,hs⟩:=hs
   refine zb ?_ (by first|trivial|(repeat (first|exact trivial|exact λ_=>z09 hs|exact λ_=>z0q hs|refine And.intro ?_ ?_)))
   refine zd ?_
   refine z8 (zay (d:=M.d) (A:=D') (zl M.pre bs[i] (bl (ByteArray.mk #[46,108,111,103]))) hs) λ_ w' hs=>?_
   obtain ⟨rfl,hs⟩:=hs
   refine zb ?_
   refine wp_lt ?_
   refine zd ?_
   have hs:Sat w' (dk M.d (z0x D' (zl M.pre bs[i] zr)).2::_):=hs
   exact zj ⟨rfl,hs.sub⟩
  rintro _ w2 ⟨rfl,hs⟩
  refine ze (λh=>?_) λh=>?_
  ·refine wp_lt ?_
   rw [if_pos h] at hun
   rw [hun] at hq
   rw [hq]
   exact zh (zh ⟨rfl,rfl,z40 M hokm hs⟩)
  ·rw [if_neg h] at hun
   rw [hun] at hq
   rw [wS (i:=i) (by omega)]
   exact z16 (bs.length-(i+1)) ⟨i+1,_,rfl,by omega,rfl,hq,hs⟩
end
theorem zfi (k:Nat) (n:Int) (raw:List UInt8):z25 (k+1) n raw=match z0v raw with
  | none=>([],0)
  | some (body,m)=>match z5f body with
   | none=>([],0)
   | some b=>if b.base<n then ([],0) else (b::(z25 k (b.base+zo b) (raw.drop m)).1,m+(z25 k (b.base+zo b) (raw.drop m)).2):=rfl
theorem zch {fs:List FileA} {n:ByteArray} {p:List UInt8 × Nat} (h:z01 fs n=some p):p.1.length<=used fs:=z7g (zqe h)
section
variable {w:World} {l r:List HP} {lg:Nat} {M:LogM} {A:LogA} {D:DiskA} {gap:Int} {a:Nat} {t:SegM}
theorem zx5 (b:BatM) (z:Sl) (hv:z03 b=0) (hp:b.p=b) [hf:Fo l (z0m gap) a t r] [hb:FocR r z 4 (b.rs.flatMap z02)] (hlen:t.s.file.length+(frL b).length<=1000000000) (hs:Sat w l) :
  Ret P F.a154 #[.pointer (some ⟨a,0,none⟩),.agg (zu (b.at z)).toArray,.int .i64 ((frL b).length:Nat)] w λvs w'=>vs=[]/\Sat w' (z0m gap a ⟨t.ix,t.s.add [b]⟩::r):=by
 have hb':FocR r (b.at z).x 4 ((b.at z).rs.flatMap z02):=hb
 have h:=zuz (gap:=gap) (a:=a) (b.at z) hv hlen hs
 have e:t.s.add [b.at z]=t.s.add [b]:=by
  unfold SegA.add
  have:(b.at z).p=b.p:=rfl
  simp only [List.map_cons,List.map_nil,this]
 rw [e] at h
 exact h
set_option maxHeartbeats 1000000 in
theorem z03i (base:Int) (hb:0<=base/\base<17592186044416) {r1:List HP} [hf:Fo l lgQ lg M r1] [hf2:Fo r1 dk M.d D r] (hlen:M.SM.length<=1000000) (hs:Sat w l) :
  Ret P F.a143 #[.pointer (some ⟨lg,0,none⟩),.int .i64 base] w λvs w'=>vs=[.bool (z1i M.pre M.l D base).1.1,.int .i64 (z1i M.pre M.l D base).1.2] /\
   ∃ M':LogM,(M'.d=M.d/\M'.pre=M.pre/\M'.seg=M.seg/\M'.gap=M.gap)/\M'.l=(z1i M.pre M.l D base).2.1/\M'.SM.length<=M.SM.length+1/\Sat w' (lgQ lg M'::dk M.d (z1i M.pre M.l D base).2.2::r) :=
 zmy _ base <| by
  delta zzc AC AD AE AF AI AJ AK AX AZ Aa Ac Ad Af Ag Ah Ak Al Am Ap Ar As Ay BM Bg Br Ca
  have hs:=hs.perm (hf.perm.trans (.cons _ hf2.perm))
  clear hf hf2
  obtain ⟨hokm,hs⟩:=z8r hs
  have hsz:=hokm.size
  obtain ⟨m_,FS_,-,hokD,-⟩:=z1x (hs.pick [2])
  refine z8 (z7a (lg:=lg) base hb (ByteArray.mk #[46,108,111,103]) (by decide) M.pre hsz hs) λ_ w' hs=>?_
  obtain ⟨rfl,hs⟩:=hs
  refine zb ?_
  have en:zl M.pre base (bl (ByteArray.mk #[46,108,111,103]))=zl M.pre base zr:=rfl
  rw [en]
  generalize hnm:zl M.pre base zr=nm at *
  refine wp_lt ?_
  refine zk ?_
  refine za hs ?_
  have hsame:∀ {w:World} {D':DiskA},Sat w (pt lg (.cells #[.pointer (some ⟨M.d,0,none⟩),.string M.pre,.int .i64 M.seg,.int .i64 M.gap,.slice M.z.a M.z.len M.z.cap] T.a44)::lgR M::dk M.d D'::r)->∃ M':LogM,(M'.d=M.d/\M'.pre=M.pre/\M'.seg=M.seg/\M'.gap=M.gap)/\M'.l=M.l/\M'.SM.length<=M.SM.length+1/\Sat w (lgQ lg M'::dk M.d D'::r):=λhs=>⟨M,⟨rfl,rfl,rfl,rfl⟩,rfl,by omega,z40 M hokm hs⟩
  unfold z1i
  rw [hnm]
  refine z8 (zfc (d:=M.d) (A:=D) nm hs) λ_ w' hs=>?_
  rcases hs with ⟨f,hff,hfn,x,rfl,hs⟩|⟨hno,rfl,hs⟩
  rotate_left
  ·refine zb ?_
   refine wp_lt ?_
   refine z0g ?_ (by decide)
   refine wp_lt ?_
   rw [zam.2 hno]
   exact ⟨rfl,rfl,hsame hs.sub⟩
  refine zb ?_
  refine wp_lt ?_
  refine z06 ?_ (by simp)
  have hfd:z01 D.fs nm=some (f.b,f.kept):=by rw [<- hfn];exact zbq (z2h hokD.sorted) hff
  have hrl:f.b.length<=4194304:=Nat.le_trans (z7g hff) hokD.used
  rw [hfd]
  simp only
  generalize f.b=raw at *
  have hl:=hs.slen x (xs:=raw) (enc:=zf)
  have hcap:=hs.slc_cap
  refine z8 (zal x raw hcap (by omega) hs) λ_ w' hs=>?_
  obtain ⟨y,rfl,hs⟩:=hs
  refine zb ?_
  refine wp_lt ?_
  refine wp_lt ?_
  refine zg (λq w'=>∃ v:Int,q=(v,(z47 base raw).isSome,())/\(∀ s,z47 base raw=some s->v=s.1.fin)/\Sat w' (slc T.a48 1 x (raw.flatMap zf)::pt lg (.cells #[.pointer (some ⟨M.d,0,none⟩),.string M.pre,.int .i64 M.seg,.int .i64 M.gap,.slice M.z.a M.z.len M.z.cap] T.a44)::lgR M::dk M.d D::r)) ?_ ?_
  ·cases hfr:z0v raw with
   | none =>
    rw [hfr] at hs
    have e:z47 base raw=none:=by unfold z47;rw [hfr]
    rw [e]
    refine z06 ?_ (by simp)
    exact zj ⟨0,rfl,(λs h=>by cases h),hs.sub⟩
   | some q =>
    obtain ⟨body,m⟩:=q
    rw [hfr] at hs
    have hs:Sat w' (slc T.a48 1 y (body.flatMap zf)::_):=hs
    obtain ⟨-,-,hbd,-⟩:=z5i hfr
    refine z0g ?_ (by rfl)
    refine z8 (zvr y body base (by omega) (by omega) hs) λ_ w' hs=>?_
    obtain ⟨v,rfl,hv,hs⟩:=hs
    refine zb ?_
    refine wp_lt ?_
    refine wp_lt ?_
    have e:z47 base raw=match z59 base body with
      | none=>none
      | some fin=>some (⟨base,fin,(z25 raw.length base (raw.drop m)).1⟩,m+(z25 raw.length base (raw.drop m)).2):=by simp only [z47,hfr];cases z59 base body <;> rfl
    rw [e]
    cases hh:z59 base body with
    | none=>exact zj ⟨v,rfl,(λs h=>by cases h),hs.sub⟩
    | some fin =>
     have:=hv fin hh
     subst this
     exact zj ⟨v,rfl,(λs h=>by simp only [Option.some.injEq] at h;subst h;rfl),hs.sub⟩
  rintro _ w2 ⟨v,rfl,hv,hs⟩
  cases hsc:z47 base raw with
  | none =>
   refine z0g ?_ (by simp)
   refine zk ?_
   refine za hs ?_
   refine z8 (zay (d:=M.d) (A:=D) nm hs) λ_ w' hs=>?_
   obtain ⟨rfl,hs⟩:=hs
   refine zb ?_
   refine wp_lt ?_
   exact ⟨rfl,rfl,hsame hs.sub⟩
  | some q =>
   obtain ⟨s,mm⟩:=q
   dsimp only
   have hv:=hv _ hsc
   have hv:v=s.fin:=hv
   subst hv
   obtain ⟨hsok,hsb,hst,hsm,hsml⟩:=zkp hsc
   refine z06 ?_ (by simp)
   obtain ⟨m0,hm0,htk⟩:∃ m0,((z0v raw).getD ([],0)).2=m0/\m0<=raw.length/\m0=(shL s.base s.fin).length/\s.bs=(z25 raw.length base (raw.drop m0)).1/\mm=m0+(z25 raw.length base (raw.drop m0)).2:=by
    unfold z47 at hsc
    cases hfr:z0v raw with
    | none=>rw [hfr] at hsc;cases hsc
    | some q =>
     obtain ⟨body,m⟩:=q
     rw [hfr] at hsc
     simp only at hsc
     cases hh:z59 base body with
     | none=>rw [hh] at hsc;cases hsc
     | some fin =>
      rw [hh] at hsc
      simp only [Option.some.injEq,Prod.mk.injEq] at hsc
      obtain ⟨e1,e2⟩:=hsc
      obtain ⟨f1,f2,f3,f4⟩:=z5i hfr
      obtain ⟨-,-,hb3⟩:=zhj hh
      refine ⟨m,rfl,f2,?_,by rw [<- e1],e2.symm⟩
      rw [<- e1]
      show m=(shL base fin).length
      unfold shL
      rw [z7f (by have:=zcq base fin;omega),<- hb3,f1]
   obtain ⟨h1,h2,h3,h4⟩:=htk
   rw [hm0]
   have hbase0:=hsok.base
   have hfin0:0<=s.fin/\s.fin<9223372036854775808:=by have:=hsok.fin;omega
   have hs:=z40 M hokm (hs.pick [1,1])
   refine z8 (zk1 (lg:=lg) base s.fin (by omega) hfin0 hs) λ_ w' hs=>?_
   obtain ⟨a,ix,rfl,hs⟩:=hs
   refine zb ?_
   refine wp_lt ?_
   refine zg (λq w'=>q=((mm:Int),())/\Sat w' (z0m M.gap a ⟨ix,s⟩::lgQ lg M::slc T.a48 1 x (raw.flatMap zf)::dk M.d D::r)) ?_ ?_
   ·refine z04 (λk q w=>∃ (at_:Nat) (n:Int) (done:List BatM),q=((at_:Int),(n,()))/\at_<=raw.length/\raw.length-at_<=k /\
     s.bs=done++(z25 k n (raw.drop at_)).1/\mm=at_+(z25 k n (raw.drop at_)).2/\at_=((⟨base,s.fin,[]⟩:SegA).add done).file.length /\
     Sat w (z0m M.gap a ⟨ix,(⟨base,s.fin,[]⟩:SegA).add done⟩::lgQ lg M::slc T.a48 1 x (raw.flatMap zf)::dk M.d D::r)) raw.length
     ⟨m0,base,[],rfl,h1,by omega,by rw [List.nil_append];exact h3,h4,by rw [zg0,z2d];simp only [List.flatMap_nil,List.length_nil];rw [h2,hsb];omega,by rw [zg0];exact hs⟩ ?_
    clear hs
    rintro k _ w ⟨at_,n,done,rfl,ha1,ha2,ha3,ha4,ha5,hs⟩
    have hend:z25 k n (raw.drop at_)=([],0)->∀ {w:World},Sat w (z0m M.gap a ⟨ix,(⟨base,s.fin,[]⟩:SegA).add done⟩::lgQ lg M::slc T.a48 1 x (raw.flatMap zf)::dk M.d D::r)->at_=mm/\Sat w (z0m M.gap a ⟨ix,s⟩::lgQ lg M::slc T.a48 1 x (raw.flatMap zf)::dk M.d D::r):=by
     intro he w hs
     rw [he] at ha3 ha4
     simp only [List.append_nil] at ha3
     have hpp:done.map BatM.p=done:=by
      rw [List.map_congr_left (g:=id) λb hb=>((hsok.bs.valid b (by rw [ha3];exact hb)).2),List.map_id]
     have es:(⟨base,s.fin,[]⟩:SegA).add done=s:=by
      unfold SegA.add
      rw [hpp,<- ha3,<- hsb]
      rfl
     rw [es] at hs
     exact ⟨ha4.symm,hs⟩
    refine zm ?_
    refine wp_must (by omega) ?_
    rw [Int.toNat_natCast]
    have hxc:FocR (z0m M.gap a ⟨ix,(⟨base,s.fin,[]⟩:SegA).add done⟩::lgQ lg M::slc T.a48 1 x (raw.flatMap zf)::dk M.d D::r) ⟨z1n x.a 1 at_ x.cap,x.len-at_,x.cap-at_⟩ 1 ((raw.drop at_).flatMap zf):=FocR.post hcap
    refine z8 (zal ⟨z1n x.a 1 at_ x.cap,x.len-at_,x.cap-at_⟩ (raw.drop at_) (by show x.len-at_<=x.cap-at_;omega) (by rw [List.length_drop];omega) hs) λ_ w' hs=>?_
    obtain ⟨y,rfl,hs⟩:=hs
    refine zb ?_
    refine wp_lt ?_
    refine wp_lt ?_
    cases hfr:z0v (raw.drop at_) with
    | none =>
     rw [hfr] at hs
     refine z0g ?_ (by simp)
     have he:z25 k n (raw.drop at_)=([],0):=by
      cases k with
      | zero=>rfl
      | succ k=>rw [zfi,hfr]
     obtain ⟨e1,hs⟩:=hend he hs.tail
     refine zh (zj ⟨by rw [e1],hs⟩)
    | some q =>
     obtain ⟨body,m⟩:=q
     rw [hfr] at hs
     have hs:Sat w' (slc T.a48 1 y (body.flatMap zf)::_):=hs
     obtain ⟨f1,f2,hbd,f4⟩:=z5i hfr
     rw [List.length_drop] at f2
     dsimp only [Option.getD,Option.isSome]
     refine z06 ?_ (by simp)
     obtain ⟨k,rfl⟩:∃ k',k=k'+1:=⟨k-1,by omega⟩
     rw [zfi,hfr] at ha3 ha4 hend
     refine z8 (zje y body (by omega) hs) λ_ w' hs=>?_
     rcases hs with ⟨b,z,hdec,rfl,hs⟩|⟨hdec,rfl,hs⟩
     rotate_left
     ·refine ⟨(0,0,0,0,0,0,z7c,6,()),rfl,trivial,zct _ _ _ _ _ _ _ _ ?_⟩
      refine zt hs λc w' hs=>?_
      refine zv hs λw' hs=>?_
      refine wp_lt ?_
      refine za hs ?_
      refine z0g ?_ (.inl (by decide))
      obtain ⟨e1,hs⟩:=hend (by simp only [hdec]) hs.tail.tail
      exact zh (zj ⟨by show ((at_:Int),())=_;rw [e1],hs⟩)
     ·obtain ⟨d1,d2,d3⟩:=zjd hdec
      have hfrb:(frL b).length=m:=by rw [(z4i d1).2,d2,f1]
      refine ⟨(b.base,b.pid,b.epoch,b.seq,b.kind,b.time,z,0,()),rfl,trivial,zct _ _ _ _ _ _ _ _ ?_⟩
      refine zt hs λc w' hs=>?_
      refine zv hs λw' hs=>?_
      refine wp_lt ?_
      refine za hs ?_
      simp only [hdec] at ha3 ha4 hend
      refine ze (λhc=>?_) λhc=>?_
      ·have hc:b.base<n:=by
        rcases hc with hc|hc
        ·exact absurd rfl hc
        ·exact hc
       obtain ⟨e1,hs⟩:=hend (by rw [if_pos hc]) hs.tail.tail.tail
       exact zh (zj ⟨by show ((at_:Int),())=_;rw [e1],hs⟩)
      have hc:¬ b.base<n:=λh=>hc (.inr h)
      rw [if_neg hc] at ha3 ha4
      simp only at ha3 ha4
      refine zi hs ?_
      have hz:FocR (pt c (.cells #[.int .i64 b.base,.int .i64 b.pid,.int .i64 b.epoch,.int .i64 b.seq,.int .i64 b.kind,.int .i64 b.time,.slice z.a z.len z.cap] T.a0)::slc T.a2 4 z (b.rs.flatMap z02)::slc T.a48 1 y (body.flatMap zf)::lgQ lg M::slc T.a48 1 x (raw.flatMap zf)::dk M.d D::r) z 4 (b.rs.flatMap z02):=inferInstance
      have hs:Sat w' (pt c (.cells #[.int .i64 b.base,.int .i64 b.pid,.int .i64 b.epoch,.int .i64 b.seq,.int .i64 b.kind,.int .i64 b.time,.slice z.a z.len z.cap] T.a0)::slc T.a2 4 z (b.rs.flatMap z02)::slc T.a48 1 y (body.flatMap zf)::z0m M.gap a ⟨ix,(⟨base,s.fin,[]⟩:SegA).add done⟩::lgQ lg M::slc T.a48 1 x (raw.flatMap zf)::dk M.d D::r):=hs
      have hml:((m:Nat):Int)=((frL b).length:Nat):=by rw [hfrb]
      show (Prog.call F.a154 [_,.agg _,.int .i64 ((m:Nat):Int)] _ _).wp P _ _ _
      rw [hml]
      refine z8 (zx5 (gap:=M.gap) (a:=a) (t:=⟨ix,(⟨base,s.fin,[]⟩:SegA).add done⟩) b z d1 d3 (by show ((⟨base,s.fin,[]⟩:SegA).add done).file.length+_<=_;rw [<- ha5];omega) hs) λ_ w' hs=>?_
      obtain ⟨rfl,hs⟩:=hs
      refine zb ?_
      have e6:((⟨base,s.fin,[]⟩:SegA).add done).add [b]=(⟨base,s.fin,[]⟩:SegA).add (done++[b]):=zob _ _ _
      have hs:Sat w' (z0m M.gap a ⟨ix,((⟨base,s.fin,[]⟩:SegA).add done).add [b]⟩::_):=hs
      rw [e6] at hs
      have hs:=z3i hs
      refine zk ?_
      refine za hs ?_
      refine wp_lt ?_
      rw [w64 (by omega) (by omega)]
      refine wp_lt ?_
      have en2:z0b ((⟨base,s.fin,[]⟩:SegA).add (done++[b])).bs=b.base+zo b:=by
       show z0b ([]++(done++[b]).map BatM.p)=_
       rw [List.nil_append,List.map_append]
       exact z39 _ _
      rw [show z0b (SegM.s ⟨ix,(⟨base,s.fin,[]⟩:SegA).add (done++[b])⟩).bs=b.base+zo b from en2]
      have hs:=z2g ⟨ix,(⟨base,s.fin,[]⟩:SegA).add (done++[b])⟩ hs
      have ec:(at_:Int)+((frL b).length:Nat)=((at_+m:Nat):Int):=by rw [hfrb];omega
      rw [ec]
      refine z16 k ⟨at_+m,b.base+zo b,done++[b],rfl,by omega,by omega,?_,?_,?_,hs.sub⟩
      ·rw [ha3,List.append_assoc,List.drop_drop];rfl
      ·rw [ha4,List.drop_drop];omega
      ·rw [<- e6,z6g,List.length_append,<- ha5]
       simp only [List.flatMap_cons,List.flatMap_nil,List.append_nil]
       omega
   clear hs
   rintro _ w3 ⟨rfl,hs⟩
   refine zm ?_
   have hs:=hs.pick [1]
   refine z8 (zy2 (lg:=lg) a ⟨ix,s⟩ (by omega) hs) λ_ w' hs=>?_
   obtain ⟨z,rfl,hs⟩:=hs
   refine zb ?_
   have hfin2:∀ {w:World} {D':DiskA},Sat w (lgQ lg { M with z:=z,SM:=M.SM++[(a,⟨ix,s⟩)] }::dk M.d D'::r)->∃ M':LogM,(M'.d=M.d/\M'.pre=M.pre/\M'.seg=M.seg/\M'.gap=M.gap)/\M'.l=M.l++[s]/\M'.SM.length<=M.SM.length+1/\Sat w (lgQ lg M'::dk M.d D'::r):=λhs =>
    ⟨{ M with z:=z,SM:=M.SM++[(a,⟨ix,s⟩)] },⟨rfl,rfl,rfl,rfl⟩,by unfold LogM.l;simp,by simp,hs⟩
   refine ze (λhc=>?_) λhc=>?_
   ·have hc:mm=raw.length:=by omega
    rw [if_pos hc]
    exact ⟨rfl,rfl,hfin2 hs.sub⟩
   ·rw [if_neg (show ¬ mm=raw.length by omega)]
    refine zk ?_
    obtain ⟨hokm2,hs⟩:=z8r hs
    refine za hs ?_
    refine z8 (z05j (d:=M.d) (A:=D) nm ((mm:Nat):Int) hs) λ_ w' hs=>?_
    obtain ⟨rfl,hs⟩:=hs
    refine zb ?_
    refine wp_lt ?_
    have hs:=z40 { M with z:=z,SM:=M.SM++[(a,⟨ix,s⟩)] } hokm2 (hs.pick [1,1])
    exact ⟨rfl,rfl,hfin2 hs.sub⟩
end
def z49 (a:Nat) (outs:List BatM):HP:=HP.ex λz:Sl=>HP.star (pt a (.cells #[.slice z.a z.len z.cap] T.a33)) (HP.star (slc T.a0 7 z (outs.flatMap zu)) (z1q outs))
section
variable {w:World} {l r r1 r2:List HP} {lg ao:Nat} {M:LogM} {A:LogA} {D:DiskA} {gap:Int} {a:Nat} {t:SegM} {outs:List BatM}
theorem zka (hs:Sat w (z49 ao outs::l)):∃ z:Sl,Sat w (pt ao (.cells #[.slice z.a z.len z.cap] T.a33)::slc T.a0 7 z (outs.flatMap zu)::z1q outs::l):=by
 obtain ⟨z,hs⟩:=hs.ex
 have hs:=hs.star
 exact ⟨z,((hs.pick [1]).star).pick [2]⟩
theorem zc7 {z:Sl} (hs:Sat w (pt ao (.cells #[.slice z.a z.len z.cap] T.a33)::slc T.a0 7 z (outs.flatMap zu)::z1q outs::l)):Sat w (z49 ao outs::l) :=
 .ex_mk z (.star_mk (((hs.pick [1,1]).star_mk).pick [1]))
theorem zvc {b:BatM} (hs:Sat w (slc T.a2 4 b.x (b.rs.flatMap z02)::z1q outs::l)):Sat w (z1q (outs++[b])::l):=by
 have h1:Sat w (HP.all ((b::outs).map rsP)::l):=by
  have h2:Sat w (rsP b::HP.all (outs.map rsP)::l):=hs
  exact h2.all_put
 exact h1.all_perm ((List.perm_append_comm (l₁:=[b]) (l₂:=outs)).map rsP)
theorem zj7 (hs:Sat w l):Sat w (z1q []::l):=hs.all_nil
theorem zck {b:BatM} (hb:b ∈ outs):FocR (z1q outs::l) b.x 4 (b.rs.flatMap z02):=⟨λw hs=>by
 obtain ⟨L,hs⟩:=hs.all_mem (f:=rsP) hb
 exact Sat.rd hs⟩
theorem z03p (b:BatM) (off most:Int) (a1 a2:Nat) (ho : -9223372036854775808<=off/\off<9223372036854775808) (hcap:b.x.len<=b.x.cap) (hol:outs.length<=2000000) [hf:Fo l z49 ao outs r] [h1:FocB r a1 (.cells [.int .i64 off].toArray T.a13) r1] [h2:FocB r a2 (.cells [.int .i64 most].toArray T.a12) r2] [hb:FocR r b.x 4 (b.rs.flatMap z02)] (hs:Sat w l) :
  Ret P F.a130 #[.agg (zu b).toArray,.pointer (some ⟨a1,0,none⟩),.pointer (some ⟨ao,0,none⟩),.pointer (some ⟨a2,0,none⟩)] w λvs w'=>∃ outs':List BatM,vs=[.bool (decide ((outs'.length:Int)<most))]/\outs'.map BatM.p=outs.map BatM.p++(z0o off b).toList.map BatM.p/\Sat w' (z49 ao outs'::r) :=
 zmo b.base b.pid b.epoch b.seq b.kind b.time b.x _ _ _ <| by
  delta zz2 AC AD AR Aa Ab Ac Ad Ag Ah Ak Al Ap Az B5 BY Cb
  obtain ⟨z,hs⟩:=zka (hs.perm hf.perm)
  have hl:=hs.slen z (xs:=outs) (enc:=zu)
  refine zn hs λa0 w' hs=>?_
  refine zi hs ?_
  refine za hs ?_
  refine z8 (z00q b off ho hcap hs) λ_ w' hs=>?_
  rcases hs with ⟨hn,rfl,hs⟩|⟨c,zc,hc,rfl,hs⟩
  ·refine ⟨(0,0,0,0,0,0,z7c,false,()),rfl,trivial,zct _ _ _ _ _ _ _ _ ?_⟩
   refine zt hs λa3 w' hs=>?_
   refine zv hs λw' hs=>?_
   refine wp_lt ?_
   refine z56 ?_
   refine z06 ?_ (by simp)
   refine z4f ?_
   refine za hs ?_
   refine za hs ?_
   refine wp_lt ?_
   refine ⟨rfl,outs,by rw [hl],by rw [hn];simp,zc7 (z:=z) hs.sub⟩
  ·refine ⟨(c.base,c.pid,c.epoch,c.seq,c.kind,c.time,zc,true,()),rfl,trivial,zct _ _ _ _ _ _ _ _ ?_⟩
   refine zt hs λa3 w' hs=>?_
   refine zv hs λw' hs=>?_
   refine wp_lt ?_
   refine z56 ?_
   refine z0g ?_ (by trivial)
   refine za hs ?_
   refine zi hs ?_
   refine z67 (xs:=outs) (enc:=zu) (y:=c.at zc) hs (λz' w' hs=>?_) rfl (by omega)
   refine z07 hs λw' hs=>?_
   refine z4f ?_
   refine za hs ?_
   refine za hs ?_
   refine wp_lt ?_
   have hs:Sat w' (pt ao (.cells #[.slice z'.a z'.len z'.cap] T.a33)::slc T.a0 7 z' ((outs++[c.at zc]).flatMap zu)::pt a3 _::slc T.a2 4 (c.at zc).x ((c.at zc).rs.flatMap z02)::pt a0 _::z1q outs::r):=hs
   have hl':=hs.slen z' (xs:=outs++[c.at zc]) (enc:=zu)
   refine ⟨rfl,outs++[c.at zc],by rw [hl'],by rw [hc];simp;rfl,?_⟩
   have hs:=zvc (hs.pick [3,4])
   exact zc7 (z:=z') (hs.pick [1,1,0]).sub
theorem z01t (off:Int) (hok:SegOk t.s) (hfl:t.s.file.length<=4194304) [hf:Fo l (z0m gap) a t r] (hs:Sat w l):Ret P F.a152 #[.pointer (some ⟨a,0,none⟩),.int .i64 off] w λvs w'=>vs=[.int .i64 (zuh t.s (z2r (t.s.idx gap).l off))]/\Sat w' (z0m gap a t::r) :=
 zn7 _ off <| by
  delta zzl AC AD AH AI AJ AL AN Ad Af Ah Al An Ap Aq Ar
  have hi:IdxOk gap (shL t.s.base t.s.fin).length t.s.bs (t.s.idx gap):=zjs gap t.s.bs.length (n:=t.s.base) (q:=(shL t.s.base t.s.fin).length) rfl hok.base.1 (by omega) hok.bs (by have:=z2d t.s;omega)
  have hs:=z3i (hs.perm hf.perm)
  refine zk ?_
  refine za hs ?_
  refine z8 (z02h (b:=t.ix) off hi.offs hs) λ_ w' hs=>?_
  obtain ⟨rfl,hs⟩:=hs
  refine ⟨((orE (z2r (t.s.idx gap).l off)).offset,(orE (z2r (t.s.idx gap).l off)).place,(orE (z2r (t.s.idx gap).l off)).before,(z2r (t.s.idx gap).l off).isSome,()),rfl,trivial,zy5 _ _ _ _ ?_⟩
  refine zt hs λc w' hs=>?_
  refine zv hs λw' hs=>?_
  refine wp_lt ?_
  cases hfe:z2r (t.s.idx gap).l off with
  | some e =>
   refine z0g ?_ (by rfl)
   rw [hfe] at hs
   refine za hs ?_
   refine wp_lt ?_
   exact ⟨rfl,rfl,z2g t hs.sub⟩
  | none =>
   refine z06 ?_ (by simp)
   refine zy hs λw' hs=>?_
   refine zk ?_
   refine za hs ?_
   refine zk ?_
   refine za hs ?_
   have hb:=hok.base
   have hfn:0<=t.s.fin/\t.s.fin<9223372036854775808:=by have:=hok.fin;omega
   refine z8 (zjr t.s.base t.s.fin (by omega) hfn hs) λ_ w' hs=>?_
   obtain ⟨y,rfl,hs⟩:=hs
   refine zb ?_
   have hl:=hs.slen y (xs:=shL t.s.base t.s.fin) (enc:=zf)
   refine wp_lt ?_
   refine zd ?_
   refine ⟨rfl,?_,z2g t hs.sub⟩
   rw [hl]
   rfl
set_option maxHeartbeats 1000000 in
theorem z03s (off:Int) (most:Nat) (a1 a2:Nat) (ho : -9223372036854775808<=off/\off<9223372036854775808) {i k kp:Nat} (hsi:i<M.SM.length) (hok:SegOk M.SM[i].2.s) (hfile:z01 D.fs (zl M.pre M.SM[i].2.s.base zr)=some (M.SM[i].2.s.file,kp)) (hk:k<=M.SM[i].2.s.bs.length) (hout:outs.length<most) (hol:outs.length+M.SM[i].2.s.bs.length<=2000000)
  (hs:Sat w (z49 ao outs::lgQ lg M::dk M.d D::pt a1 (.cells [.int .i64 off].toArray T.a13)::pt a2 (.cells [.int .i64 (most:Int)].toArray T.a12)::r)) :
  Ret P F.a145 #[.pointer (some ⟨lg,0,none⟩),.pointer (some ⟨M.SM[i].1,0,none⟩),.int .i64 (z2o M.SM[i].2.s k:Nat),.func (.func F.a130) #[] #[.pointer (some ⟨a1,0,none⟩),.pointer (some ⟨ao,0,none⟩),.pointer (some ⟨a2,0,none⟩)]] w λvs w' =>
   ∃ outs':List BatM,vs=[.bool (decide (outs.length+((M.SM[i].2.s.bs.drop k).filterMap (z0o off)).length<most))]/\outs'.map BatM.p=(outs.map BatM.p++(M.SM[i].2.s.bs.drop k).filterMap (z0o off)).take most/\outs'.length<=outs.length+M.SM[i].2.s.bs.length /\
    Sat w' (z49 ao outs'::lgQ lg M::dk M.d D::pt a1 (.cells [.int .i64 off].toArray T.a13)::pt a2 (.cells [.int .i64 (most:Int)].toArray T.a12)::r) :=
 zn0 _ _ _ _ <| by
  delta zze AA AC AD AF AI AK AL AN AO AP AQ Aa Ad Af Ag Ah Aj Ak Al Ap Ar As Ay Az BI Ba Ca
  obtain ⟨m_,FS_,-,hokD,-⟩:=z1x (hs.pick [2])
  obtain ⟨hokm,hs⟩:=z2j (hs.pick [1])
  have hs:=z3i (z8x (hs.pick [2]) hsi)
  generalize hT:M.SM[i]=T0 at *
  obtain ⟨a,t⟩:=T0
  dsimp only at hok hfile hk hol hs ⊢
  have hrl:t.s.file.length<=4194304:=Nat.le_trans (zch hfile) hokD.used
  have hbl:=zg5 hok
  have hb0:=hok.base
  refine zg (λq w'=>∃ x:Sl,q=(x,())/\x.len<=x.cap/\Sat w' (slc T.a48 1 x (t.s.file.flatMap zf)::pt a (.cells #[.pointer (some ⟨t.ix,0,none⟩),.int .i64 t.s.base,.int .i64 t.s.fin,.int .i64 (z0b t.s.bs),.int .i64 (z1a (-1) t.s.bs),.int .i64 (t.s.file.length:Nat)] T.a45)::z26 t.ix (t.s.idx M.gap)::HP.all ((M.SM.eraseIdx i).map λt=>z0m M.gap t.1 t.2)::pt lg (.cells #[.pointer (some ⟨M.d,0,none⟩),.string M.pre,.int .i64 M.seg,.int .i64 M.gap,.slice M.z.a M.z.len M.z.cap] T.a44)::slc T.a29 1 M.z ((M.SM.map Prod.fst).flatMap z1j)::z49 ao outs::dk M.d D::pt a1 (.cells [.int .i64 off].toArray T.a13)::pt a2 (.cells [.int .i64 (most:Int)].toArray T.a12)::r)) ?_ ?_
  ·refine zy hs λw' hs=>?_
   refine zk ?_
   refine z18 hs ?_
   refine zk ?_
   refine za hs ?_
   refine z8 (z7a (lg:=lg) t.s.base (by omega) (ByteArray.mk #[46,108,111,103]) (by decide) M.pre hokm.size hs) λ_ w' hs=>?_
   obtain ⟨rfl,hs⟩:=hs
   refine zb ?_ (by first|trivial|(repeat (first|exact trivial|exact λ_=>z09 hs|exact λ_=>z0q hs|refine And.intro ?_ ?_)))
   refine zd ?_
   have en:zl M.pre t.s.base (bl (ByteArray.mk #[46,108,111,103]))=zl M.pre t.s.base zr:=rfl
   rw [en]
   refine z8 (zfc (d:=M.d) (A:=D) (zl M.pre t.s.base zr) hs) λ_ w' hs=>?_
   rcases hs with ⟨f,hff,hfn,x,rfl,hs⟩|⟨hno,rfl,hs⟩
   ·refine zb ?_
    refine wp_lt ?_
    refine zd ?_
    have hfd:z01 D.fs f.name=some (f.b,f.kept):=zbq (z2h hokD.sorted) hff
    rw [hfn,hfile] at hfd
    simp only [Option.some.injEq,Prod.mk.injEq] at hfd
    rw [<- hfd.1] at hs
    have hcap:=hs.slc_cap
    exact zj ⟨x,rfl,hcap,hs.sub⟩
   ·rw [zam.2 hno] at hfile
    cases hfile
  clear hs
  rintro _ w ⟨x,rfl,hcap,hs⟩
  refine zm ?_
  refine wp_lt ?_
  have hl:=hs.slen x (xs:=t.s.file) (enc:=zf)
  have hfin:∀ {w:World} {outs':List BatM},Sat w (slc T.a48 1 x (t.s.file.flatMap zf)::pt a (.cells #[.pointer (some ⟨t.ix,0,none⟩),.int .i64 t.s.base,.int .i64 t.s.fin,.int .i64 (z0b t.s.bs),.int .i64 (z1a (-1) t.s.bs),.int .i64 (t.s.file.length:Nat)] T.a45)::z26 t.ix (t.s.idx M.gap)::HP.all ((M.SM.eraseIdx i).map λt=>z0m M.gap t.1 t.2)::pt lg (.cells #[.pointer (some ⟨M.d,0,none⟩),.string M.pre,.int .i64 M.seg,.int .i64 M.gap,.slice M.z.a M.z.len M.z.cap] T.a44)::slc T.a29 1 M.z ((M.SM.map Prod.fst).flatMap z1j)::z49 ao outs'::dk M.d D::pt a1 (.cells [.int .i64 off].toArray T.a13)::pt a2 (.cells [.int .i64 (most:Int)].toArray T.a12)::r) ->
    Sat w (z49 ao outs'::lgQ lg M::dk M.d D::pt a1 (.cells [.int .i64 off].toArray T.a13)::pt a2 (.cells [.int .i64 (most:Int)].toArray T.a12)::r):=by
   intro w outs' hs
   have h1:Sat w (z0m M.gap M.SM[i].1 M.SM[i].2::HP.all ((M.SM.eraseIdx i).map λt=>z0m M.gap t.1 t.2)::pt lg (.cells #[.pointer (some ⟨M.d,0,none⟩),.string M.pre,.int .i64 M.seg,.int .i64 M.gap,.slice M.z.a M.z.len M.z.cap] T.a44)::slc T.a29 1 M.z ((M.SM.map Prod.fst).flatMap z1j)::z49 ao outs'::dk M.d D::pt a1 (.cells [.int .i64 off].toArray T.a13)::pt a2 (.cells [.int .i64 (most:Int)].toArray T.a12)::r):=by
    rw [hT]
    exact z2g t hs.tail
   have h2:=z6k hsi h1
   exact (z1h M hokm (h2.pick [1,1])).sub
  have hfull:∀ {outs':List BatM} {j:Nat},outs'.map BatM.p=outs.map BatM.p++((t.s.bs.drop k).take j).filterMap (z0o off)->outs'.length=outs.length+(((t.s.bs.drop k).take j).filterMap (z0o off)).length:=λh=>by
   have:=congrArg List.length h
   simpa using this
  refine zg (λ_ w'=>∃ outs':List BatM,outs'.map BatM.p=outs.map BatM.p++(t.s.bs.drop k).filterMap (z0o off)/\outs'.length<most/\outs'.length<=outs.length+t.s.bs.length/\Sat w' (slc T.a48 1 x (t.s.file.flatMap zf)::pt a (.cells #[.pointer (some ⟨t.ix,0,none⟩),.int .i64 t.s.base,.int .i64 t.s.fin,.int .i64 (z0b t.s.bs),.int .i64 (z1a (-1) t.s.bs),.int .i64 (t.s.file.length:Nat)] T.a45)::z26 t.ix (t.s.idx M.gap)::HP.all ((M.SM.eraseIdx i).map λt=>z0m M.gap t.1 t.2)::pt lg (.cells #[.pointer (some ⟨M.d,0,none⟩),.string M.pre,.int .i64 M.seg,.int .i64 M.gap,.slice M.z.a M.z.len M.z.cap] T.a44)::slc T.a29 1 M.z ((M.SM.map Prod.fst).flatMap z1j)::z49 ao outs'::dk M.d D::pt a1 (.cells [.int .i64 off].toArray T.a13)::pt a2 (.cells [.int .i64 (most:Int)].toArray T.a12)::r)) ?_ ?_
  rotate_left
  ·rintro _ w2 ⟨outs',h1,h2,h3,hs⟩
   have h4:=congrArg List.length h1
   simp only [List.length_map,List.length_append] at h4
   refine ⟨rfl,outs',by rw [decide_eq_true (by omega)],?_,h3,hfin hs⟩
   rw [<- h1,List.take_of_length_le]
   rw [List.length_map];omega
  refine z04 (λm v w=>∃ (j:Nat) (outs':List BatM),v=(((z2o t.s (k+j):Nat):Int),())/\k+j<=t.s.bs.length/\t.s.bs.length-(k+j)=m/\outs'.map BatM.p=outs.map BatM.p++((t.s.bs.drop k).take j).filterMap (z0o off)/\outs'.length<most/\outs'.length<=outs.length+j/\Sat w (slc T.a48 1 x (t.s.file.flatMap zf)::pt a (.cells #[.pointer (some ⟨t.ix,0,none⟩),.int .i64 t.s.base,.int .i64 t.s.fin,.int .i64 (z0b t.s.bs),.int .i64 (z1a (-1) t.s.bs),.int .i64 (t.s.file.length:Nat)] T.a45)::z26 t.ix (t.s.idx M.gap)::HP.all ((M.SM.eraseIdx i).map λt=>z0m M.gap t.1 t.2)::pt lg (.cells #[.pointer (some ⟨M.d,0,none⟩),.string M.pre,.int .i64 M.seg,.int .i64 M.gap,.slice M.z.a M.z.len M.z.cap] T.a44)::slc T.a29 1 M.z ((M.SM.map Prod.fst).flatMap z1j)::z49 ao outs'::dk M.d D::pt a1 (.cells [.int .i64 off].toArray T.a13)::pt a2 (.cells [.int .i64 (most:Int)].toArray T.a12)::r)) (t.s.bs.length-k)
   ⟨0,outs,rfl,by omega,by omega,by simp,hout,by omega,hs⟩ ?_
  clear hs
  rintro m _ w ⟨j,outs',rfl,hj,hm,hmap,hlt,hol',hs⟩
  refine zm ?_
  refine z0k ?_
  refine za hs ?_
  have hple:=zgj t.s (k+j)
  refine ze (λhc=>?_) λhc=>?_
  rotate_left
  ·have hend:k+j=t.s.bs.length:=by
    apply Decidable.byContradiction
    intro hne
    have hlt2:k+j<t.s.bs.length:=by omega
    have h1:=zhz t.s hlt2
    have h2:=zgj t.s (k+j+1)
    have h3:=z4i (hok.bs.valid _ (List.getElem_mem hlt2)).1
    exact hc ⟨by omega,by omega⟩
   refine zh (zj ⟨outs',?_,hlt,by omega,hs⟩)
   rw [hmap,List.take_of_length_le (by rw [List.length_drop];omega)]
  have hjl:k+j<t.s.bs.length:=by
   apply Decidable.byContradiction
   intro hne
   have he:k+j=t.s.bs.length:=by omega
   have h1:=zwj t.s
   rw [he] at hc
   have hc1:((z2o t.s t.s.bs.length:Nat):Int)<(x.len:Nat):=hc.1
   omega
  obtain ⟨hfst,hdec⟩:=zqg hok hjl
  obtain ⟨hvb,hpb⟩:=hok.bs.valid _ (List.getElem_mem hjl)
  have hblen:=z5e hvb
  have hxl:z2o t.s (k+j)<=x.len:=by omega
  refine wp_must (by omega) ?_
  rw [Int.toNat_natCast]
  have hxc:FocR (slc T.a48 1 x (t.s.file.flatMap zf)::pt a (.cells #[.pointer (some ⟨t.ix,0,none⟩),.int .i64 t.s.base,.int .i64 t.s.fin,.int .i64 (z0b t.s.bs),.int .i64 (z1a (-1) t.s.bs),.int .i64 (t.s.file.length:Nat)] T.a45)::z26 t.ix (t.s.idx M.gap)::HP.all ((M.SM.eraseIdx i).map λt=>z0m M.gap t.1 t.2)::pt lg (.cells #[.pointer (some ⟨M.d,0,none⟩),.string M.pre,.int .i64 M.seg,.int .i64 M.gap,.slice M.z.a M.z.len M.z.cap] T.a44)::slc T.a29 1 M.z ((M.SM.map Prod.fst).flatMap z1j)::z49 ao outs'::dk M.d D::pt a1 (.cells [.int .i64 off].toArray T.a13)::pt a2 (.cells [.int .i64 (most:Int)].toArray T.a12)::r) ⟨z1n x.a 1 (z2o t.s (k+j)) x.cap,x.len-z2o t.s (k+j),x.cap-z2o t.s (k+j)⟩ 1 ((t.s.file.drop (z2o t.s (k+j))).flatMap zf):=FocR.post hcap
  refine z8 (zal ⟨z1n x.a 1 (z2o t.s (k+j)) x.cap,x.len-z2o t.s (k+j),x.cap-z2o t.s (k+j)⟩ (t.s.file.drop (z2o t.s (k+j))) (by show x.len-_<=x.cap-_;omega) (by rw [List.length_drop];omega) hs) λ_ w' hs=>?_
  obtain ⟨y,rfl,hs⟩:=hs
  rw [hfst] at hs ⊢
  refine zb ?_
  refine wp_lt ?_
  refine wp_lt ?_
  dsimp only [Option.getD,Option.isSome]
  have hs:Sat w' (slc T.a48 1 y ((z2c t.s.bs[k+j]).flatMap zf)::_):=hs
  refine z06 ?_ (by simp)
  refine z8 (zje y (z2c t.s.bs[k+j]) (by omega) hs) λ_ w' hs=>?_
  rcases hs with ⟨b,z,hdec2,rfl,hs⟩|⟨hdec2,rfl,hs⟩
  rotate_left
  ·rw [hdec] at hdec2;cases hdec2
  rw [hdec] at hdec2
  simp only [Option.some.injEq] at hdec2
  subst hdec2
  generalize hbb:t.s.bs[k+j]=b at *
  refine ⟨(b.base,b.pid,b.epoch,b.seq,b.kind,b.time,z,0,()),rfl,trivial,zct _ _ _ _ _ _ _ _ ?_⟩
  refine zt hs λc w' hs=>?_
  refine zv hs λw' hs=>?_
  refine wp_lt ?_
  have hzc:z.len<=z.cap:=(hs.pick [1]).slc_cap
  have htk:(t.s.bs.drop k).take (j+1)=(t.s.bs.drop k).take j++[b]:=by
   rw [List.take_succ_eq_append_getElem (by rw [List.length_drop];omega),List.getElem_drop,hbb]
  have hfp:(z0o off b).toList.map BatM.p=(z0o off b).toList:=by
   cases hfb:z0o off b with
   | none=>rfl
   | some c=>simp [zon hpb hfb]
  have hfm:((t.s.bs.drop k).take (j+1)).filterMap (z0o off)=((t.s.bs.drop k).take j).filterMap (z0o off)++(z0o off b).toList:=by
   rw [htk,List.filterMap_append]
   congr 1
  have hpos:=zhz t.s hjl
  rw [hbb] at hpos
  have hple2:=zgj t.s (k+j+1)
  refine z56 ?_
  refine zi hs ?_
  refine z06 ?_ (by simp)
  have hzb:FocR (pt c (.cells #[.int .i64 b.base,.int .i64 b.pid,.int .i64 b.epoch,.int .i64 b.seq,.int .i64 b.kind,.int .i64 b.time,.slice z.a z.len z.cap] T.a0)::slc T.a2 4 z (b.rs.flatMap z02)::slc T.a48 1 y ((z2c b).flatMap zf)::slc T.a48 1 x (t.s.file.flatMap zf)::pt a (.cells #[.pointer (some ⟨t.ix,0,none⟩),.int .i64 t.s.base,.int .i64 t.s.fin,.int .i64 (z0b t.s.bs),.int .i64 (z1a (-1) t.s.bs),.int .i64 (t.s.file.length:Nat)] T.a45)::z26 t.ix (t.s.idx M.gap)::HP.all ((M.SM.eraseIdx i).map λt=>z0m M.gap t.1 t.2)::pt lg (.cells #[.pointer (some ⟨M.d,0,none⟩),.string M.pre,.int .i64 M.seg,.int .i64 M.gap,.slice M.z.a M.z.len M.z.cap] T.a44)::slc T.a29 1 M.z ((M.SM.map Prod.fst).flatMap z1j)::dk M.d D::pt a1 (.cells [.int .i64 off].toArray T.a13)::pt a2 (.cells [.int .i64 (most:Int)].toArray T.a12)::r) (b.at z).x 4 ((b.at z).rs.flatMap z02):=(inferInstance:FocR (pt c (.cells #[.int .i64 b.base,.int .i64 b.pid,.int .i64 b.epoch,.int .i64 b.seq,.int .i64 b.kind,.int .i64 b.time,.slice z.a z.len z.cap] T.a0)::slc T.a2 4 z (b.rs.flatMap z02)::_) z 4 (b.rs.flatMap z02))
  have hs:Sat w' (z49 ao outs'::pt c (.cells #[.int .i64 b.base,.int .i64 b.pid,.int .i64 b.epoch,.int .i64 b.seq,.int .i64 b.kind,.int .i64 b.time,.slice z.a z.len z.cap] T.a0)::slc T.a2 4 z (b.rs.flatMap z02)::slc T.a48 1 y ((z2c b).flatMap zf)::slc T.a48 1 x (t.s.file.flatMap zf)::pt a (.cells #[.pointer (some ⟨t.ix,0,none⟩),.int .i64 t.s.base,.int .i64 t.s.fin,.int .i64 (z0b t.s.bs),.int .i64 (z1a (-1) t.s.bs),.int .i64 (t.s.file.length:Nat)] T.a45)::z26 t.ix (t.s.idx M.gap)::HP.all ((M.SM.eraseIdx i).map λt=>z0m M.gap t.1 t.2)::pt lg (.cells #[.pointer (some ⟨M.d,0,none⟩),.string M.pre,.int .i64 M.seg,.int .i64 M.gap,.slice M.z.a M.z.len M.z.cap] T.a44)::slc T.a29 1 M.z ((M.SM.map Prod.fst).flatMap z1j)::dk M.d D::pt a1 (.cells [.int .i64 off].toArray T.a13)::pt a2 (.cells [.int .i64 (most:Int)].toArray T.a12)::r):=hs.sub
  have htold:=z03p (ao:=ao) (outs:=outs') (b.at z) off (most:Int) a1 a2 ho hzc (by omega) hs
  refine ⟨F.a130,#[],#[.pointer (some ⟨a1,0,none⟩),.pointer (some ⟨ao,0,none⟩),.pointer (some ⟨a2,0,none⟩)],rfl,by kernel_rfl,?_⟩
  refine Calls.mono htold λe w' ⟨vs,he,outs2,hvs,hmap2,hs⟩=>⟨(decide ((outs2.length:Int)<(most:Int)),()),by rw [he,hvs];rfl,trivial,?_⟩
  refine z4f ?_
  have hfe:(z0o off (b.at z)).toList.map BatM.p=(z0o off b).toList:=by
   have hpz:b={ (b.at z) with x:=z7c }:=by rw [<- hpb];rfl
   have e2:z0o off (b.at z)=(z0o off b).map λc=>c.at z:=by
    unfold z0o
    have ev:z03 (b.at z)=z03 b:=rfl
    have en:z1l (b.at z)=z1l b:=rfl
    have em:z0h (b.at z)=z0h b:=rfl
    rw [ev,en,em]
    split
    ·rfl
    ·show (if z0h b=true\/off<=b.base then _ else _)=_
     split <;> rfl
   rw [e2]
   cases hfb:z0o off b with
   | none=>rfl
   | some c =>
    have:=zon hpb hfb
    show [(c.at z).p]=[c]
    have e3:(c.at z).p=c.p:=rfl
    rw [e3,this]
  rw [hfe,hmap,List.append_assoc,<- hfm] at hmap2
  have hlen2:=hfull hmap2
  have hfl1:(z0o off b).toList.length<=1:=by cases z0o off b <;> simp
  have hlen1:=hfull hmap
  rw [hfm,List.length_append] at hlen2
  have hback:∀ {w:World},Sat w (z49 ao outs2::pt c (.cells #[.int .i64 b.base,.int .i64 b.pid,.int .i64 b.epoch,.int .i64 b.seq,.int .i64 b.kind,.int .i64 b.time,.slice z.a z.len z.cap] T.a0)::slc T.a2 4 z (b.rs.flatMap z02)::slc T.a48 1 y ((z2c b).flatMap zf)::slc T.a48 1 x (t.s.file.flatMap zf)::pt a (.cells #[.pointer (some ⟨t.ix,0,none⟩),.int .i64 t.s.base,.int .i64 t.s.fin,.int .i64 (z0b t.s.bs),.int .i64 (z1a (-1) t.s.bs),.int .i64 (t.s.file.length:Nat)] T.a45)::z26 t.ix (t.s.idx M.gap)::HP.all ((M.SM.eraseIdx i).map λt=>z0m M.gap t.1 t.2)::pt lg (.cells #[.pointer (some ⟨M.d,0,none⟩),.string M.pre,.int .i64 M.seg,.int .i64 M.gap,.slice M.z.a M.z.len M.z.cap] T.a44)::slc T.a29 1 M.z ((M.SM.map Prod.fst).flatMap z1j)::dk M.d D::pt a1 (.cells [.int .i64 off].toArray T.a13)::pt a2 (.cells [.int .i64 (most:Int)].toArray T.a12)::r) ->
    Sat w (slc T.a48 1 x (t.s.file.flatMap zf)::pt a (.cells #[.pointer (some ⟨t.ix,0,none⟩),.int .i64 t.s.base,.int .i64 t.s.fin,.int .i64 (z0b t.s.bs),.int .i64 (z1a (-1) t.s.bs),.int .i64 (t.s.file.length:Nat)] T.a45)::z26 t.ix (t.s.idx M.gap)::HP.all ((M.SM.eraseIdx i).map λt=>z0m M.gap t.1 t.2)::pt lg (.cells #[.pointer (some ⟨M.d,0,none⟩),.string M.pre,.int .i64 M.seg,.int .i64 M.gap,.slice M.z.a M.z.len M.z.cap] T.a44)::slc T.a29 1 M.z ((M.SM.map Prod.fst).flatMap z1j)::z49 ao outs2::dk M.d D::pt a1 (.cells [.int .i64 off].toArray T.a13)::pt a2 (.cells [.int .i64 (most:Int)].toArray T.a12)::r):=λhs=>hs.sub
  have hs:=hback hs
  refine ze (λh5=>?_) λh5=>?_
  ·have h5:most<=outs2.length:=by
    have:¬ ((outs2.length:Int)<(most:Int)):=by simpa using h5
    omega
   have h6:outs2.length=most:=by omega
   have h7:((t.s.bs.drop k).filterMap (z0o off))=((t.s.bs.drop k).take (j+1)).filterMap (z0o off)++((t.s.bs.drop k).drop (j+1)).filterMap (z0o off):=by
    rw [<- List.filterMap_append,List.take_append_drop]
   have h8:=congrArg List.length hmap2
   simp only [List.length_map,List.length_append] at h8
   refine zh (zh ⟨rfl,outs2,?_,?_,by omega,hfin hs⟩)
   ·rw [decide_eq_false]
    rw [h7,List.length_append]
    omega
   ·rw [h7,<- List.append_assoc,<- hmap2]
    rw [List.take_append_of_le_length (by rw [List.length_map];omega),List.take_of_length_le (by rw [List.length_map];omega)]
  ·have h5:outs2.length<most:=by
    have:((outs2.length:Int)<(most:Int)):=by simpa using h5
    omega
   have ew:IntKind.wrap .i64 (((z2o t.s (k+j):Nat):Int)+((frL b).length:Nat))=((z2o t.s (k+(j+1)):Nat):Int):=by
    rw [show k+(j+1)=k+j+1 by omega,hpos,w64 (by omega) (by omega)];omega
   refine z1w (y:=((z2o t.s (k+(j+1)):Nat):Int)) ?_ ew
   exact z16 (t.s.bs.length-(k+(j+1))) ⟨j+1,outs2,rfl,by omega,rfl,hmap2,h5,by omega,hs⟩
end
def ziz (pre:ByteArray) (l:List SegA) (D:DiskA):Prop:=∀ s ∈ l,∃ k,z01 D.fs (zl pre s.base zr)=some (s.file,k)
theorem zhe {l:List SegA} (hok:z0a 0 l):∀ s ∈ l,z1z l<=s.base:=by
 cases l with
 | nil=>intro s hs;cases hs
 | cons a l =>
  intro s hs
  show a.base<=s.base
  rcases List.mem_cons.1 hs with rfl|hs
  ·exact Int.le_refl _
  ·have:=(hok.2.2.mem s hs).2
   omega
theorem zem {l:List SegA} (hok:z0a 0 l):z1z l<=zq l:=by
 by_cases h:l=[]
 ·subst h;decide
 ·obtain ⟨l0,s,rfl⟩:=z30 h
  have h1:=zhe hok s (by simp)
  have h2:=(z4v (hok.mem s (by simp)).1).1
  unfold zq
  rw [z1o]
  simp only
  omega
theorem z00c {n:Int} {bs:List BatM} (h:z1g n bs):∀ b ∈ bs,n<=b.base:=by
 intro b hb
 obtain ⟨j,hj,rfl⟩:=List.mem_iff_getElem.1 hb
 cases j with
 | zero =>
  cases bs with
  | nil=>simp at hj
  | cons c cs=>exact h.2.2.1
 | succ j =>
  have h1:=h.lt 0 (j+1) hj (by omega)
  obtain ⟨s1,-,-,-,-⟩:=z12 _ (h.valid _ (List.getElem_mem (show 0<bs.length by omega))).1
  omega
theorem ztt {off:Int} {b:BatM} (hv:z03 b=0) (h:off<=b.base):z0o off b=some b:=by
 obtain ⟨s1,-,-,-,-⟩:=z12 b hv
 unfold z0o
 rw [if_neg,if_pos (.inr h)]
 rintro (hh|hh)
 ·exact hh hv
 ·unfold z1l at hh;rw [if_neg (by rw [hv];simp)] at hh;omega
theorem zji {α:Type} {f:α->Option α} {l:List α} (h:∀ x ∈ l,f x=some x):l.filterMap f=l:=by
 induction l with
 | nil=>rfl
 | cons a l ih=>rw [List.filterMap_cons,h a (List.mem_cons_self ..)];simp only;rw [ih λx hx=>h x (List.mem_cons_of_mem _ hx)]
theorem zwr {l:List SegA} (hok:z0a 0 l) {n:Int} (hn:(z05 l).length<=n) (h1:1<=n):z4w l (z1z l) n=(0,z05 l):=by
 have:=zem hok
 unfold z4w
 rw [if_neg (by omega),if_neg (by omega),zji,List.take_of_length_le (by omega)]
 intro b hb
 obtain ⟨s,hs,hbs⟩:=List.mem_flatMap.1 hb
 have h2:=hok.mem s hs
 exact ztt (h2.1.bs.valid b hbs).1 (by have:=zhe hok s hs;have:=z00c h2.1.bs b hbs;omega)
section
variable {w:World} {l r r1 r2:List HP} {lg ao:Nat} {M:LogM} {A:LogA} {D:DiskA} {gap:Int} {a:Nat} {t:SegM} {outs:List BatM}
theorem zwp (i:Nat) (a0 a1:Nat) (off:Int) (hi:i<M.SM.length)
  (hs:Sat w (pt a0 (.cells [.pointer (some ⟨lg,0,none⟩)].toArray T.a28)::pt a1 (.cells [.int .i64 off].toArray T.a13)::lgQ lg M::r)) :
  Ret P F.a129 #[.int .i64 (i:Int),.pointer (some ⟨a0,0,none⟩),.pointer (some ⟨a1,0,none⟩)] w λvs w'=>vs=[.bool (decide (M.SM[i].2.s.base>off))]/\Sat w' (pt a0 (.cells [.pointer (some ⟨lg,0,none⟩)].toArray T.a28)::pt a1 (.cells [.int .i64 off].toArray T.a13)::lgQ lg M::r) :=
 zmn _ _ _ <| by
  delta zz1 AI AJ AL AN AS Ad Ag Al Ap Ar BD Cb
  obtain ⟨hokm,hs⟩:=z2j (hs.pick [2])
  refine zy hs λw' hs=>?_
  refine za hs ?_
  refine zk ?_
  refine za hs ?_
  refine z1v hs (xs:=M.SM.map Prod.fst) (enc:=z1j) i (by rw [List.length_map];exact hi) ?_
  have e0:(M.SM.map Prod.fst)[i]'(by rw [List.length_map];exact hi)=M.SM[i].1:=by simp
  rw [e0]
  refine zk ?_
  have hs:=z3i (z8x (hs.pick [2]) hi)
  refine za hs ?_
  refine za hs ?_
  refine wp_lt ?_
  refine zd ?_
  have hs:=z6k hi (z2g M.SM[i].2 hs)
  have hs:=z1h M hokm (hs.pick [1,1])
  exact ⟨rfl,rfl,hs.sub⟩
set_option maxHeartbeats 1000000 in
theorem zoy (off most:Int) (ho : -9223372036854775808<=off/\off<9223372036854775808) (hmo:most<9223372036854775808) {r1:List HP} [hf:Fo l lgP lg A r1] [hf2:Fo r1 dk A.d D r] (hok:z0a 0 A.l) (hhas:ziz A.pre A.l D) (hlen:A.l.length<=1000000) (hall:(z05 A.l).length<=1000000) (hs:Sat w l) :
  Ret P F.a128 #[.pointer (some ⟨lg,0,none⟩),.int .i64 off,.int .i64 most] w λvs w'=>∃ (z:Sl) (outs:List BatM),vs=[z.v,.int .i64 (z4w A.l off most).1]/\outs.map BatM.p=(z4w A.l off most).2/\Sat w' (slc T.a0 7 z (outs.flatMap zu)::z1q outs::lgP lg A::dk A.d D::r) :=
 zmm _ off most <| by
  clear hmo
  delta zz0 AA AC AF AH AI AJ AL AN AS Ab Ad Af Ag Ah Aj Ak Al Am Ao Ap Ax Az BT BX BY
  have hs:=hs.perm (hf.perm.trans (.cons _ hf2.perm))
  clear hf hf2
  obtain ⟨M,rfl,hs⟩:=z77 hs
  have hMl:M.A.l=M.l:=rfl
  have hMpre:M.A.pre=M.pre:=rfl
  have hMd:M.A.d=M.d:=rfl
  rw [hMl] at hlen hok hhas hall ⊢
  rw [hMpre] at hhas
  rw [hMd] at hs ⊢
  have hll:M.l.length=M.SM.length:=List.length_map ..
  have z4s:∀ (i:Nat) (h:i<M.SM.length),M.SM[i].2.s=M.l[i]'(by omega):=λi h=>by unfold LogM.l;simp
  obtain ⟨m_,FS_,-,hokD,-⟩:=z1x (hs.pick [1])
  refine zn hs λa0 w' hs=>?_
  refine zn hs λa1 w' hs=>?_
  refine zn hs λa2 w' hs=>?_
  refine za hs ?_
  refine wp_lt ?_
  refine z06 ?_ (by simp)
  refine za hs ?_
  refine wp_lt ?_
  have hfin0:∀ {w:World} {L:List HP},Sat w (lgQ lg M::dk M.d D::r)->Sat w (slc T.a0 7 ⟨none,0,0⟩ (([]:List BatM).flatMap zu)::z1q []::lgP lg M.A::dk M.d D::r):=λhs=>(zj7 (z3z M hs)).slc_nil
  unfold z4w
  refine ze (λh=>?_) λh=>?_
  ·rw [if_pos (show most<1 by omega)]
   have hs:Sat w' (lgQ lg M::dk M.d D::r):=hs.sub
   exact ⟨rfl,⟨none,0,0⟩,[],rfl,rfl,hfin0 (L:=[]) hs⟩
  rw [if_neg (show ¬ most<1 by omega)]
  refine zg (λq w'=>q=(decide (off<z1z M.l\/off>zq M.l),())/\Sat w' (pt a2 (.cells [.int .i64 most].toArray T.a12)::pt a1 (.cells [.int .i64 off].toArray T.a13)::pt a0 (.cells [.pointer (some ⟨lg,0,none⟩)].toArray T.a28)::lgQ lg M::dk M.d D::r)) ?_ ?_
  ·refine zy hs λw' hs=>?_
   refine z18 hs ?_
   refine za hs ?_
   refine z8 (zg6 (lg:=lg) hs) λ_ w' hs=>?_
   obtain ⟨rfl,hs⟩:=hs
   refine zb ?_ (by first|trivial|(repeat (first|exact trivial|exact λ_=>z09 hs|exact λ_=>z0q hs|refine And.intro ?_ ?_)))
   refine z18 hs ?_
   refine za hs ?_
   refine ze (λh1=>?_) λh1=>?_
   ·refine zd ?_
    exact zj ⟨by rw [decide_eq_true (.inl h1)],hs.sub⟩
   ·refine z8 (za6 (lg:=lg) (by omega) hs) λ_ w' hs=>?_
    obtain ⟨rfl,hs⟩:=hs
    refine zb ?_ (by first|trivial|(repeat (first|exact trivial|exact λ_=>z09 hs|exact λ_=>z0q hs|refine And.intro ?_ ?_)))
    refine wp_lt ?_
    refine zd ?_
    refine zj ⟨?_,hs.sub⟩
    rw [decide_eq_decide.2 (show (off<z1z M.l\/off>zq M.l)↔off>zq M.l from ⟨λhh=>hh.resolve_left h1,.inr⟩)]
  rintro _ w2 ⟨rfl,hs⟩
  refine ze (λh1=>?_) λh1=>?_
  ·have h1:off<z1z M.l\/off>zq M.l:=by simpa using h1
   rw [if_pos h1]
   have hs:Sat w2 (lgQ lg M::dk M.d D::r):=hs.sub
   exact ⟨rfl,⟨none,0,0⟩,[],rfl,rfl,hfin0 (L:=[]) hs⟩
  have h1:¬ (off<z1z M.l\/off>zq M.l):=by simpa using h1
  rw [if_neg h1]
  obtain ⟨mN,rfl⟩:∃ mN:Nat,most=(mN:Int):=⟨most.toNat,by omega⟩
  rw [Int.toNat_natCast]
  refine zt hs λao w' hs=>?_
  refine za hs ?_
  refine zk ?_
  obtain ⟨hokm,hs⟩:=z2j (hs.pick [4])
  refine za hs ?_
  have hl:=hs.slen M.z (xs:=M.SM.map Prod.fst) (enc:=z1j)
  rw [List.length_map] at hl
  have hs:=z1h M hokm hs
  have hs:Sat w' (pt a0 (.cells [.pointer (some ⟨lg,0,none⟩)].toArray T.a28)::pt a1 (.cells [.int .i64 off].toArray T.a13)::lgQ lg M::pt ao (.cells #[.slice none 0 0] T.a33)::pt a2 (.cells [.int .i64 (mN:Int)].toArray T.a12)::dk M.d D::r):=hs.sub
  rw [hl]
  refine z8 (zkr M.SM.length (by omega) F.a129 #[.pointer (some ⟨a0,0,none⟩),.pointer (some ⟨a1,0,none⟩)] (λi=>decide (((M.l.map SegA.base).getD i 0)>off)) (by kernel_rfl) (λi w hi hs=>?_) hs) λ_ w' hs=>?_
  ·have e:(M.l.map SegA.base).getD i 0=M.SM[i].2.s.base:=by
    rw [List.getD_eq_getElem?_getD,List.getElem?_map,List.getElem?_eq_getElem (by omega),z4s i hi];rfl
   simp only [e]
   exact zwp (M:=M) i a0 a1 off hi hs
  obtain ⟨i0,hi0,hs1,hs2,rfl,hs⟩:=hs
  refine zb ?_
  refine z1w (y:=(i0:Int)-1) ?_ (by rw [w64 (by omega) (by omega)])
  refine z1w (y:=((i0-1:Nat):Int)) ?_ (by split <;> omega)
  have hskip:i0-1<M.SM.length->(z05 M.l).filterMap (z0o off)=(z05 (M.l.drop (i0-1))).filterMap (z0o off):=λhlt=>by
   refine zx1 hok (i:=i0-1) (by omega) ?_
   by_cases h0:i0=0
   ·right;omega
   ·left
    have h2:=hs1 (by omega)
    rw [List.getD_eq_getElem?_getD,List.getElem?_map,List.getElem?_eq_getElem (by omega)] at h2
    have h2:decide ((M.l[i0-1]'(by omega)).base>off)=false:=h2
    simpa using h2
  have hs:Sat w' (z49 ao []::lgQ lg M::dk M.d D::pt a1 (.cells [.int .i64 off].toArray T.a13)::pt a2 (.cells [.int .i64 (mN:Int)].toArray T.a12)::pt a0 (.cells [.pointer (some ⟨lg,0,none⟩)].toArray T.a28)::r):=by
   have h3:Sat w' (slc T.a0 7 ⟨none,0,0⟩ (([]:List BatM).flatMap zu)::z1q []::_):=(zj7 hs).slc_nil
   have h4:Sat w' (pt ao (.cells #[.slice none 0 0] T.a33)::slc T.a0 7 ⟨none,0,0⟩ (([]:List BatM).flatMap zu)::z1q []::lgQ lg M::dk M.d D::pt a1 (.cells [.int .i64 off].toArray T.a13)::pt a2 (.cells [.int .i64 (mN:Int)].toArray T.a12)::pt a0 (.cells [.pointer (some ⟨lg,0,none⟩)].toArray T.a28)::r):=h3.sub
   exact zc7 (z:=⟨none,0,0⟩) h4
  refine zg (λ_ w'=>∃ outs:List BatM,outs.map BatM.p=((z05 M.l).filterMap (z0o off)).take mN/\Sat w' (z49 ao outs::lgQ lg M::dk M.d D::pt a1 (.cells [.int .i64 off].toArray T.a13)::pt a2 (.cells [.int .i64 (mN:Int)].toArray T.a12)::pt a0 (.cells [.pointer (some ⟨lg,0,none⟩)].toArray T.a28)::r)) ?_ ?_
  rotate_left
  ·rintro _ w3 ⟨outs,h4,hs⟩
   obtain ⟨z,hs⟩:=zka hs
   refine za hs ?_
   refine ⟨rfl,z,outs,rfl,h4,?_⟩
   have hs:Sat w3 (lgQ lg M::slc T.a0 7 z (outs.flatMap zu)::z1q outs::dk M.d D::r):=hs.sub
   have hs:=z3z M hs
   exact hs.sub
  have hpre:∀ (j:Nat),i0-1<=j->j<=M.l.length->(z05 ((M.l.drop (i0-1)).take (j-(i0-1)))).length<=1000000:=λj h1 h2=>by
   refine Nat.le_trans ?_ hall
   have:∀ (a b:List SegA),a.Sublist b->(z05 a).length<=(z05 b).length:=λa b h=>by
    induction h with
    | slnil=>exact Nat.le_refl _
    | cons x _ ih=>unfold z05 at *;rw [List.flatMap_cons,List.length_append];omega
    | cons_cons x _ ih=>unfold z05 at *;rw [List.flatMap_cons,List.flatMap_cons,List.length_append,List.length_append];omega
   exact this _ _ ((List.take_sublist _ _).trans (List.drop_sublist _ _))
  refine z04 (λm v w=>∃ (j:Nat) (outs:List BatM),v=((j:Int),())/\i0-1<=j/\(j<=M.SM.length\/j=i0-1)/\M.SM.length-j=m/\outs.map BatM.p=(z05 ((M.l.drop (i0-1)).take (j-(i0-1)))).filterMap (z0o off)/\outs.length<mN /\
   Sat w (z49 ao outs::lgQ lg M::dk M.d D::pt a1 (.cells [.int .i64 off].toArray T.a13)::pt a2 (.cells [.int .i64 (mN:Int)].toArray T.a12)::pt a0 (.cells [.pointer (some ⟨lg,0,none⟩)].toArray T.a28)::r)) (M.SM.length-(i0-1))
   ⟨i0-1,[],rfl,Nat.le_refl _,.inr rfl,rfl,by simp [z05],by show 0<mN;omega,hs⟩ ?_
  clear hs
  rintro m _ w ⟨j,outs,rfl,hj1,hj2,hm,hmap,hlt,hs⟩
  refine zm ?_
  refine za hs ?_
  refine zk ?_
  obtain ⟨hokm,hs⟩:=z2j (hs.pick [1])
  refine za hs ?_
  refine ze (λhc=>?_) λhc=>?_
  rotate_left
  ·have hs:=z1h M hokm hs
   refine zh (zj ⟨outs,?_,hs.sub⟩)
   by_cases hlt2:i0-1<M.SM.length
   ·have hje:j=M.SM.length:=by omega
    rw [hskip hlt2,hmap,hje]
    rw [List.take_of_length_le (l:=M.l.drop (i0-1)) (by rw [List.length_drop];omega)] at hmap ⊢
    have:=congrArg List.length hmap
    rw [List.length_map] at this
    rw [List.take_of_length_le (by omega)]
   ·have h0:M.l=[]:=List.length_eq_zero_iff.1 (by omega)
    rw [hmap,h0]
    simp [z05]
  have hjl:j<M.SM.length:=by omega
  refine za hs ?_
  refine zk ?_
  refine za hs ?_
  refine z1v hs (xs:=M.SM.map Prod.fst) (enc:=z1j) j (by rw [List.length_map];exact hjl) ?_
  have e0:(M.SM.map Prod.fst)[j]'(by rw [List.length_map];exact hjl)=M.SM[j].1:=by simp
  rw [e0]
  have hmem:M.SM[j].2.s ∈ M.l:=List.mem_map.2 ⟨_,List.getElem_mem hjl,rfl⟩
  have hsok:=(hok.mem _ hmem).1
  obtain ⟨kp,hfile⟩:=hhas _ hmem
  have hrl:M.SM[j].2.s.file.length<=4194304:=Nat.le_trans (zch hfile) hokD.used
  have hbl:=zg5 hsok
  obtain ⟨k,hk,hpl,hskp⟩:=zto hsok hrl M.gap off
  have hlt2:i0-1<M.SM.length:=by omega
  have hstep:(M.l.drop (i0-1)).take (j+1-(i0-1))=(M.l.drop (i0-1)).take (j-(i0-1))++[M.SM[j].2.s]:=by
   rw [show j+1-(i0-1)=(j-(i0-1))+1 by omega,List.take_succ_eq_append_getElem (by rw [List.length_drop];omega),List.getElem_drop,z4s j hjl]
   congr 3
   omega
  have hnone:(M.SM[j].2.s.bs).filterMap (z0o off)=(M.SM[j].2.s.bs.drop k).filterMap (z0o off):=by
   have e:M.SM[j].2.s.bs=M.SM[j].2.s.bs.take k++M.SM[j].2.s.bs.drop k:=(List.take_append_drop _ _).symm
   calc (M.SM[j].2.s.bs).filterMap (z0o off)=(M.SM[j].2.s.bs.take k++M.SM[j].2.s.bs.drop k).filterMap (z0o off):=by rw [<- e]
    _=(M.SM[j].2.s.bs.drop k).filterMap (z0o off):=by
     rw [List.filterMap_append,za0 (l:=M.SM[j].2.s.bs.take k),List.nil_append]
     intro b hb
     exact zen (hsok.bs.valid b (List.mem_of_mem_take hb)).1 (hskp b hb)
  have hall2:(z05 ((M.l.drop (i0-1)).take (j+1-(i0-1)))).filterMap (z0o off)=(z05 ((M.l.drop (i0-1)).take (j-(i0-1)))).filterMap (z0o off)++(M.SM[j].2.s.bs.drop k).filterMap (z0o off):=by
   rw [hstep]
   unfold z05
   rw [List.flatMap_append,List.filterMap_append,<- hnone]
   simp
  have hol:outs.length<=1000000:=by
   have:=congrArg List.length hmap
   rw [List.length_map] at this
   rw [this]
   exact Nat.le_trans (List.length_filterMap_le _ _) (hpre j hj1 (by omega))
  refine zg (λq w'=>∃ outs':List BatM,q=(decide (outs.length+((M.SM[j].2.s.bs.drop k).filterMap (z0o off)).length<mN),())/\outs'.map BatM.p=(outs.map BatM.p++(M.SM[j].2.s.bs.drop k).filterMap (z0o off)).take mN /\
    Sat w' (z49 ao outs'::lgQ lg M::dk M.d D::pt a1 (.cells [.int .i64 off].toArray T.a13)::pt a2 (.cells [.int .i64 (mN:Int)].toArray T.a12)::pt a0 (.cells [.pointer (some ⟨lg,0,none⟩)].toArray T.a28)::r)) ?_ ?_
  ·refine zy hs λw' hs=>?_
   refine z18 hs ?_
   refine za hs ?_
   have hs:=z8x (hs.pick [2]) hjl
   refine z8 (z01t (gap:=M.gap) (a:=M.SM[j].1) (t:=M.SM[j].2) off hsok hrl hs) λ_ w' hs=>?_
   obtain ⟨rfl,hs⟩:=hs
   refine zb ?_ (by first|trivial|(repeat (first|exact trivial|exact λ_=>z09 hs|exact λ_=>z0q hs|refine And.intro ?_ ?_)))
   refine zd ?_
   have hs:=z6k hjl hs
   have hs:=z1h M hokm (hs.pick [1,1])
   have hs:Sat w' (z49 ao outs::lgQ lg M::dk M.d D::pt a1 (.cells [.int .i64 off].toArray T.a13)::pt a2 (.cells [.int .i64 (mN:Int)].toArray T.a12)::pt a0 (.cells [.pointer (some ⟨lg,0,none⟩)].toArray T.a28)::r):=hs.sub
   rw [hpl]
   refine z8 (z03s off mN a1 a2 ho hjl hsok hfile hk hlt (by omega) hs) λ_ w' hs=>?_
   obtain ⟨outs',rfl,hm2,-,hs⟩:=hs
   refine zb ?_
   refine wp_lt ?_
   refine zd ?_
   exact zj ⟨outs',rfl,hm2,hs⟩
  clear hs
  rintro _ w3 ⟨outs',rfl,hm2,hs⟩
  rw [hmap,<- hall2] at hm2
  have hlm:=congrArg List.length hmap
  rw [List.length_map] at hlm
  refine ze (λh5=>?_) λh5=>?_
  ·have h5:¬ (outs.length+((M.SM[j].2.s.bs.drop k).filterMap (z0o off)).length<mN):=by simpa using h5
   refine zh (zj ⟨outs',?_,hs⟩)
   rw [hm2,hskip hlt2]
   have e:z05 (M.l.drop (i0-1))=z05 ((M.l.drop (i0-1)).take (j+1-(i0-1)))++z05 ((M.l.drop (i0-1)).drop (j+1-(i0-1))):=by
    unfold z05;rw [<- List.flatMap_append,List.take_append_drop]
   rw [e,List.filterMap_append,List.take_append_of_le_length]
   rw [hall2,List.length_append]
   omega
  ·have h5:(outs.length+((M.SM[j].2.s.bs.drop k).filterMap (z0o off)).length<mN):=by simpa using h5
   refine z1w (y:=((j+1:Nat):Int)) ?_ (by rw [w64 (by omega) (by omega)];omega)
   have hll2:((z05 ((M.l.drop (i0-1)).take (j+1-(i0-1)))).filterMap (z0o off)).length<mN:=by rw [hall2,List.length_append];omega
   rw [List.take_of_length_le (by omega)] at hm2
   have hl3:=congrArg List.length hm2
   rw [List.length_map] at hl3
   exact z16 (M.SM.length-(j+1)) ⟨j+1,outs',rfl,by omega,.inl (by omega),rfl,hm2,by omega,hs⟩
theorem z02w {r1:List HP} [hf:Fo l lgP lg A r1] [hf2:Fo r1 dk A.d D r] (hok:z0a 0 A.l) (hhas:ziz A.pre A.l D) (hlen:A.l.length<=1000000) (hall:(z05 A.l).length<=1000000) (hs:Sat w l) :
  Ret P F.a124 #[.pointer (some ⟨lg,0,none⟩)] w λvs w'=>∃ (z:Sl) (outs:List BatM),vs=[z.v]/\outs.map BatM.p=z05 A.l/\Sat w' (slc T.a0 7 z (outs.flatMap zu)::z1q outs::lgP lg A::dk A.d D::r) :=
 zmj _ <| by
  delta zyx AK Ad Af Ah Ak Am Ap
  have hs:=hs.perm (hf.perm.trans (.cons _ hf2.perm))
  clear hf hf2
  have hfn:=zem hok
  have hnx:=hok.next (Int.le_refl 0)
  have hf0:0<=z1z A.l:=by
   cases hq:A.l with
   | nil=>decide
   | cons s l0=>rw [hq] at hok;have:=hok.1;exact this
  refine z06 ?_ (by simp)
  obtain ⟨M,hM,hs⟩:=z77 hs
  subst hM
  refine z8 (zg6 (lg:=lg) hs) λ_ w' hs=>?_
  obtain ⟨rfl,hs⟩:=hs
  refine zb ?_
  have hs:=z3z M hs
  have hfn:z1z M.l<=zq M.l:=hfn
  have hnx:0<=zq M.l/\zq M.l<=1099511627777:=hnx
  have hf0:0<=z1z M.l:=hf0
  refine z8 (zoy (lg:=lg) (A:=M.A) (D:=D) (z1z M.l) 1099511627776 (by omega) (by omega) hok hhas hlen hall hs) λ_ w' hs=>?_
  obtain ⟨z,outs,rfl,hmap,hs⟩:=hs
  refine zb ?_
  refine wp_lt ?_
  have hra:z4w M.A.l (z1z M.l) 1099511627776=(0,z05 M.A.l):=zwr hok (by omega) (by omega)
  rw [hra] at hmap
  exact ⟨rfl,z,outs,rfl,hmap,hs⟩
end
def zey (seg gap:Int):Prop:=(64<=seg/\seg<=4194304)/\(1<=gap/\gap<=4194304)
instance (seg gap:Int):Decidable (zey seg gap):=by unfold zey;infer_instance
section
variable {w:World} {l r:List HP} {lg d:Nat} {M:LogM} {A:LogA} {D:DiskA}
set_option maxHeartbeats 1000000 in
theorem z012 (pre:ByteArray) (seg gap:Int) (hp:z3q pre=true) (hc:zey seg gap) (hg:D.gone=false) [hf:Fo l dk d D r] (hs:Sat w l):Ret P F.a146 #[.pointer (some ⟨d,0,none⟩),.string pre,.agg #[.int .i64 seg,.int .i64 gap]] w λvs w' =>
  ((z41 pre D).1≠0/\vs=[.pointer none,.int .i64 (z41 pre D).1]/\Sat w' (dk d (z41 pre D).2.2::r)) \/
  ((z41 pre D).1=0/\∃ lg,vs=[.pointer (some ⟨lg,0,none⟩),.int .i64 0]/\Sat w' (lgP lg ⟨d,pre,seg,gap,(z41 pre D).2.1⟩::dk d (z41 pre D).2.2::r)) :=
 zn1 _ pre seg gap <| by
  delta zzf AF AH AK Ab Ad Af Ag Ah Aj Ak Al Am Ao Ap Ar Av Ax Ay B9 BO Bg Br
  have hs:=hs.perm hf.perm
  obtain ⟨m_,FS_,-,hokD,-⟩:=z1x hs
  refine zn hs λa0 w' hs=>?_
  refine wp_lt ?_
  refine z06 ?_ (by simp)
  refine zg (λq w'=>q=(false,())/\Sat w' (dk d D::pt a0 (.cells #[.int .i64 seg,.int .i64 gap] T.a43)::r)) ?_ ?_
  ·refine z8 (zwn pre hs) λ_ w' hs=>?_
   obtain ⟨rfl,hs⟩:=hs
   refine zb ?_
   refine zi hs ?_
   refine z06 ?_ (by rw [hp];simp)
   refine z8 (z02y seg gap hs) λ_ w' hs=>?_
   obtain ⟨rfl,hs⟩:=hs
   refine zb ?_
   refine wp_lt ?_
   refine zj ⟨?_,hs.sub⟩
   have:((64<=seg/\seg<=4194304)/\(1<=gap/\gap<=4194304)):=hc
   rw [decide_eq_true this]
   rfl
  rintro _ w2 ⟨rfl,hs⟩
  refine z06 ?_ (by simp)
  refine z8 (z02n (d:=d) hs) λ_ w' hs=>?_
  obtain ⟨rfl,hs⟩:=hs
  refine zb ?_
  refine wp_lt ?_
  refine z06 ?_ (by rw [hg];simp)
  refine zi hs ?_
  refine zn hs λlg w' hs=>?_
  have hokm:okM gap seg pre:=⟨hc.2,hc.1,hp⟩
  have hs:Sat w' (lgQ lg ⟨d,pre,seg,gap,⟨none,0,0⟩,[]⟩::dk d D::r):=by
   refine z1h ⟨d,pre,seg,gap,⟨none,0,0⟩,[]⟩ hokm ?_
   have h1:Sat w' (HP.all (([]:List (Nat × SegM)).map λt=>z0m gap t.1 t.2)::pt lg (.cells #[.pointer (some ⟨d,0,none⟩),.string pre,.int .i64 seg,.int .i64 gap,.slice none 0 0] T.a44)::dk d D::r):=by
    have hs:Sat w' (pt lg (.cells #[.pointer (some ⟨d,0,none⟩),.string pre,.int .i64 seg,.int .i64 gap,.slice none 0 0] T.a44)::dk d D::r):=hs.sub
    exact Sat.all_nil hs
   have h2:Sat w' (slc T.a29 1 ⟨none,0,0⟩ (((([]:List (Nat × SegM))).map Prod.fst).flatMap z1j)::_):=h1.slc_nil
   exact h2.pick [2]
  unfold z41
  refine z8 (z00l (lg:=lg) (M:=⟨d,pre,seg,gap,⟨none,0,0⟩,[]⟩) (D:=D) hs) λ_ w' hs=>?_
  have hnl:(z0s pre (z0w (z11 pre) D.fs) D).2.1.length<=128:=by
   refine Nat.le_trans zel ?_
   unfold z0w
   exact Nat.le_trans (List.length_filter_le _ _) (by rw [List.length_map];exact hokD.many)
  have hlt:=zhc (pre:=pre) (ns:=z0w (z11 pre) D.fs) (D:=D)
  rcases hs with ⟨he,rfl,hs⟩|⟨he,x,rfl,hs⟩
  ·have he:(z0s pre (z0w (z11 pre) D.fs) D).1≠0:=he
   refine zb ?_
   refine wp_lt ?_
   refine z0g ?_ he
   refine wp_lt ?_
   rw [if_pos he]
   exact ⟨rfl,.inl ⟨he,rfl,hs.tail⟩⟩
  have he:(z0s pre (z0w (z11 pre) D.fs) D).1=0:=he
  refine ⟨(x,0,()),rfl,trivial,z4g _ _ ?_⟩
  refine wp_lt ?_
  refine z06 ?_ (by simp)
  rw [if_neg (by rw [he];simp)]
  have hs:Sat w' (slc T.a13 1 x ((z0s pre (z0w (z11 pre) D.fs) D).2.1.flatMap z3o)::lgQ lg ⟨d,pre,seg,gap,⟨none,0,0⟩,[]⟩::dk d (z0s pre (z0w (z11 pre) D.fs) D).2.2::r):=hs
  generalize (z0s pre (z0w (z11 pre) D.fs) D).2.2=D1 at *
  generalize (z0s pre (z0w (z11 pre) D.fs) D).2.1=bs at *
  have hl:=hs.slen x (xs:=bs) (enc:=z3o)
  have hcap:=hs.slc_cap
  refine zg (λq w'=>∃ M:LogM,q=((z1u pre bs [] D1).1,())/\(M.d=d/\M.pre=pre/\M.seg=seg/\M.gap=gap)/\M.l=(z1u pre bs [] D1).2.1/\Sat w' (lgQ lg M::dk d (z1u pre bs [] D1).2.2::r)) ?_ ?_
  rotate_left
  ·rintro _ w3 ⟨M,rfl,⟨rfl,rfl,rfl,rfl⟩,h2,hs⟩
   refine ze (λh=>?_) λh=>?_
   ·refine wp_lt ?_
    exact ⟨rfl,.inl ⟨h,rfl,hs.tail⟩⟩
   ·have h:(z1u M.pre bs [] D1).1=0:=Decidable.not_not.1 h
    refine ⟨rfl,.inr ⟨h,lg,rfl,?_⟩⟩
    have:=z3z M hs
    have e:M.A=⟨M.d,M.pre,M.seg,M.gap,(z1u M.pre bs [] D1).2.1⟩:=by rw [<- h2];rfl
    rw [<- e]
    exact this
  refine z04 (λm v w=>∃ (i:Nat) (M:LogM) (D':DiskA),v=((0:Int),((i:Int),()))/\i<=bs.length/\bs.length-i=m/\M.SM.length<=i/\z1u pre bs [] D1=z1u pre (bs.drop i) M.l D'/\(M.d=d/\M.pre=pre/\M.seg=seg/\M.gap=gap) /\
   Sat w (slc T.a13 1 x (bs.flatMap z3o)::lgQ lg M::dk d D'::r)) bs.length ⟨0,⟨d,pre,seg,gap,⟨none,0,0⟩,[]⟩,D1,rfl,by omega,rfl,by simp,rfl,⟨rfl,rfl,rfl,rfl⟩,hs⟩ ?_
  clear hs
  rintro m _ w ⟨i,M,D',rfl,hi,hm,hsm,hq,⟨rfl,rfl,rfl,rfl⟩,hsn⟩
  have hs:=hsn
  refine zm ?_
  refine ze (λhcc=>?_) λhcc=>?_
  rotate_left
  ·have e:bs.drop i=[]:=List.drop_eq_nil_of_le (by omega)
   rw [e] at hq
   have hq:z1u M.pre bs [] D1=(0,M.l,D'):=hq
   rw [hq]
   exact zh (zj ⟨M,rfl,⟨rfl,rfl,rfl,rfl⟩,rfl,hs.sub⟩)
  have hil:i<bs.length:=by omega
  rw [List.drop_eq_getElem_cons hil] at hq
  have hbb:=hlt bs[i] (List.getElem_mem hil)
  have hun:z1u M.pre (bs[i]::bs.drop (i+1)) M.l D'=if bs[i]<zq M.l then (if (z0x D' (zl M.pre bs[i] zr)).1≠0 then ((z0x D' (zl M.pre bs[i] zr)).1,M.l,(z0x D' (zl M.pre bs[i] zr)).2) else z1u M.pre (bs.drop (i+1)) M.l (z0x D' (zl M.pre bs[i] zr)).2) else
   if (z1i M.pre M.l D' bs[i]).1.2≠0 then ((z1i M.pre M.l D' bs[i]).1.2,(z1i M.pre M.l D' bs[i]).2) else
   if (z1i M.pre M.l D' bs[i]).1.1=true then z1u M.pre (bs.drop (i+1)) (z1i M.pre M.l D' bs[i]).2.1 (z1i M.pre M.l D' bs[i]).2.2 else ((z5w M.pre (bs.drop (i+1)) (z1i M.pre M.l D' bs[i]).2.2).1,(z1i M.pre M.l D' bs[i]).2.1,(z5w M.pre (bs.drop (i+1)) (z1i M.pre M.l D' bs[i]).2.2).2):=rfl
  have ei:IntKind.wrap .i64 ((i:Int)+1)=((i+1:Nat):Int):=by rw [w64 (by omega) (by omega)];omega
  refine zg (λq w'=>∃ (M2:LogM) (D2:DiskA),q=((0:Int),())/\M2.SM.length<=i+1/\z1u M.pre bs [] D1=z1u M.pre (bs.drop (i+1)) M2.l D2/\(M2.d=M.d/\M2.pre=M.pre/\M2.seg=M.seg/\M2.gap=M.gap) /\
   Sat w' (slc T.a13 1 x (bs.flatMap z3o)::lgQ lg M2::dk M.d D2::r)) ?_ ?_
  rotate_left
  ·rintro _ w3 ⟨M2,D2,rfl,h1,h2,h3,hs⟩
   rw [ei]
   exact z16 (bs.length-(i+1)) ⟨i+1,M2,D2,rfl,by omega,rfl,h1,h2,h3,hs⟩
  refine z1v hs (xs:=bs) (enc:=z3o) i hil ?_
  refine wp_lt ?_
  refine wp_lt ?_
  refine z8 (za6 (lg:=lg) (by omega) hs) λ_ w' hs=>?_
  obtain ⟨rfl,hs⟩:=hs
  refine zb ?_
  refine ze (λh1=>?_) λh1=>?_
  ·rw [if_pos h1] at hun
   obtain ⟨hokm,hs⟩:=z8r hs
   refine z8 (z7a (lg:=lg) bs[i] hbb (ByteArray.mk #[46,108,111,103]) (by decide) M.pre hokm.size hs) λ_ w' hs=>?_
   obtain ⟨rfl,hs⟩:=hs
   refine zb ?_
   refine z8 (zay (d:=M.d) (A:=D') (zl M.pre bs[i] (bl (ByteArray.mk #[46,108,111,103]))) hs) λ_ w' hs=>?_
   obtain ⟨rfl,hs⟩:=hs
   refine zb ?_
   refine wp_lt ?_
   have en:zl M.pre bs[i] (bl (ByteArray.mk #[46,108,111,103]))=zl M.pre bs[i] zr:=rfl
   rw [en] at hs ⊢
   have hs:=z40 M hokm (hs.pick [1,1])
   refine ze (λh2=>?_) λh2=>?_
   ·rw [if_pos h2] at hun
    rw [hun] at hq
    rw [hq]
    exact zh (zh (zj ⟨M,rfl,⟨rfl,rfl,rfl,rfl⟩,rfl,hs.sub⟩))
   ·rw [if_neg h2] at hun
    rw [hun] at hq
    have h2:=Decidable.not_not.1 h2
    rw [h2]
    exact zj ⟨M,_,rfl,by omega,hq,⟨rfl,rfl,rfl,rfl⟩,hs.sub⟩
  ·rw [if_neg h1] at hun
   refine z8 (z03i (lg:=lg) (D:=D') bs[i] hbb (by omega) hs) λ_ w' hs=>?_
   obtain ⟨rfl,M2,⟨e1,e2,e3,e4⟩,hMl,hMs,hs⟩:=hs
   refine zb ?_
   refine wp_lt ?_
   refine wp_lt ?_
   have hs:Sat w' (lgQ lg M2::dk M.d (z1i M.pre M.l D' bs[i]).2.2::slc T.a13 1 x (bs.flatMap z3o)::r):=hs
   generalize z1i M.pre M.l D' bs[i]=SC at *
   obtain ⟨⟨b0,e0⟩,l0,D0⟩:=SC
   dsimp only at hun hMl hs ⊢
   refine ze (λh2=>?_) λh2=>?_
   ·obtain ⟨h2a,h2b⟩:=h2
    have h2a:e0=0:=h2a
    have h2b:b0=false:=by simpa using h2b
    rw [if_neg (by rw [h2a];simp),if_neg (by rw [h2b];simp)] at hun
    rw [ei]
    refine wp_must (by omega) ?_
    rw [Int.toNat_natCast]
    rw [<- e1] at hs
    have hx:FocR (slc T.a13 1 x (bs.flatMap z3o)::r) ⟨z1n x.a 1 (i+1) x.cap,x.len-(i+1),x.cap-(i+1)⟩ 1 ((bs.drop (i+1)).flatMap z3o):=FocR.post hcap
    refine z8 (z00g (lg:=lg) (M:=M2) (D:=D0) ⟨z1n x.a 1 (i+1) x.cap,x.len-(i+1),x.cap-(i+1)⟩ (bs.drop (i+1)) (λb hb=>hlt b (List.mem_of_mem_drop hb)) hx (by rw [List.length_drop];omega) hs) λ_ w' hs=>?_
    obtain ⟨rfl,hs⟩:=hs
    refine zb ?_
    refine wp_lt ?_
    rw [e2,e1] at hs
    rw [e2]
    rw [hun] at hq
    rw [hq]
    refine zh (zh (zj ⟨M2,rfl,⟨e1,e2,e3,e4⟩,hMl,hs.sub⟩))
   ·refine ze (λh3=>?_) λh3=>?_
    ·rw [if_pos h3] at hun
     rw [hun] at hq
     rw [hq]
     refine zh (zh (zj ⟨M2,rfl,⟨e1,e2,e3,e4⟩,hMl,hs.sub⟩))
    ·have h3:e0=0:=Decidable.not_not.1 h3
     have h4:b0=true:=by
      cases hb0:b0 with
      | true=>rfl
      | false=>exact absurd ⟨h3,by rw [hb0];simp⟩ h2
     rw [if_neg (by rw [h3];simp),if_pos h4,<- hMl] at hun
     rw [hun] at hq
     rw [h3]
     exact zj ⟨M2,D0,rfl,by omega,hq,⟨e1,e2,e3,e4⟩,hs.sub⟩
end
theorem z9h:∀ {bs:List BatM} {n:Int},0<=n->(zw n bs).1=0->z1g n ((zw n bs).2.map BatM.p)/\(∀ b ∈ (zw n bs).2,n<=b.base)
 | [],n,_,_=>⟨trivial,λ_ h=>by cases h⟩
 | b::bs,n,hn,h=>by
  unfold zw at h ⊢
  by_cases h1:z03 (b.to n)≠0
  ·rw [if_pos h1] at h;exact absurd h h1
  rw [if_neg h1] at h ⊢
  by_cases h2:(zw (n+zo b) bs).1≠0
  ·rw [if_pos h2] at h;exact absurd h h2
  rw [if_neg h2]
  have hv:=Decidable.not_not.1 h1
  obtain ⟨s1,-,-,-,-⟩:=z12 _ hv
  have s1:1<=zo b:=s1
  obtain ⟨i1,i2⟩:=z9h (n:=n+zo b) (by omega) (Decidable.not_not.1 h2)
  refine ⟨⟨hv,rfl,Int.le_refl _,i1⟩,λc hc=>?_⟩
  rcases List.mem_cons.1 hc with rfl|hc
  ·exact Int.le_refl _
  ·have:=i2 c hc;omega
theorem z1g.append:∀ {n:Int} {cs bs:List BatM},0<=n->z1g n cs->z1g (max n (z0b cs)) bs->z1g n (cs++bs)
 | n,[],bs,hn,_,h2=>h2.mono (by show n<=max n 0;omega)
 | n,a::cs,bs,hn,⟨h1,h2,h3,h4⟩,hb=>by
  obtain ⟨s1,-,⟨-,hba,-⟩,-,-⟩:=z12 a h1
  refine ⟨h1,h2,h3,h4.append (by omega) (hb.mono ?_)⟩
  have h5:a.base+zo a<=z0b (a::cs):=z1g.le_next (n:=n) (bs:=a::cs) ⟨h1,h2,h3,h4⟩ (List.mem_cons_self ..)
  have h6:z0b cs<=z0b (a::cs):=by
   cases cs with
   | nil=>show (0:Int)<=_;omega
   | cons c ds=>exact Int.le_refl _
  omega
theorem z0a.mono {m n:Int} {l:List SegA} (h:z0a n l) (hm:m<=n):z0a m l:=by
 cases l with
 | nil=>trivial
 | cons s l=>exact ⟨by have:=h.1;omega,h.2.1,h.2.2⟩
theorem z2v (l:List SegA) (s:SegA):zq (l++[s])=s.reach:=by unfold zq;rw [z1o]
theorem zec (l:List SegA) (s:SegA):z4o (l++[s])=s.base:=by unfold z4o;rw [z1o]
theorem z3f (l:List SegA) (s:SegA) (bs:List BatM):z4h (l++[s]) bs=l++[s.add bs]:=by unfold z4h;rw [z1o];simp
theorem z0a.snoc:∀ {n:Int} {l:List SegA} {s:SegA},z0a n l->SegOk s->n<=s.base->(∀ t ∈ l,t.reach<=s.base/\t.base<s.base)->z0a n (l++[s])
 | n,[],s,_,hs,hn,_=>⟨hn,hs,trivial⟩
 | n,a::l,s,⟨h1,h2,h3⟩,hs,hn,ht=>by
  have:=ht a (List.mem_cons_self ..)
  exact ⟨h1,h2,h3.snoc hs (by omega) λt h=>ht t (List.mem_cons_of_mem _ h)⟩
theorem z0a.front:∀ {n:Int} {l:List SegA} {s:SegA},z0a n (l++[s])->z0a n l/\SegOk s/\n<=s.base/\∀ t ∈ l,t.reach<=s.base/\t.base<s.base
 | n,[],s,h=>⟨trivial,h.2.1,h.1,λ_ h=>by cases h⟩
 | n,a::l,s,⟨h1,h2,h3⟩=>by
  obtain ⟨i1,i2,i3,i4⟩:=h3.front
  have:=(z4v h2).1
  refine ⟨⟨h1,h2,i1⟩,i2,by omega,λt ht=>?_⟩
  rcases List.mem_cons.1 ht with rfl|ht
  ·omega
  ·exact i4 t ht
theorem zt8 {s:SegA} (hs:SegOk s) {bs:List BatM} {n:Int} (h:(zw n bs).1=0) (hn:n=s.reach):SegOk (s.add (zw n bs).2):=by
 have hr:=z4v hs
 have hb:=hs.base
 refine ⟨hs.base,hs.fin,?_⟩
 subst hn
 have hm:max s.base (z0b s.bs)<=s.reach:=by omega
 exact hs.bs.append hb.1 ((z9h (by omega) h).1.mono hm)
theorem zlm {bs:List BatM} {n:Int} (h:(zw n bs).1=0) (hb:bs≠[]):0<=n/\n<=1099511627776:=by
 cases bs with
 | nil=>exact absurd rfl hb
 | cons b bs =>
  unfold zw at h
  by_cases h1:z03 (b.to n)≠0
  ·rw [if_pos h1] at h;exact absurd h h1
  ·obtain ⟨-,-,⟨-,hba,-⟩,-,-⟩:=z12 _ (Decidable.not_not.1 h1)
   exact hba
def z1b (seg:Int) (l:List SegA) (bs:List BatM):(Int × Int) × List SegA :=
 if bs=[] then ((0,3),l) else if (zw (zq l) bs).1≠0 then ((0,(zw (zq l) bs).1),l) else
 ((zq l,0),if z6e seg l ((zw (zq l) bs).2.flatMap frL).length then z4h l (zw (zq l) bs).2 else l++[(⟨zq l,0,[]⟩:SegA).add (zw (zq l) bs).2])
theorem z9i {seg:Int} {l:List SegA} {bs:List BatM} (h:z0a 0 l):z0a 0 (z1b seg l bs).2:=by
 unfold z1b
 split
 ·exact h
 rename_i hb
 split
 ·exact h
 rename_i hp
 have hp:=Decidable.not_not.1 hp
 have hv:=zlm hp hb
 simp only
 split
 ·rename_i hr
  have hne:l≠[]:=by rintro rfl;cases hr
  obtain ⟨l0,s,rfl⟩:=z30 hne
  rw [z3f]
  obtain ⟨h1,h2,h3,h4⟩:=h.front
  exact h1.snoc (zt8 h2 hp (z2v _ _)) h3 h4
 ·rename_i hr
  have hs:SegOk ((⟨zq l,0,[]⟩:SegA).add (zw (zq l) bs).2):=by
   refine ⟨hv,.inl rfl,?_⟩
   show z1g _ ([]++_)
   rw [List.nil_append]
   exact (z9h hv.1 hp).1
  refine h.snoc hs hv.1 λt ht=>?_
  show t.reach<=zq l/\t.base<zq l
  have hne:l≠[]:=List.ne_nil_of_mem ht
  obtain ⟨l0,s,rfl⟩:=z30 hne
  obtain ⟨h1,h2,h3,h4⟩:=h.front
  rw [z2v]
  have hsr:=z4v h2
  have hlast:s.base<s.reach:=by
   have hr2:z6e seg (l0++[s]) ((zw (zq (l0++[s])) bs).2.flatMap frL).length=false:=by simpa using hr
   unfold z6e at hr2
   rw [z1o] at hr2
   simp only [Bool.or_eq_false_iff,decide_eq_false_iff_not] at hr2
   have hbs:s.bs≠[]:=by rintro hbs;rw [hbs] at hr2;exact hr2.1 rfl
   have:=hsr.2.2.2.2 hbs
   omega
  rcases List.mem_append.1 ht with ht|ht
  ·have:=h4 t ht;omega
  ·simp only [List.mem_cons,List.not_mem_nil,or_false] at ht
   subst ht
   exact ⟨Int.le_refl _,hlast⟩
theorem zqm (pre:ByteArray) (seg:Int) (l:List SegA) (D:DiskA) (bs:List BatM):((z0u pre seg l D bs).1=(z1b seg l bs).1/\(z0u pre seg l D bs).2.1=(z1b seg l bs).2)\/((z0u pre seg l D bs).1.1=0/\(z0u pre seg l D bs).1.2≠0/\(z0u pre seg l D bs).2.1=l/\(z1b seg l bs).1.2=0):=by
 unfold z0u z1b
 split
 ·exact .inl ⟨rfl,rfl⟩
 split
 ·exact .inl ⟨rfl,rfl⟩
 split
 ·split
  ·rename_i h;exact .inr ⟨rfl,h,rfl,rfl⟩
  ·exact .inl ⟨rfl,rfl⟩
 ·split
  ·rename_i h;exact .inr ⟨rfl,h,rfl,rfl⟩
  split
  ·rename_i h;exact .inr ⟨rfl,h,rfl,rfl⟩
  ·exact .inl ⟨rfl,rfl⟩
theorem zty {pre:ByteArray} {seg:Int} {l:List SegA} {D:DiskA} {bs:List BatM} (h:z0a 0 l):z0a 0 (z0u pre seg l D bs).2.1:=by
 rcases zqm pre seg l D bs with ⟨-,h2⟩|⟨-,-,h2,-⟩
 ·rw [h2];exact z9i h
 ·rw [h2];exact h
def aP:ByteArray:=ByteArray.mk #[112]
theorem zp8:∀ (bs:List BatM) (n:Int),(zw n (bs.map BatM.p)).1=(zw n bs).1/\(zw n (bs.map BatM.p)).2.map BatM.p=(zw n bs).2.map BatM.p
 | [],n=>⟨rfl,rfl⟩
 | b::bs,n=>by
  rw [List.map_cons]
  unfold zw
  have e1:z03 (b.p.to n)=z03 (b.to n):=rfl
  have e2:zo b.p=zo b:=rfl
  obtain ⟨i1,i2⟩:=zp8 bs (n+zo b)
  rw [e1,e2,i1]
  split
  ·exact ⟨rfl,rfl⟩
  split
  ·exact ⟨rfl,rfl⟩
  ·exact ⟨rfl,by rw [List.map_cons,List.map_cons,i2];rfl⟩
theorem zts {a b:List BatM} (h:a.map BatM.p=b.map BatM.p):a.flatMap frL=b.flatMap frL:=by
 rw [<- zjn a,h,zjn]
theorem zxv {a b:List BatM} (h:a.map BatM.p=b.map BatM.p) (s:SegA):s.add a=s.add b:=by unfold SegA.add;rw [h]
theorem zt7 {a b:List BatM} (h:a.map BatM.p=b.map BatM.p) (l:List SegA):z4h l a=z4h l b:=by
 unfold z4h
 split
 ·rfl
 ·rw [zxv h]
theorem zke (seg:Int) (l:List SegA) (bs:List BatM):z1b seg l (bs.map BatM.p)=z1b seg l bs:=by
 obtain ⟨h1,h2⟩:=zp8 bs (zq l)
 unfold z1b
 rw [h1,zts h2,zt7 h2,zxv h2]
 by_cases hb:bs=[]
 ·subst hb;rfl
 ·rw [if_neg hb,if_neg (by intro h;exact hb (List.map_eq_nil_iff.1 h))]
structure Calm (D:DiskA):Prop where
 gone:D.gone=false
 left:D.left = -1
theorem z9b {D:DiskA} (h:D.left = -1):z27 D=D:=by unfold z27;rw [if_neg (by omega)]
theorem zj3 {D:DiskA} (h:Calm D) (n:ByteArray) (bs:List UInt8):Calm (z08 D n bs).2:=by
 unfold z08
 split
 ·exact h
 split
 ·exact h
 split
 ·exact h
 ·show Calm (z27 _)
  rw [z9b (by exact h.left)]
  exact ⟨h.gone,h.left⟩
theorem zuy {D:DiskA} (h:Calm D) (ns:List ByteArray):Calm (z1m D ns).2:=by
 unfold z1m
 split
 ·exact h
 split
 ·exact h
 ·show Calm (z27 _)
  rw [z9b (by exact h.left)]
  exact ⟨h.gone,h.left⟩
theorem zwu {D:DiskA} (h:Calm D) (n:ByteArray):Calm (z0x D n).2:=by
 unfold z0x
 split
 ·exact h
 split
 ·exact h
 ·show Calm (z27 _)
  rw [z9b (by exact h.left)]
  exact ⟨h.gone,h.left⟩
theorem zqr {D:DiskA} (h:Calm D) (pre:ByteArray) (l:List SegA):Calm (z0i pre l D).2:=by
 unfold z0i
 split
 ·exact h
 ·exact zuy h _
theorem z6w {A:DiskA} {n:ByteArray} {bs:List UInt8}:(z08 A n bs).2.fs.length<=A.fs.length+1/\((z01 A.fs n).isSome=true->(z08 A n bs).2.fs.length=A.fs.length):=by
 unfold z08
 split
 ·exact ⟨by show A.fs.length<=_;omega,λ_=>rfl⟩
 split
 ·exact ⟨by show A.fs.length<=_;omega,λ_=>rfl⟩
 split
 ·exact ⟨by show A.fs.length<=_;omega,λ_=>rfl⟩
 ·show (z27 _).fs.length<=_/\(_->(z27 _).fs.length=_)
  rw [z32]
  show (if z1t A.fs n=true then _ else _:List FileA).length<=_/\(_->(if z1t A.fs n=true then _ else _:List FileA).length=_)
  rw [<- z3y]
  split
  ·rw [List.length_map];exact ⟨by omega,λ_=>rfl⟩
  ·rename_i h
   rw [(z5o _ _).length_eq]
   exact ⟨by simp,λh2=>absurd h2 h⟩
structure Cpl (pre:ByteArray) (l:List SegA) (D:DiskA):Prop where
 ok:okA D
 segs:z0a 0 l
 has:ziz pre l D
 only:∀ n,(z01 D.fs n).isSome=true->(bl (z11 pre)).isPrefixOf (bl n)=true->∃ s ∈ l,n=zl pre s.base zr
def z58 (l:List SegA):Nat:=(l.map λs=>s.file.length).sum
theorem z6r (l:List SegA) (s:SegA):z58 (l++[s])=z58 l+s.file.length:=by simp [z58]
theorem z6n {pre:ByteArray} {s t:SegA} (hs:SegOk s) (ht:SegOk t) (h:s.base≠t.base):zl pre s.base zr≠zl pre t.base zr:=λe=>by
 have h1:=hs.base
 have h2:=ht.base
 exact h (zu7 (by omega) (by omega) e).1
structure Fr (pre:ByteArray) (D D':DiskA):Prop where
 room:D'.room=D.room
 other:∀ m,(bl (z11 pre)).isPrefixOf (bl m)=false->z01 D'.fs m=z01 D.fs m
theorem Fr.refl (pre:ByteArray) (D:DiskA):Fr pre D D:=⟨rfl,λ_ _=>rfl⟩
theorem Fr.trans {pre:ByteArray} {D D' D'':DiskA} (h1:Fr pre D D') (h2:Fr pre D' D''):Fr pre D D'':=⟨h2.room.trans h1.room,λm hm=>(h2.other m hm).trans (h1.other m hm)⟩
theorem zky {D:DiskA} (hok:okA D) (n:ByteArray):okA (z1m D [n]).2/\(z1m D [n]).2.room=D.room/\used (z1m D [n]).2.fs=used D.fs/\(z1m D [n]).2.fs.length=D.fs.length /\
  ∀ m,z01 (z1m D [n]).2.fs m=z01 D.fs m\/(m=n/\(z1m D [n]).1=0/\z01 (z1m D [n]).2.fs m=(z01 D.fs m).map λp=>(p.1,p.1.length)):=by
 by_cases h:(z1m D [n]).1=0
 ·obtain ⟨-,h1,h2,h3,h4,h5⟩:=zpm hok h
  refine ⟨h1,h2,h3,h4,λm=>?_⟩
  by_cases hm:n=m
  ·subst hm
   refine .inr ⟨rfl,h,?_⟩
   rw [h5]
   simp
  ·refine .inl ?_
   rw [h5]
   simp [hm]
 ·rcases ze5 (A:=D) (n:=n) with ⟨h1,-,-,-⟩|⟨-,-,h4⟩|⟨-,-,-,h4⟩
  ·exact absurd h1 h
  ·rw [h4];exact ⟨hok,rfl,rfl,rfl,λm=>.inl rfl⟩
  ·rw [h4];exact ⟨hok,rfl,rfl,rfl,λm=>.inl rfl⟩
theorem Cpl.same {pre:ByteArray} {l:List SegA} {D D':DiskA} (h:Cpl pre l D) (hok:okA D') (hf:∀ m,(bl (z11 pre)).isPrefixOf (bl m)=true->(z01 D'.fs m).map Prod.fst=(z01 D.fs m).map Prod.fst):Cpl pre l D':=by
 refine ⟨hok,h.segs,λs hs=>?_,λn hn hp=>?_⟩
 ·obtain ⟨k,hk⟩:=h.has s hs
  have:=hf _ (z43 pre s.base zr)
  rw [hk] at this
  cases hq:z01 D'.fs (zl pre s.base zr) with
  | none=>rw [hq] at this;cases this
  | some q =>
   rw [hq] at this
   simp only [Option.map_some,Option.some.injEq] at this
   exact ⟨q.2,by rw [<- this]⟩
 ·refine h.only n ?_ hp
  have:=hf n hp
  cases hq:z01 D.fs n with
  | none =>
   rw [hq] at this
   cases hq2:z01 D'.fs n with
   | none=>rw [hq2] at hn;cases hn
   | some q=>rw [hq2] at this;cases this
  | some q=>rfl
theorem z7u {pre:ByteArray} {l:List SegA} {D:DiskA} (h:Cpl pre l D):Cpl pre l (z0i pre l D).2/\Fr pre D (z0i pre l D).2/\used (z0i pre l D).2.fs=used D.fs/\(z0i pre l D).2.fs.length=D.fs.length/\(Calm D->(z0i pre l D).1=0):=by
 unfold z0i
 cases hl:l.getLast? with
 | none=>exact ⟨h,.refl _ _,rfl,rfl,λ_=>rfl⟩
 | some s =>
  simp only
  obtain ⟨h1,h2,h3,h4,h5⟩:=zky h.ok (zl pre s.base zr)
  refine ⟨h.same h1 λm hm=>?_,⟨h2,λm hm=>?_⟩,h3,h4,λhc=>?_⟩
  ·rcases h5 m with h6|⟨-,-,h6⟩
   ·rw [h6]
   ·rw [h6,Option.map_map];rfl
  ·rcases h5 m with h6|⟨h6,-,-⟩
   ·exact h6
   ·rw [h6,z43] at hm;cases hm
  ·rcases ze5 (A:=D) (n:=zl pre s.base zr) with ⟨h6,-,-,-⟩|⟨-,h6,-⟩|⟨-,-,h6,-⟩
   ·exact h6
   ·rw [hc.gone] at h6;cases h6
   ·obtain ⟨k,hk⟩:=h.has s (List.mem_of_getLast? hl)
    rw [hk] at h6;cases h6
theorem Cpl.grow {pre:ByteArray} {l0:List SegA} {s s':SegA} {D:DiskA} {x:List UInt8} (hp:z3q pre=true) (h:Cpl pre (l0++[s]) D) (hsegs:z0a 0 (l0++[s'])) (hb:s'.base=s.base) (hx:s'.file=s.file++x) (ha:(z08 D (zl pre s.base zr) x).1=0) :
  Cpl pre (l0++[s']) (z08 D (zl pre s.base zr) x).2/\Fr pre D (z08 D (zl pre s.base zr) x).2/\used (z08 D (zl pre s.base zr) x).2.fs+z58 (l0++[s])=used D.fs+z58 (l0++[s'])/\(z08 D (zl pre s.base zr) x).2.fs.length=D.fs.length:=by
 obtain ⟨h1,h2,h3,h4,h5,h6,h7⟩:=z9a h.ok ha
 obtain ⟨k,hk⟩:=h.has s (by simp)
 obtain ⟨f1,f2,f3,f4⟩:=h.segs.front
 refine ⟨⟨h4,hsegs,λt ht=>?_,λn hn hpn=>?_⟩,⟨h5,λm hm=>?_⟩,?_,(z6w.2 (by rw [hk];rfl))⟩
 ·rcases List.mem_append.1 ht with ht|ht
  ·have hto:=(f1.mem t ht).1
   have hne:zl pre t.base zr≠zl pre s.base zr:=z6n hto f2 (by have:=(f4 t ht).2;omega)
   rw [h7,if_neg hne]
   exact h.has t (by simp [ht])
  ·simp only [List.mem_cons,List.not_mem_nil,or_false] at ht
   subst ht
   rw [hb,h7,if_pos rfl,hk,hx]
   exact ⟨k,rfl⟩
 ·rw [h7] at hn
  by_cases hm:n=zl pre s.base zr
  ·exact ⟨s',by simp,by rw [hb];exact hm⟩
  ·rw [if_neg hm] at hn
   obtain ⟨t,ht,rfl⟩:=h.only n hn hpn
   rcases List.mem_append.1 ht with ht|ht
   ·exact ⟨t,by simp [ht],rfl⟩
   ·simp only [List.mem_cons,List.not_mem_nil,or_false] at ht
    subst ht
    exact absurd rfl hm
 ·rw [h7,if_neg]
  rintro rfl
  rw [z43] at hm;cases hm
 ·rw [h6,z6r,z6r,hx,List.length_append];omega
theorem Cpl.begin {pre:ByteArray} {l:List SegA} {s:SegA} {D:DiskA} (h:Cpl pre l D) (hsegs:z0a 0 (l++[s])) (ha:(z08 D (zl pre s.base zr) s.file).1=0) :
  Cpl pre (l++[s]) (z08 D (zl pre s.base zr) s.file).2/\Fr pre D (z08 D (zl pre s.base zr) s.file).2/\used (z08 D (zl pre s.base zr) s.file).2.fs+z58 l=used D.fs+z58 (l++[s])/\(z08 D (zl pre s.base zr) s.file).2.fs.length<=D.fs.length+1:=by
 obtain ⟨h1,h2,h3,h4,h5,h6,h7⟩:=z9a h.ok ha
 obtain ⟨f1,f2,f3,f4⟩:=hsegs.front
 have hnone:z01 D.fs (zl pre s.base zr)=none:=by
  cases hq:z01 D.fs (zl pre s.base zr) with
  | none=>rfl
  | some q =>
   obtain ⟨t,ht,e⟩:=h.only _ (by rw [hq];rfl) (z43 pre s.base zr)
   exact absurd e (z6n f2 (f1.mem t ht).1 (by have:=(f4 t ht).2;omega))
 refine ⟨⟨h4,hsegs,λt ht=>?_,λn hn hpn=>?_⟩,⟨h5,λm hm=>?_⟩,?_,z6w.1⟩
 ·rcases List.mem_append.1 ht with ht|ht
  ·have hto:=(f1.mem t ht).1
   have hne:zl pre t.base zr≠zl pre s.base zr:=z6n hto f2 (by have:=(f4 t ht).2;omega)
   rw [h7,if_neg hne]
   exact h.has t ht
  ·simp only [List.mem_cons,List.not_mem_nil,or_false] at ht
   subst ht
   rw [h7,if_pos rfl,hnone]
   exact ⟨0,rfl⟩
 ·rw [h7] at hn
  by_cases hm:n=zl pre s.base zr
  ·exact ⟨s,by simp,hm⟩
  ·rw [if_neg hm] at hn
   obtain ⟨t,ht,rfl⟩:=h.only n hn hpn
   exact ⟨t,by simp [ht],rfl⟩
 ·rw [h7,if_neg]
  rintro rfl
  rw [z43] at hm;cases hm
 ·rw [h6,z6r];omega
def Stp (pre:ByteArray) (l:List SegA) (D:DiskA) (l':List SegA) (D':DiskA):Prop :=
 Cpl pre l' D'/\Fr pre D D'/\used D'.fs+z58 l=used D.fs+z58 l'/\D'.fs.length+l.length<=D.fs.length+l'.length/\(Calm D->Calm D')
theorem Stp.same {pre:ByteArray} {l:List SegA} {D:DiskA} (h:Cpl pre l D):Stp pre l D l D:=⟨h,.refl _ _,rfl,Nat.le_refl _,id⟩
theorem Stp.trans {pre:ByteArray} {l l' l'':List SegA} {D D' D'':DiskA} (h1:Stp pre l D l' D') (h2:Stp pre l' D' l'' D''):Stp pre l D l'' D'' :=
 ⟨h2.1,h1.2.1.trans h2.2.1,by have:=h1.2.2.1;have:=h2.2.2.1;omega,by have:=h1.2.2.2.1;have:=h2.2.2.2.1;omega,λh=>h2.2.2.2.2 (h1.2.2.2.2 h)⟩
theorem zu1 {pre:ByteArray} {l:List SegA} {D:DiskA} (h:Cpl pre l D):Stp pre l D l (z0i pre l D).2:=by
 obtain ⟨h1,h2,h3,h4,-⟩:=z7u h
 exact ⟨h1,h2,by omega,by omega,λhc=>zqr hc _ _⟩
theorem ze4 (n:Int) (bs:List BatM):(SegA.add ⟨n,0,[]⟩ bs).file=shL n 0++bs.flatMap frL:=by
 rw [z6g];simp [SegA.file]
theorem zdv {pre:ByteArray} (seg:Int) {l:List SegA} {D:DiskA} (bs:List BatM) (hp:z3q pre=true) (h:Cpl pre l D):Stp pre l D (z0u pre seg l D bs).2.1 (z0u pre seg l D bs).2.2:=by
 have hsegs:=z9i (seg:=seg) (bs:=bs) h.segs
 unfold z0u
 unfold z1b at hsegs
 split
 ·exact .same h
 rename_i hb
 rw [if_neg hb] at hsegs
 split
 ·exact .same h
 rename_i hpl
 rw [if_neg hpl] at hsegs
 simp only at hsegs
 split
 ·rename_i hr
  rw [if_pos hr] at hsegs
  have hne:l≠[]:=by rintro rfl;cases hr
  obtain ⟨l0,s,rfl⟩:=z30 hne
  rw [zec]
  rw [z3f] at hsegs
  split
  ·rename_i he
   simp only
   rw [z84 he]
   exact .same h
  ·rename_i he
   have he:=Decidable.not_not.1 he
   simp only
   rw [z3f]
   obtain ⟨c1,c2,c3,c4⟩:=h.grow hp hsegs rfl (z6g _ _) he
   exact ⟨c1,c2,c3,by rw [List.length_append,List.length_append];simp;omega,λhc=>zj3 hc _ _⟩
 ·rename_i hr
  rw [if_neg hr] at hsegs
  have hst:=zu1 h
  split
  ·exact hst
  split
  ·rename_i he
   simp only
   rw [z84 he]
   exact hst
  ·rename_i he
   have he:=Decidable.not_not.1 he
   simp only
   rw [<- ze4] at he ⊢
   obtain ⟨c1,c2,c3,c4⟩:=hst.1.begin (s:=SegA.add ⟨zq l,0,[]⟩ (zw (zq l) bs).2) hsegs he
   refine hst.trans ⟨c1,c2,c3,?_,λhc=>zj3 hc _ _⟩
   rw [List.length_append,List.length_singleton]
   have c4:(z08 (z0i pre l D).2 (zl pre (zq l) zr) _).2.fs.length<=_:=c4
   omega
theorem zcf:∀ {xs ys:List ByteArray},xs.Pairwise (λa b=>ltS a b=true)->ys.Pairwise (λa b=>ltS a b=true)->(∀ n,n ∈ xs↔n ∈ ys)->xs=ys
 | [],[],_,_,_=>rfl
 | [],y::ys,_,_,h=>absurd ((h y).2 (List.mem_cons_self ..)) (by simp)
 | x::xs,[],_,_,h=>absurd ((h x).1 (List.mem_cons_self ..)) (by simp)
 | x::xs,y::ys,hx,hy,h=>by
  rw [List.pairwise_cons] at hx hy
  have hxy:x=y:=by
   rcases List.mem_cons.1 ((h x).1 (List.mem_cons_self ..)) with h1|h1
   ·exact h1
   ·rcases List.mem_cons.1 ((h y).2 (List.mem_cons_self ..)) with h2|h2
    ·exact h2.symm
    ·have h3:=hy.1 x h1
     have h4:=hx.1 y h2
     rw [zu2 h3] at h4
     cases h4
  subst hxy
  congr 1
  refine zcf hx.2 hy.2 λn=>?_
  constructor
  ·intro hn
   rcases List.mem_cons.1 ((h n).1 (List.mem_cons_of_mem _ hn)) with h1|h1
   ·subst h1
    have:=hx.1 n hn
    rw [z88] at this;cases this
   ·exact h1
  ·intro hn
   rcases List.mem_cons.1 ((h n).2 (List.mem_cons_of_mem _ hn)) with h1|h1
   ·subst h1
    have:=hy.1 n hn
    rw [z88] at this;cases this
   ·exact h1
theorem zpa (p s:ByteArray):Go.Proofs.YtlmaipahgknahaaGreat.preF p s=(bl p).isPrefixOf (bl s):=by
 unfold Go.Proofs.YtlmaipahgknahaaGreat.preF
 rw [ByteArray.toList_eq,ByteArray.toList_eq]
theorem zhr {D:DiskA} {pre n:ByteArray}:n ∈ z0w (z11 pre) D.fs↔(z01 D.fs n).isSome=true/\(bl (z11 pre)).isPrefixOf (bl n)=true:=by
 unfold z0w
 rw [List.mem_filter,<- z3y,z5k,zpa]
 constructor
 ·rintro ⟨h1,h2⟩
  obtain ⟨f,hf,rfl⟩:=List.mem_map.1 h1
  exact ⟨⟨f,hf,rfl⟩,h2⟩
 ·rintro ⟨⟨f,hf,rfl⟩,h2⟩
  exact ⟨List.mem_map.2 ⟨f,hf,rfl⟩,h2⟩
theorem zc6 {D:DiskA} (hok:okA D) (p:ByteArray):(z0w p D.fs).Pairwise λa b=>ltS a b=true:=by
 unfold z0w
 exact ((List.pairwise_map.2 hok.sorted).filter _)
theorem z9u (pre:ByteArray):∀ {n:Int} {l:List SegA},z0a n l->(l.map λs=>zl pre s.base zr).Pairwise λa b=>ltS a b=true
 | _,[],_=>List.Pairwise.nil
 | n,s::l,⟨h1,h2,h3⟩=>by
  rw [List.map_cons,List.pairwise_cons]
  refine ⟨λm hm=>?_,z9u pre h3⟩
  obtain ⟨t,ht,rfl⟩:=List.mem_map.1 hm
  have h4:=h3.mem t ht
  have:=h2.base
  have:=h4.1.base
  exact (zu3 pre (by omega) (by omega) zr).2 (by omega)
theorem Cpl.names {pre:ByteArray} {l:List SegA} {D:DiskA} (h:Cpl pre l D):z0w (z11 pre) D.fs=l.map λs=>zl pre s.base zr:=by
 refine zcf (zc6 h.ok _) (z9u pre h.segs) λn=>?_
 rw [zhr]
 constructor
 ·rintro ⟨h1,h2⟩
  obtain ⟨s,hs,rfl⟩:=h.only n h1 h2
  exact List.mem_map.2 ⟨s,hs,rfl⟩
 ·intro hn
  obtain ⟨s,hs,rfl⟩:=List.mem_map.1 hn
  obtain ⟨k,hk⟩:=h.has s hs
  exact ⟨by rw [hk];rfl,z43 pre s.base zr⟩
theorem zan (pre:ByteArray) (D:DiskA):∀ {l:List SegA},(∀ s ∈ l,SegOk s)->z0s pre (l.map λs=>zl pre s.base zr) D=(0,l.map SegA.base,D)
 | [],_=>rfl
 | s::l,h=>by
  have hb:=(h s (List.mem_cons_self ..)).base
  have h1:z19 pre (zl pre s.base zr) zr=some s.base.toNat:=zcx pre (by omega) zr
  have h2:z19 pre (zl pre s.base zr) z7b=none:=zh0 h1 (by decide)
  rw [List.map_cons]
  unfold z0s
  rw [h2]
  rw [if_neg (by rintro ⟨h3,-⟩;cases h3)]
  simp only [Option.isSome_none,Bool.false_eq_true,if_false]
  rw [zan pre D λt ht=>h t (List.mem_cons_of_mem _ ht),h1]
  simp only [List.map_cons]
  have e:((s.base.toNat:Nat):Int)=s.base:=by omega
  rw [e]
  rfl
theorem zez {pre:ByteArray} {D:DiskA}:∀ {l l1:List SegA},z0a 0 (l1++l)->(∀ s ∈ l,∃ k,z01 D.fs (zl pre s.base zr)=some (s.file,k))->z1u pre (l.map SegA.base) l1 D=(0,l1++l,D)
 | [],l1,_,_=>by unfold z1u;simp
 | s::l,l1,hok,hh=>by
  rw [List.map_cons]
  unfold z1u
  have hok2:z0a 0 ((l1++[s])++l):=by rwa [List.append_assoc]
  have hs:SegOk s:=(hok.mem s (by simp)).1
  obtain ⟨k,hk⟩:=hh s (List.mem_cons_self ..)
  have hb:¬ s.base<zq l1:=by
   have:=hs.base
   by_cases h0:l1=[]
   ·subst h0;show ¬ s.base<0;omega
   ·obtain ⟨l0,t,rfl⟩:=z30 h0
    rw [z2v]
    have h1:=hok.skip l0.length (l0.length+1) (by simp) (by omega)
    have e1:(l0++[t]++s::l)[l0.length]'(by simp)=t:=by simp
    have e2:(l0++[t]++s::l)[l0.length+1]'(by simp)=s:=by
     rw [List.getElem_append_right (by simp)];simp
    rw [e1,e2] at h1
    omega
  have hsc:z1i pre l1 D s.base=((true,0),l1++[s],D):=by
   unfold z1i
   rw [hk]
   simp only
   rw [zi3 hs]
   simp only
   rw [if_pos trivial]
  rw [if_neg hb,hsc,if_neg (by simp),if_pos rfl]
  simp only
  rw [zez hok2 λt ht=>hh t (List.mem_cons_of_mem _ ht),List.append_assoc]
  rfl
theorem Cpl.opened {pre:ByteArray} {l:List SegA} {D:DiskA} (h:Cpl pre l D):z41 pre D=(0,l,D):=by
 unfold z41
 rw [h.names,zan pre D λs hs=>(h.segs.mem s hs).1]
 rw [if_neg (by simp)]
 simp only
 have:=zez (pre:=pre) (D:=D) (l:=l) (l1:=[]) h.segs h.has
 rw [this]
 rfl
theorem Cpl.frame {pre q:ByteArray} {l:List SegA} {D D':DiskA} (h:Cpl q l D) (hok:okA D') (hp:z3q pre=true) (hq:z3q q=true) (hne:pre≠q) (hf:Fr pre D D'):Cpl q l D' :=
 h.same hok λm hm=>by
  rw [hf.other m ?_]
  cases hx:(bl (z11 pre)).isPrefixOf (bl m) with
  | false=>rfl
  | true=>exact absurd (zvi hp hq hx hm) hne
theorem zbo (pre:ByteArray) (n:Nat) (hn:n<=4194304):Cpl pre [] ⟨n,-1,false,[]⟩ :=
 ⟨⟨hn,by show (0:Nat)<=_;omega,by show (0:Nat)<=_;omega,by show -1<=(-1:Int)/\(-1:Int)<=_;omega,List.Pairwise.nil,(λf h=>by cases h),λf h=>by cases h⟩,trivial,(λs h=>by cases h),λn h=>by cases h⟩
end Go.Dec
