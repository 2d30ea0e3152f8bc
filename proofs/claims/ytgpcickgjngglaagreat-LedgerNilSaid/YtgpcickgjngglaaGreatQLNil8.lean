/- What the claim of this folder leans on: our own texts, joined, without what it does not use. -/
import Derived.Test.YtgpcickgjngglaaGreatRows
import Derived.WalkKit
import Derived.ProofKit
import Derived.OpenShut
import Derived.RowKit3
import Derived.OrdersHeld
import Derived.Scope
import Derived.KernelRfl
import Derived.Laws.Sem
import Derived.Laws.StructEq
import Derived.Deep.AppendSrc
import Derived.Laws.BytesArg
import Derived.Laws.RangeString
import Derived.Maps.RangeRun
import Derived.Lib.ConvBytes
import Derived.Lib.SlBytesConst
import Derived.ChangeSlices
import Derived.ChangeMaps5
import Derived.ChangeSame
import Derived.Deep.Slices
import Derived.Deep.Fields
import Derived.Test.YtgpcickgjngglaaGreatProg
import Derived.WideKeyRuns
import Derived.DeepKeys3
import Derived.Laws.MakeOwn
import Derived.Sort.MapsRangeIn
import Derived.Sort.KeysCollected
import Derived.RangeFuncNested
import Derived.RangeFuncBound
import Derived.RangeFuncCalls
import Derived.RangeFuncLeaves
import Derived.RangeFuncBox
import Derived.OwnWalkIn
import Derived.TacticsInMore
import Derived.RegionIn
import Derived.LoopNIn
import Derived.LoopIn
import Derived.Maps.AppendAt
import Derived.Shelf.Abstract
import Derived.Shelf.Sort.Plain
import Derived.Shelf.Slices.In.SortNone
import Derived.Test.YtgpcickgjngglaaGreatQLNil1
import Derived.Test.YtgpcickgjngglaaGreatQLNil2
import Derived.Test.YtgpcickgjngglaaGreatQLNil3
import Derived.Test.YtgpcickgjngglaaGreatQLNil4
import Derived.Test.YtgpcickgjngglaaGreatQLNil5
import Derived.Test.YtgpcickgjngglaaGreatQLNil6
import Derived.Test.YtgpcickgjngglaaGreatQLNil7
set_option linter.unusedVariables false
set_option linter.unusedSimpArgs false
namespace Go.Dec
def zef (x:Sl):List Value:=[x.v]
instance:Enc1 zef .slc (λx=>x):=⟨λ_=>rfl⟩
instance:EncN zef 1:=⟨λ_=>rfl,by decide,by simp [zef,Value.oneCell']⟩
def z9q (l:List HP):List Sl->List (List UInt8)->Prop
 | [],[]=>True
 | x::xs,b::bs=>(∀ w,Sat w l->Rd w 1 x (b.flatMap zi))/\z9q l xs bs
 | _,_=>False
theorem z9q.length {l:List HP}:∀ {xs:List Sl} {bs:List (List UInt8)},z9q l xs bs->xs.length=bs.length
 | [],[],_=>rfl
 | _::_,_::_,h=>by rw [List.length_cons,List.length_cons,h.2.length]
theorem z9q.get {l:List HP}:∀ {xs:List Sl} {bs:List (List UInt8)} (h:z9q l xs bs) (i:Nat) (h1:i<xs.length) (h2:i<bs.length),∀ w,Sat w l->Rd w 1 xs[i] (bs[i].flatMap zi)
 | _::_,_::_,h,0,_,_=>h.1
 | _::_,_::_,h,i+1,h1,h2=>h.2.get i (by simpa using h1) (by simpa using h2)
theorem z3h {bs:List (List UInt8)} {i:Nat} (hi:i<bs.length):(bs.take (i+1)).flatten=(bs.take i).flatten++bs[i]:=by
 rw [List.take_add_one,List.getElem?_eq_getElem hi,List.flatten_append];simp
section
variable {w:World} {l r r0:List HP} {d:Nat} {A:DiskA}
theorem zg5 (hok:okA A) {n:ByteArray} (hn:z5a n=true) {bs:List UInt8} (hb:bs.length<=A.free) (hm:¬ (z1y A.fs n=false/\A.fs.length>=128)) :
  okA { A with fs:=if z1y A.fs n then A.fs.map (z1q n λf=>{ f with b:=f.b++bs }) else z43 ⟨n,bs,0⟩ A.fs }:=by
 have hr:=hok.room
 have hu:=hok.used
 unfold DiskA.free at hb
 by_cases h:z1y A.fs n=true
 ·rw [if_pos h]
  obtain ⟨f,hf,rfl⟩:=z5x.1 h
  obtain ⟨s,u,hsu⟩:=List.append_of_mem hf
  have hpm:A.fs.Perm (f::(s++u)):=by rw [hsu];exact List.perm_middle
  have hnd:=(hpm.map (·.name)).nodup_iff.1 (z2q hok.sorted)
  rw [List.map_cons,List.nodup_cons] at hnd
  have hne:∀ g ∈ s++u,g.name≠f.name:=λg hg e=>hnd.1 (List.mem_map.2 ⟨g,hg,e⟩)
  have h1:=zbr (g:=λf=>{ f with b:=f.b++bs }) hpm hne
  have h2:used A.fs=f.b.length+used (s++u):=by rw [z3q hpm,z1h]
  refine ⟨hok.room,?_,by show (A.fs.map _).length<=_;rw [List.length_map];exact hok.many,hok.left,z8v (z66 λ_=>rfl) hok.sorted,λg hg=>?_,λg hg=>?_⟩
  ·show used (A.fs.map _)<=_
   rw [h1]
   show (f.b++bs).length+_<=_
   rw [List.length_append];omega
  ·obtain ⟨g,hg',rfl⟩:=List.mem_map.1 hg
   have:=hok.kept g hg'
   unfold z1q
   split
   ·show g.kept<=(g.b++bs).length;rw [List.length_append];omega
   ·exact this
  ·obtain ⟨g,hg',rfl⟩:=List.mem_map.1 hg
   rw [z66 (by intro _;rfl)];exact hok.names g hg'
 ·have h:z1y A.fs n=false:=by simpa using h
  rw [if_neg (by rw [h];simp)]
  have hne:=z5y.1 h
  have hp:=z61 ⟨n,bs,0⟩ A.fs
  refine ⟨hok.room,?_,?_,hok.left,ze6 _ hne hok.sorted,λg hg=>?_,λg hg=>?_⟩
  ·show used (z43 _ _)<=_
   rw [z3q hp,z1h];show bs.length+_<=_;omega
  ·show (z43 _ _).length<=_
   rw [hp.length_eq,List.length_cons]
   have:=hok.many
   have:A.fs.length≠128:=λe=>hm ⟨h,by omega⟩
   omega
  ·rcases zev.1 hg with rfl|hg
   ·exact Nat.zero_le _
   ·exact hok.kept g hg
  ·rcases zev.1 hg with rfl|hg
   ·exact zse hn
   ·exact hok.names g hg
theorem zks (x:FileA) (g:FileA->FileA) (hg:(g x).name=x.name):∀ {fs:List FileA},(∀ f ∈ fs,f.name≠x.name)->(z43 x fs).map (z1q x.name g)=z43 (g x) fs
 | [],_=>by simp [z43,z1q]
 | f::r,h=>by
  have hf:z1q x.name g f=f:=by rw [z1q,if_neg (h f (List.mem_cons_self ..))]
  have hr:r.map (z1q x.name g)=r:=by
   conv=>rhs;rw [<- List.map_id r]
   exact List.map_congr_left λy hy=>by rw [z1q,if_neg (h y (List.mem_cons_of_mem _ hy))];rfl
  rw [z43,z43,hg]
  split
  ·rw [List.map_cons,List.map_cons,hf,hr,z1q,if_pos rfl]
  ·rw [List.map_cons,hf,zks x g hg λy hy=>h y (List.mem_cons_of_mem _ hy)]
theorem zk2 (n:ByteArray) (ps:Sl) (xs:List Sl) (bs:List (List UInt8)) [hps:FocR r ps 1 (xs.flatMap zef)] (hbs:z9q r xs bs) (hlen:bs.length<=1000) (hsum:∀ b ∈ bs,b.length<=100000000) [hf:Fo l dk d A r] (hs:Sat w l) :
  Ret P F.a34 #[.pointer (some ⟨d,0,none⟩),.string n,ps.v] w λvs w'=>vs=[.int .i64 (z08 A n bs.flatten).1]/\Sat w' (dk d (z08 A n bs.flatten).2::r) :=
 ztl _ n ps <| by
  delta z06y AA AE AJ AK AM AO AP AT AU Ac Ad Af Ag Ai Aj Al Am An Ap Aq Av Az B5 BH Bx Bz;unfold z08
  have hxl:=hbs.length
  have hok0:okA A:=by obtain ⟨m,FS,hp,hok,hs⟩:=z24 (hs.perm hf.perm);exact hok
  have hfr:A.free<=4194304:=by have:=hok0.room;unfold DiskA.free;omega
  refine zg3 hs (λhg w' hs=>?_) λhg w' hs=>?_
  ·rw [if_pos hg];exact ⟨rfl,hs⟩
  rw [if_neg (by rw [hg];simp)]
  have hpl:=hs.slen ps (xs:=xs) (enc:=zef)
  refine z8 (z05g n hs) λ_ _ hs=>?_
  obtain ⟨rfl,hs⟩:=hs
  refine zb ?_
  refine ze (λh=>?_) λh=>?_
  ·have h:z5a n=false:=by simpa using h
   rw [if_pos h];exact ⟨rfl,rfl,hs⟩
  have hn:z5a n=true:=by simpa using h
  rw [if_neg (by rw [hn];simp)]
  refine zf (λv w'=>bs.flatten.length<=A.free/\v=(((bs.flatten.length:Nat):Int),())/\Sat w' (dk d A::r)) ?_ ?_
  ·refine z03 (λk v w=>∃ i:Nat,v=((((bs.take i).flatten.length:Nat):Int),(i:Int),())/\i<=xs.length/\xs.length-i=k/\(bs.take i).flatten.length<=A.free/\Sat w (dk d A::r)) xs.length ⟨0,rfl,by omega,rfl,by simp,hs⟩ ?_
   clear hs
   rintro k _ w ⟨i,rfl,hi,hk,hsm,hs⟩
   refine zm ?_
   refine ze (λhc=>?_) λhc=>?_
   ·have hil:i<xs.length:=by omega
    have hib:i<bs.length:=by omega
    refine z22 hs i hil ?_
    have hrl:xs[i].len=bs[i].length:=(hbs.get i hil hib _ hs.tail).len (enc:=zi) (λ_=>rfl) (by decide)
    have hbi:=hsum _ (List.getElem_mem hib)
    refine z8 (z052 hs) λ_ _ hs=>?_
    obtain ⟨rfl,hs⟩:=hs
    refine zb ?_
    have ew:IntKind.wrap .i64 ((A.free:Int)-((bs.take i).flatten.length:Nat))=(A.free:Int)-((bs.take i).flatten.length:Nat):=zza
    rw [ew]
    refine ze (λh3=>?_) λh3=>?_
    ·refine zh (zh ?_)
     rw [if_pos]
     ·exact ⟨rfl,rfl,hs⟩
     ·left
      have h4:(bs.take (i+1)).flatten.length<=bs.flatten.length:=by
       have:=congrArg (λl:List (List UInt8)=>l.flatten.length) (List.take_append_drop (i+1) bs)
       simp only [List.flatten_append,List.length_append] at this
       omega
      rw [z3h hib,List.length_append] at h4
      omega
    ·refine z23 (y:=(((bs.take (i+1)).flatten.length:Nat):Int)) ?_ ?_
     ·refine z2z (us':=[.int .i64 (((bs.take (i+1)).flatten.length:Nat):Int),.int .i64 ((i+1:Nat):Int)]) (by (try simp (disch:=omega) only [w64]);first|rfl|(congr;omega)) ?_
      refine z11 (xs.length-(i+1)) ?_
      refine ⟨i+1,rfl,by omega,rfl,?_,hs⟩
      rw [z3h hib,List.length_append];omega
     ·rw [z3h hib,List.length_append,w64 (by omega) (by omega)];omega
   ·refine zh (zj ?_)
    rw [List.take_of_length_le (by omega)] at hsm ⊢
    exact ⟨hsm,rfl,hs⟩
  clear hs
  rintro _ w ⟨hfit,rfl,hs⟩
  refine zm ?_
  obtain ⟨m,FS,hp,hok,hs⟩:=z24 hs
  have hou:=hok.used
  have hor:=hok.room
  have hfit':=hfit
  unfold DiskA.free at hfit'
  (repeat (first|with_reducible (first|refine zm ?_|refine zg ?_|refine z0k ?_|refine za hs ?_|refine zk hs ?_|refine zd ?_|refine zx hs λ_ hs=>?_|refine zq hs λ_ _ hs=>?_|refine zn hs λ_ _ hs=>?_|refine z07 hs λ_ hs=>?_|refine zr hs λ_ hs=>?_)|(apply wp_must;(focus first|trivial|omega|assumption))|refine z19 ?_|refine wp_lt ?_))
  have hnot:∀ (g:Bool),z1y A.fs n=g->¬ (g=false/\A.fs.length>=128)->(if bs.flatten.length>A.free\/(z1y A.fs n=false/\A.fs.length>=128) then ((5:Int),A) else
    (0,z2e { A with fs:=if z1y A.fs n then A.fs.map (z1q n λf=>{ f with b:=f.b++bs.flatten }) else z43 ⟨n,bs.flatten,0⟩ A.fs })) =
    (0,z2e { A with fs:=if z1y A.fs n then A.fs.map (z1q n λf=>{ f with b:=f.b++bs.flatten }) else z43 ⟨n,bs.flatten,0⟩ A.fs }):=λg hg h=>by
   rw [if_neg]
   rintro (h1|⟨h1,h2⟩)
   ·omega
   ·exact h ⟨by rw [<- hg,h1],h2⟩
  refine zwz hs (λb hb=>?_) λhb=>?_
  all_goals refine wp_lt ?_
  all_goals refine zf (λv w'=>∃ (t:FileM) (FS':List FileM) (fs1:List FileA),v=(some ⟨t.at_,0,none⟩,())/\t.f.name=n/\fs1.Perm (t.f::FS'.map FileM.f)/\(∀ g ∈ FS'.map FileM.f,g.name≠t.f.name)/\used fs1=used A.fs/\¬ (z1y A.fs n=false/\A.fs.length>=128) /\
    fs1.map (z1q n λf=>{ f with b:=f.b++bs.flatten })=(if z1y A.fs n then A.fs.map (z1q n λf=>{ f with b:=f.b++bs.flatten }) else z43 ⟨n,bs.flatten,0⟩ A.fs) /\
    Sat w' (pt t.at_ (.cells #[t.x.v,.int .i64 t.f.kept] T.a9)::slc T.a52 1 t.x (t.f.b.flatMap zi)::HP.all (FS'.map z3j)::pt d (.cells #[.int .i64 A.left,.bool A.gone,.int .i64 A.room,.int .i64 (used A.fs),.map (some m)] T.a8)::z1c ekS evF m ((t::FS').map λt=>(t.f.name,t.at_))::r)) ?_ ?_
  ·obtain ⟨t,ht,rfl,rfl,hA⟩:=z8o hp hb
   have hhas:z1y A.fs t.f.name=true:=z5x.2 ⟨_,hA,rfl⟩
   refine zy ?_ (by simp)
   obtain ⟨FS',hpm,hs⟩:=z70 hs ht
   obtain ⟨h1,h2,-⟩:=apart hp hok hpm
   refine zj ?_
   refine ⟨t,FS',A.fs,rfl,rfl,h1,h2,rfl,by rw [hhas];simp,by rw [if_pos hhas],?_⟩
   have hs:=(hs.pick [4]).mapPerm (hpm.map λt=>(t.f.name,t.at_))
   exact hs.sub
  rotate_left
  ·have hno:=z7f hp hb
   have hhas:=z5y.2 hno
   refine z0c ?_ (by simp)
   (repeat (first|with_reducible (first|refine zm ?_|refine zg ?_|refine z0k ?_|refine za hs ?_|refine zk hs ?_|refine zd ?_|refine zx hs λ_ hs=>?_|refine zq hs λ_ _ hs=>?_|refine zn hs λ_ _ hs=>?_|refine z07 hs λ_ hs=>?_|refine zr hs λ_ hs=>?_)|(apply wp_must;(focus first|trivial|omega|assumption))|refine z19 ?_|refine wp_lt ?_))
   refine zdl hs ?_
   have hml:(FS.map λt=>(t.f.name,t.at_)).length=A.fs.length:=by rw [List.length_map,<- hp.length_eq,List.length_map]
   rw [hml]
   refine ze (λh3=>?_) λh3=>?_
   ·refine zh ?_
    rw [if_pos (.inr ⟨hhas,by omega⟩)]
    exact ⟨rfl,rfl,z26 m hp hok hs⟩
   refine zn hs λa w' hs=>?_
   (repeat (first|with_reducible (first|refine zm ?_|refine zg ?_|refine z0k ?_|refine za hs ?_|refine zk hs ?_|refine zd ?_|refine zx hs λ_ hs=>?_|refine zq hs λ_ _ hs=>?_|refine zn hs λ_ _ hs=>?_|refine z07 hs λ_ hs=>?_|refine zr hs λ_ hs=>?_)|(apply wp_must;(focus first|trivial|omega|assumption))|refine z19 ?_|refine wp_lt ?_))
   refine zaz hs (FS.map λt=>(t.f.name,t.at_)) (.inr ⟨hb,rfl⟩) a λw' hs=>?_
   refine zj ?_
   refine ⟨⟨a,⟨none,0,0⟩,⟨n,[],0⟩⟩,FS,z43 ⟨n,[],0⟩ A.fs,rfl,rfl,(z61 _ _).trans (.cons _ hp.symm),λg hg=>hno g (hp.mem_iff.1 hg),?_,by omega,?_,?_⟩
   ·rw [z3q (z61 _ _),z1h];exact Nat.zero_add _
   ·rw [if_neg (by rw [hhas];simp)]
    exact zks ⟨n,[],0⟩ (λf=>{ f with b:=f.b++bs.flatten }) rfl hno
   ·exact (hs.slc_nil (T:=T.a52) (sz:=1)).pick [2,0,2,1,0]
  all_goals clear hs
  all_goals rintro _ w ⟨t,FS',fs1,rfl,htn,h1,h2,hus,hno,hfin,hs⟩
  all_goals refine zm ?_
  all_goals rw [hnot _ rfl hno,<- hfin]
  all_goals subst htn
  all_goals refine zf (λ_ w'=>∃ x1:Sl,Sat w' (pt t.at_ (.cells #[x1.v,.int .i64 t.f.kept] T.a9)::slc T.a52 1 x1 ((t.f.b++bs.flatten).flatMap zi)::HP.all (FS'.map z3j)::pt d (.cells #[.int .i64 A.left,.bool A.gone,.int .i64 A.room,.int .i64 (used A.fs),.map (some m)] T.a8)::z1c ekS evF m ((t::FS').map λt=>(t.f.name,t.at_))::r)) ?_ ?_
  ·refine z03 (λk v w=>∃ (i:Nat) (x1:Sl),v=((i:Int),())/\i<=xs.length/\xs.length-i=k/\Sat w (pt t.at_ (.cells #[x1.v,.int .i64 t.f.kept] T.a9)::slc T.a52 1 x1 ((t.f.b++(bs.take i).flatten).flatMap zi)::HP.all (FS'.map z3j)::pt d (.cells #[.int .i64 A.left,.bool A.gone,.int .i64 A.room,.int .i64 (used A.fs),.map (some m)] T.a8)::z1c ekS evF m ((t::FS').map λt=>(t.f.name,t.at_))::r)) xs.length ⟨0,t.x,rfl,by omega,rfl,by simpa using hs⟩ ?_
   clear hs
   rintro k _ w ⟨i,x1,rfl,hi,hk,hs⟩
   refine zm ?_
   refine ze (λhc=>?_) λhc=>?_
   ·have hil:i<xs.length:=by omega
    have hib:i<bs.length:=by omega
    refine z22 hs i hil ?_
    have hrd:FocR r xs[i] 1 (bs[i].flatMap zi):=⟨hbs.get i hil hib⟩
    have hbi:=hsum _ (List.getElem_mem hib)
    have hsm:(bs.take i).flatten.length<=bs.flatten.length:=by
     have:=congrArg (λl:List (List UInt8)=>l.flatten.length) (List.take_append_drop i bs)
     simp only [List.flatten_append,List.length_append] at this
     omega
    have htb:t.f.b.length<=used fs1:=z7z (h1.mem_iff.2 (List.mem_cons_self ..))
    (repeat (first|with_reducible (first|refine zm ?_|refine zg ?_|refine z0k ?_|refine za hs ?_|refine zk hs ?_|refine zd ?_|refine zx hs λ_ hs=>?_|refine zq hs λ_ _ hs=>?_|refine zn hs λ_ _ hs=>?_|refine z07 hs λ_ hs=>?_|refine zr hs λ_ hs=>?_)|(apply wp_must;(focus first|trivial|omega|assumption))|refine z19 ?_|refine wp_lt ?_))
    refine wp_app' hs (xs:=t.f.b++(bs.take i).flatten) (ys:=bs[i]) (enc:=zi) (λz w' hs=>?_) (by rw [List.length_append];omega)
    (repeat (first|with_reducible (first|refine zm ?_|refine zg ?_|refine z0k ?_|refine za hs ?_|refine zk hs ?_|refine zd ?_|refine zx hs λ_ hs=>?_|refine zq hs λ_ _ hs=>?_|refine zn hs λ_ _ hs=>?_|refine z07 hs λ_ hs=>?_|refine zr hs λ_ hs=>?_)|(apply wp_must;(focus first|trivial|omega|assumption))|refine z19 ?_|refine wp_lt ?_))
    refine z2z (us':=[.int .i64 ((i+1:Nat):Int)]) (by (try simp (disch:=omega) only [w64]);first|rfl|(congr;omega)) ?_
    refine z11 (xs.length-(i+1)) ?_
    refine ⟨i+1,z,rfl,by omega,rfl,?_⟩
    rw [z3h hib,<- List.append_assoc]
    exact hs.sub
   ·refine zh (zj ⟨x1,?_⟩)
    rwa [List.take_of_length_le (l:=bs) (by omega)] at hs
  rotate_left
  ·refine z03 (λk v w=>∃ (i:Nat) (x1:Sl),v=((i:Int),())/\i<=xs.length/\xs.length-i=k/\Sat w (pt t.at_ (.cells #[x1.v,.int .i64 t.f.kept] T.a9)::slc T.a52 1 x1 ((t.f.b++(bs.take i).flatten).flatMap zi)::HP.all (FS'.map z3j)::pt d (.cells #[.int .i64 A.left,.bool A.gone,.int .i64 A.room,.int .i64 (used A.fs),.map (some m)] T.a8)::z1c ekS evF m ((t::FS').map λt=>(t.f.name,t.at_))::r)) xs.length ⟨0,t.x,rfl,by omega,rfl,by simpa using hs⟩ ?_
   clear hs
   rintro k _ w ⟨i,x1,rfl,hi,hk,hs⟩
   refine zm ?_
   refine ze (λhc=>?_) λhc=>?_
   ·have hil:i<xs.length:=by omega
    have hib:i<bs.length:=by omega
    refine z22 hs i hil ?_
    have hrd:FocR r xs[i] 1 (bs[i].flatMap zi):=⟨hbs.get i hil hib⟩
    have hbi:=hsum _ (List.getElem_mem hib)
    have hsm:(bs.take i).flatten.length<=bs.flatten.length:=by
     have:=congrArg (λl:List (List UInt8)=>l.flatten.length) (List.take_append_drop i bs)
     simp only [List.flatten_append,List.length_append] at this
     omega
    have htb:t.f.b.length<=used fs1:=z7z (h1.mem_iff.2 (List.mem_cons_self ..))
    (repeat (first|with_reducible (first|refine zm ?_|refine zg ?_|refine z0k ?_|refine za hs ?_|refine zk hs ?_|refine zd ?_|refine zx hs λ_ hs=>?_|refine zq hs λ_ _ hs=>?_|refine zn hs λ_ _ hs=>?_|refine z07 hs λ_ hs=>?_|refine zr hs λ_ hs=>?_)|(apply wp_must;(focus first|trivial|omega|assumption))|refine z19 ?_|refine wp_lt ?_))
    refine wp_app' hs (xs:=t.f.b++(bs.take i).flatten) (ys:=bs[i]) (enc:=zi) (λz w' hs=>?_) (by rw [List.length_append];omega)
    (repeat (first|with_reducible (first|refine zm ?_|refine zg ?_|refine z0k ?_|refine za hs ?_|refine zk hs ?_|refine zd ?_|refine zx hs λ_ hs=>?_|refine zq hs λ_ _ hs=>?_|refine zn hs λ_ _ hs=>?_|refine z07 hs λ_ hs=>?_|refine zr hs λ_ hs=>?_)|(apply wp_must;(focus first|trivial|omega|assumption))|refine z19 ?_|refine wp_lt ?_))
    refine z2z (us':=[.int .i64 ((i+1:Nat):Int)]) (by (try simp (disch:=omega) only [w64]);first|rfl|(congr;omega)) ?_
    refine z11 (xs.length-(i+1)) ?_
    refine ⟨i+1,z,rfl,by omega,rfl,?_⟩
    rw [z3h hib,<- List.append_assoc]
    exact hs.sub
   ·refine zh (zj ⟨x1,?_⟩)
    rwa [List.take_of_length_le (l:=bs) (by omega)] at hs
  all_goals clear hs
  all_goals rintro _ w ⟨x1,hs⟩
  all_goals refine zm ?_
  all_goals have hu3:=zbr (g:=λf=>{ f with b:=f.b++bs.flatten }) h1 h2
  all_goals have hu4:used fs1=t.f.b.length+used (FS'.map FileM.f):=by rw [z3q h1,z1h]
  all_goals have hu5:used (fs1.map (z1q t.f.name λf=>{ f with b:=f.b++bs.flatten }))=used A.fs+bs.flatten.length:=by (rw [hu3];show (t.f.b++bs.flatten).length+_=_;rw [List.length_append];omega)
  all_goals have ew:IntKind.wrap .i64 (((used A.fs:Nat):Int)+((bs.flatten.length:Nat):Int))=((used (fs1.map (z1q t.f.name λf=>{ f with b:=f.b++bs.flatten })):Nat):Int):=by rw [hu5,w64 (by omega) (by omega)];omega
  all_goals refine zg ?_
  all_goals refine za hs ?_
  all_goals rw [ew]
  all_goals (repeat (first|with_reducible (first|refine zm ?_|refine zg ?_|refine z0k ?_|refine za hs ?_|refine zk hs ?_|refine zd ?_|refine zx hs λ_ hs=>?_|refine zq hs λ_ _ hs=>?_|refine zn hs λ_ _ hs=>?_|refine z07 hs λ_ hs=>?_|refine zr hs λ_ hs=>?_)|(apply wp_must;(focus first|trivial|omega|assumption))|refine z19 ?_|refine wp_lt ?_))
  all_goals have hs:=z6b (FS:=FS') ⟨t.at_,x1,{ t.f with b:=t.f.b++bs.flatten }⟩ hs
  all_goals have hp':(((⟨t.at_,x1,{ t.f with b:=t.f.b++bs.flatten }⟩:FileM)::FS').map FileM.f).Perm (fs1.map (z1q t.f.name λf=>{ f with b:=f.b++bs.flatten })):=(z6p (g:=λf=>{ f with b:=f.b++bs.flatten }) h1 h2).symm
  all_goals have hok':=zg5 hok hn hfit hno
  all_goals rw [<- hfin] at hok'
  all_goals have hs:Sat _ (z1c ekS evF m (((⟨t.at_,x1,{ t.f with b:=t.f.b++bs.flatten }⟩:FileM)::FS').map λt=>(t.f.name,t.at_))::_):=hs.pick [2]
  all_goals rw [hg] at hs
  all_goals refine z8 (zbo (l':=r) hg hok' hp' hs) λ_ _ hs=>?_
  all_goals obtain ⟨rfl,hs⟩:=hs
  all_goals refine zb ?_
  all_goals exact ⟨rfl,rfl,hs⟩
end
theorem zbq {fs:List FileA} {g:FileA->FileA} (hb:∀ f,(g f).b=f.b):used (fs.map g)=used fs:=by
 unfold used
 rw [List.map_map]
 congr 1
 exact List.map_congr_left λf _=>by show (g f).b.length=_;rw [hb]
theorem zqk {A:DiskA} (hok:okA A) {g:FileA->FileA} (hn:∀ f,(g f).name=f.name) (hb:∀ f,(g f).b=f.b) (hk:∀ f,f.kept<=f.b.length->(g f).kept<=f.b.length):okA { A with fs:=A.fs.map g }:=by
 refine ⟨hok.room,by show used (A.fs.map g)<=_;rw [zbq hb];exact hok.used,by show (A.fs.map g).length<=_;rw [List.length_map];exact hok.many,hok.left,z8v hn hok.sorted,λf hf=>?_,λf hf=>?_⟩
 ·obtain ⟨f,hf',rfl⟩:=List.mem_map.1 hf
  rw [hb];exact hk f (hok.kept f hf')
 ·obtain ⟨f,hf',rfl⟩:=List.mem_map.1 hf
  rw [hn];exact hok.names f hf'
def z8h (f:FileA):FileA:={ f with kept:=f.b.length }
def z2u (ns:List ByteArray) (f:FileA):FileA:=if ns.any (λm=>decide (m=f.name)) then z8h f else f
theorem zbg (ns:List ByteArray) (f:FileA):(z2u ns f).name=f.name:=by unfold z2u;split <;> rfl
theorem zh7 (ns:List ByteArray) (f:FileA):(z2u ns f).b=f.b:=by unfold z2u;split <;> rfl
theorem zsa (ns:List ByteArray) (f:FileA) (h:f.kept<=f.b.length):(z2u ns f).kept<=f.b.length:=by
 unfold z2u;split
 ·exact Nat.le_refl _
 ·exact h
theorem zvz:z2u []=id:=by funext f;simp [z2u]
theorem zsb (ns:List ByteArray) (n:ByteArray) (f:FileA):z1q n z8h (z2u ns f)=z2u (ns++[n]) f:=by
 unfold z1q
 rw [zbg]
 unfold z2u
 rw [List.any_append]
 by_cases h1:f.name=n
 ·rw [if_pos h1]
  have:(ns.any (λm=>decide (m=f.name)) || [n].any (λm=>decide (m=f.name)))=true:=by simp [h1]
  rw [if_pos this]
  split <;> rfl
 ·rw [if_neg h1]
  have:(ns.any (λm=>decide (m=f.name)) || [n].any (λm=>decide (m=f.name)))=ns.any (λm=>decide (m=f.name)):=by simp [Ne.symm h1]
  rw [this]
theorem zyl (s:ByteArray):Go.Proofs.YtgpcickgjngglaaGreat.preF (ByteArray.mk #[]) s=true:=by
 unfold Go.Proofs.YtgpcickgjngglaaGreat.preF
 rw [show (ByteArray.mk #[]).toList=[] from by rw [ByteArray.toList_eq]]
 rfl
theorem zbi (fs:List FileA):z0y (ByteArray.mk #[]) fs=fs.map (·.name):=List.filter_eq_self.2 λs _=>zyl s
theorem zy2 (fs:List FileA):fs.map (z2u (fs.map (·.name)))=fs.map (z3z []):=by
 refine List.map_congr_left λf hf=>?_
 unfold z2u z3z
 rw [if_pos (show ((fs.map (·.name)).any λm=>decide (m=f.name))=true by simp;exact ⟨f,hf,rfl⟩),if_pos (show zb1 [] f.name=true from rfl)]
 rfl
theorem zw0 {ns:List ByteArray} (h:ns≠[]) (fs:List FileA):fs.map (z2u ns)=fs.map (z3z ns):=by
 refine List.map_congr_left λf hf=>?_
 have e:zb1 ns f.name=ns.any (λm=>decide (m=f.name)):=by
  unfold zb1
  cases ns with
  | nil=>exact absurd rfl h
  | cons _ _=>rfl
 unfold z2u z3z
 rw [e];rfl
theorem zxp {fs:List FileA} {g:FileA->FileA} (hn:∀ f,(g f).name=f.name) (n:ByteArray):z1y (fs.map g) n=z1y fs n:=by
 unfold z1y
 rw [List.any_map]
 congr 1
 funext f
 show decide ((g f).name=n)=_
 rw [hn]
section
variable {w:World} {l r r0:List HP} {d:Nat} {A:DiskA}
theorem z064 (nx:Sl) (ns:List ByteArray) [hns:FocR r nx 1 (ns.flatMap z27)] (hlen:ns.length<=100000) [hf:Fo l dk d A r] (hs:Sat w l) :
  Ret P F.a43 #[.pointer (some ⟨d,0,none⟩),nx.v] w λvs w'=>vs=[.int .i64 (z1s A ns).1]/\Sat w' (dk d (z1s A ns).2::r) :=
 zts _ nx <| by
  delta z075 AA AC AJ AK AO AT AU AZ Ab Ac Ad Af Ai Aj Ak Al An Aq BG BH Bz;unfold z1s
  refine zg3 hs (λhg w' hs=>?_) λhg w' hs=>?_
  ·rw [if_pos hg];exact ⟨rfl,hs⟩
  rw [if_neg (by rw [hg];simp)]
  have hpl:=hs.slen nx (xs:=ns) (enc:=z27)
  have hok0:okA A:=by obtain ⟨m,FS,hp,hok,hs⟩:=z24 hs;exact hok
  refine zf (λv w'=>ns.all (z1y A.fs)=true/\Sat w' (dk d A::r)) ?_ ?_
  ·refine z03 (λk v w=>∃ i:Nat,v=((i:Int),())/\i<=ns.length/\ns.length-i=k/\(ns.take i).all (z1y A.fs)=true/\Sat w (dk d A::r)) ns.length ⟨0,rfl,by omega,rfl,rfl,hs⟩ ?_
   clear hs
   rintro k _ w ⟨i,rfl,hi,hk,hall,hs⟩
   refine zm ?_
   refine ze (λhc=>?_) λhc=>?_
   ·have hil:i<ns.length:=by omega
    refine z22 hs i hil ?_
    have htk:(ns.take (i+1)).all (z1y A.fs)=z1y A.fs ns[i]:=by
     rw [List.take_add_one,List.getElem?_eq_getElem hil,List.all_append,hall];simp
    obtain ⟨m,FS,hp,hok,hs⟩:=z24 hs
    (repeat (first|with_reducible (first|refine zm ?_|refine zg ?_|refine z0k ?_|refine za hs ?_|refine zk hs ?_|refine zd ?_|refine zx hs λ_ hs=>?_|refine zq hs λ_ _ hs=>?_|refine zn hs λ_ _ hs=>?_|refine z07 hs λ_ hs=>?_|refine zr hs λ_ hs=>?_)|(apply wp_must;(focus first|trivial|omega|assumption))|refine z19 ?_|refine wp_lt ?_))
    refine z7a hs (λb hb=>?_) λhb=>?_
    ·obtain ⟨t,ht,rfl,hnm,hA⟩:=z8o hp hb
     refine zy ?_ (by simp)
     refine z2z (us':=[.int .i64 ((i+1:Nat):Int)]) (by (try simp (disch:=omega) only [w64]);first|rfl|(congr;omega)) ?_
     refine z11 (ns.length-(i+1)) ?_
     exact ⟨i+1,rfl,by omega,rfl,by rw [htk];exact z5x.2 ⟨_,hA,hnm⟩,z26 m hp hok hs⟩
    ·refine z0c ?_ (by rfl)
     refine zh (zh ?_)
     have:ns.all (z1y A.fs)=false:=by
      rw [<- List.take_append_drop (i+1) ns,List.all_append,htk,z5y.2 (z7f hp hb)];rfl
     rw [if_pos this]
     exact ⟨rfl,rfl,z26 m hp hok hs⟩
   ·refine zh (zj ⟨?_,hs⟩)
    rwa [List.take_of_length_le (by omega)] at hall
  clear hs
  rintro _ w ⟨hall,hs⟩
  refine zm ?_
  rw [if_neg (by rw [hall];simp)]
  refine zf (λv w'=>∃ (nx1:Sl) (ns1:List ByteArray) (r1:List HP),v=(nx1,())/\ns1.length<=100000/\ns1.all (z1y A.fs)=true/\A.fs.map (z2u ns1)=A.fs.map (z3z ns)/\(∃ h:FocR (slc T.a51 1 nx1 (ns1.flatMap z27)::r) nx1 1 (ns1.flatMap z27),True) /\
    (Sat w' (dk d A::r1))/\(r1=r/\(∃ _h:FocR r nx1 1 (ns1.flatMap z27),True)\/r1=slc T.a51 1 nx1 (ns1.flatMap z27)::r)) ?_ ?_
  ·refine ze (λh=>?_) λh=>?_
   ·have hnil:ns=[]:=List.length_eq_zero_iff.1 (by omega)
    subst hnil
    refine z8 (zqh (ByteArray.mk #[]) hs) λ_ _ hs=>?_
    obtain ⟨x,rfl,hs⟩:=hs
    refine zb ?_
    refine zj ?_
    refine ⟨x,z0y (ByteArray.mk #[]) A.fs,_,rfl,?_,?_,?_,⟨inferInstance,trivial⟩,(hs.pick [1]),.inr rfl⟩
    ·rw [zbi,List.length_map];have:=hok0.many;omega
    ·rw [zbi,List.all_map,List.all_eq_true]
     exact λf hf=>z5x.2 ⟨f,hf,rfl⟩
    ·rw [zbi];exact zy2 A.fs
   ·refine zj ?_
    refine ⟨nx,ns,r,rfl,hlen,hall,zw0 (λe=>by subst e;simp at hpl;omega) A.fs,⟨inferInstance,trivial⟩,hs,.inl ⟨rfl,hns,trivial⟩⟩
  clear hs
  rintro _ w ⟨nx1,ns1,r1,rfl,hlen1,hall1,hmark,-,hs,hr1⟩
  refine zm ?_
  have hR1:FocR r1 nx1 1 (ns1.flatMap z27):=by
   rcases hr1 with ⟨rfl,h,-⟩|rfl
   ·exact h
   ·infer_instance
  have hsub:∀ {H:HP} {w:World},Sat w (H::r1)->Sat w (H::r):=λ{H w} h=>by
   rcases hr1 with ⟨rfl,-⟩|rfl
   ·exact h
   ·exact h.sub
  have hpl1:=hs.slen nx1 (xs:=ns1) (enc:=z27)
  refine zf (λv w'=>Sat w' (dk d { A with fs:=A.fs.map (z2u ns1) }::r1)) ?_ ?_
  ·refine z03 (λk v w=>∃ i:Nat,v=((i:Int),())/\i<=ns1.length/\ns1.length-i=k/\Sat w (dk d { A with fs:=A.fs.map (z2u (ns1.take i)) }::r1)) ns1.length ⟨0,rfl,by omega,rfl,by rw [List.take_zero,zvz,List.map_id];exact hs⟩ ?_
   clear hs
   rintro k _ w ⟨i,rfl,hi,hk,hs⟩
   refine zm ?_
   refine ze (λhc=>?_) λhc=>?_
   ·have hil:i<ns1.length:=by omega
    refine z22 hs i hil ?_
    obtain ⟨m,FS,hp,hok,hs⟩:=z24 hs
    (repeat (first|with_reducible (first|refine zm ?_|refine zg ?_|refine z0k ?_|refine za hs ?_|refine zk hs ?_|refine zd ?_|refine zx hs λ_ hs=>?_|refine zq hs λ_ _ hs=>?_|refine zn hs λ_ _ hs=>?_|refine z07 hs λ_ hs=>?_|refine zr hs λ_ hs=>?_)|(apply wp_must;(focus first|trivial|omega|assumption))|refine z19 ?_|refine wp_lt ?_))
    refine z7a hs (λb hb=>?_) λhb=>?_
    ·obtain ⟨t,ht,rfl,hnm,hA⟩:=z8o hp hb
     obtain ⟨FS',hpm,hs⟩:=z70 hs ht
     obtain ⟨h1,h2,-⟩:=apart hp hok hpm
     (repeat (first|with_reducible (first|refine zm ?_|refine zg ?_|refine z0k ?_|refine za hs ?_|refine zk hs ?_|refine zd ?_|refine zx hs λ_ hs=>?_|refine zq hs λ_ _ hs=>?_|refine zn hs λ_ _ hs=>?_|refine z07 hs λ_ hs=>?_|refine zr hs λ_ hs=>?_)|(apply wp_must;(focus first|trivial|omega|assumption))|refine z19 ?_|refine wp_lt ?_))
     rw [hs.slen t.x (xs:=t.f.b) (enc:=zi)] at hs
     have hs:=z6b (FS:=FS') ⟨t.at_,t.x,z8h t.f⟩ hs
     have hs:Sat _ (z1c ekS evF m (((⟨t.at_,t.x,z8h t.f⟩:FileM)::FS').map λt=>(t.f.name,t.at_))::_):=(hs.pick [2]).mapPerm (hpm.map λt=>(t.f.name,t.at_))
     have hstep:(A.fs.map (z2u (ns1.take i))).map (z1q t.f.name z8h)=A.fs.map (z2u (ns1.take (i+1))):=by
      rw [List.map_map,List.take_add_one,List.getElem?_eq_getElem hil]
      refine List.map_congr_left λf _=>?_
      show z1q t.f.name z8h (z2u _ f)=_
      rw [zsb,hnm];rfl
     have hp':(((⟨t.at_,t.x,z8h t.f⟩:FileM)::FS').map FileM.f).Perm (A.fs.map (z2u (ns1.take (i+1)))):=by
      rw [<- hstep]
      exact (z6p (g:=z8h) h1 h2).symm
     refine z2z (us':=[.int .i64 ((i+1:Nat):Int)]) (by (try simp (disch:=omega) only [w64]);first|rfl|(congr;omega)) ?_
     refine z11 (ns1.length-(i+1)) ?_
     refine ⟨i+1,rfl,by omega,rfl,?_⟩
     exact z26 m (A:={ A with fs:=A.fs.map (z2u (ns1.take (i+1))) }) hp' (zqk hok0 (zbg _) (zh7 _) (zsa _)) hs (by rw [zbq (zh7 _),zbq (zh7 _)])
    ·exfalso
     have h3:=z5y.2 (z7f hp hb)
     have h4:z1y A.fs ns1[i]=true:=List.all_eq_true.1 hall1 _ (List.getElem_mem hil)
     rw [zxp (zbg _),h4] at h3
     cases h3
   ·refine zh (zj ?_)
    rwa [List.take_of_length_le (by omega)] at hs
  clear hs
  rintro _ w hs
  refine zm ?_
  rw [hmark] at hs
  obtain ⟨m,FS,hp,hok,hs⟩:=z24 (hsub hs)
  have hs:Sat w (pt d (.cells #[.int .i64 A.left,.bool A.gone,.int .i64 A.room,.int .i64 (used (A.fs.map (z3z ns))),.map (some m)] T.a8)::_):=hs
  (repeat (first|with_reducible (first|refine zm ?_|refine zg ?_|refine z0k ?_|refine za hs ?_|refine zk hs ?_|refine zd ?_|refine zx hs λ_ hs=>?_|refine zq hs λ_ _ hs=>?_|refine zn hs λ_ _ hs=>?_|refine z07 hs λ_ hs=>?_|refine zr hs λ_ hs=>?_)|(apply wp_must;(focus first|trivial|omega|assumption))|refine z19 ?_|refine wp_lt ?_))
  rw [hg] at hs
  refine z8 (zbo (l':=r) (A:=A) hg hok hp hs) λ_ _ hs=>?_
  obtain ⟨rfl,hs⟩:=hs
  refine zb ?_
  exact ⟨rfl,rfl,hs⟩
end
theorem zff {a b:List FileA} (h:a.Sublist b):used a<=used b:=by
 induction h with
 | slnil=>exact Nat.le_refl _
 | cons x _ ih=>rw [z1h];omega
 | cons_cons x _ ih=>rw [z1h,z1h];omega
theorem z03j {A:DiskA} (hok:okA A) {fs:List FileA} (h:fs.Sublist A.fs):okA { A with fs:=fs } :=
 ⟨hok.room,Nat.le_trans (zff h) hok.used,Nat.le_trans h.length_le hok.many,hok.left,hok.sorted.sublist h,λf hf=>hok.kept f (h.mem hf),λf hf=>hok.names f (h.mem hf)⟩
def z02 (fs:List FileA) (n:ByteArray):Option (List UInt8 × Nat):=(fs.find? λf=>decide (f.name=n)).map λf=>(f.b,f.kept)
theorem zi8 (n:ByteArray):z02 [] n=none:=rfl
theorem z2f (f:FileA) (fs:List FileA) (n:ByteArray):z02 (f::fs) n=if f.name=n then some (f.b,f.kept) else z02 fs n:=by
 unfold z02
 rw [List.find?_cons]
 by_cases h:f.name=n
 ·simp [h]
 ·simp [h]
theorem zb7 {fs:List FileA} {n:ByteArray}:z02 fs n=none↔∀ f ∈ fs,f.name≠n:=by
 unfold z02
 rw [Option.map_eq_none_iff,List.find?_eq_none]
 simp
theorem zcd {fs:List FileA} {f:FileA} (hn:(fs.map (·.name)).Nodup) (h:f ∈ fs):z02 fs f.name=some (f.b,f.kept):=by
 unfold z02
 rw [z9u hn h rfl]
 rfl
theorem zru {fs:List FileA} {n:ByteArray} {p:List UInt8 × Nat} (h:z02 fs n=some p):(⟨n,p.1,p.2⟩:FileA) ∈ fs:=by
 unfold z02 at h
 rw [Option.map_eq_some_iff] at h
 obtain ⟨f,hf,rfl⟩:=h
 have h1:=List.mem_of_find?_eq_some hf
 have h2:=List.find?_some hf
 have h2:f.name=n:=by simpa using h2
 subst h2
 exact h1
theorem z4c {fs:List FileA} {n:ByteArray}:z1y fs n=(z02 fs n).isSome:=by
 unfold z1y z02
 rw [Option.isSome_map,Bool.eq_iff_iff,List.any_eq_true,List.find?_isSome]
theorem zs6 {fs:List FileA} {n:ByteArray} {p:List UInt8 × Nat} (h:z02 fs n=some p):zkv fs n=p.1.length:=by
 unfold z02 at h
 unfold zkv
 cases hf:fs.find? λf=>decide (f.name=n) with
 | none=>rw [hf] at h;cases h
 | some f=>rw [hf] at h;simp only [Option.map_some,Option.some.injEq] at h;subst h;rfl
theorem zce (n:ByteArray) (g:FileA->FileA) (hg:∀ f,(g f).name=f.name) (m:ByteArray):∀ fs:List FileA,
  z02 (fs.map (z1q n g)) m=if m=n then (z02 fs n).map λp=>((g ⟨n,p.1,p.2⟩).b,(g ⟨n,p.1,p.2⟩).kept) else z02 fs m
 | []=>by simp [zi8]
 | f::fs=>by
  rw [List.map_cons,z2f,zce n g hg m fs,z2f,z2f,z66 hg]
  by_cases h1:m=n
  ·subst h1
   rw [if_pos rfl,if_pos rfl]
   by_cases h2:f.name=m
   ·rw [if_pos h2,if_pos h2]
    subst h2
    unfold z1q
    rw [if_pos rfl]
    rfl
   ·rw [if_neg h2,if_neg h2]
  ·rw [if_neg h1,if_neg h1]
   by_cases h2:f.name=m
   ·rw [if_pos h2,if_pos h2]
    unfold z1q
    rw [if_neg (by rw [h2];exact h1)]
   ·rw [if_neg h2,if_neg h2]
theorem zi7 (x:FileA) (m:ByteArray):∀ {fs:List FileA},(∀ f ∈ fs,f.name≠x.name)->z02 (z43 x fs) m=if m=x.name then some (x.b,x.kept) else z02 fs m
 | [],_=>by
  show z02 [x] m=_
  rw [z2f]
  by_cases h:m=x.name
  ·rw [if_pos h.symm,if_pos h]
  ·rw [if_neg h,if_neg λe=>h e.symm]
 | f::fs,h=>by
  have hf:=h f (List.mem_cons_self ..)
  have ih:=zi7 x m (fs:=fs) λg hg=>h g (List.mem_cons_of_mem _ hg)
  unfold z43
  split
  ·rw [z2f]
   by_cases h:m=x.name
   ·rw [if_pos h.symm,if_pos h]
   ·rw [if_neg h,if_neg λe=>h e.symm]
  ·rw [z2f,ih,z2f]
   by_cases h:m=x.name
   ·subst h;simp [hf]
   ·rw [if_neg h,if_neg h]
theorem zfs (n m:ByteArray):∀ fs:List FileA,z02 (z3w n fs) m=if m=n then none else z02 fs m
 | []=>by simp [z3w,zi8]
 | f::fs=>by
  have ih:=zfs n m fs
  unfold z3w at ih ⊢
  rw [List.filter_cons]
  by_cases h:f.name=n
  ·rw [if_neg (by simp [h]),ih,z2f]
   by_cases h2:m=n
   ·rw [if_pos h2,if_pos h2]
   ·rw [if_neg h2,if_neg h2,if_neg (by rw [h];exact λe=>h2 e.symm)]
  ·rw [if_pos (by simp [h]),z2f,ih,z2f]
   by_cases h2:m=n
   ·subst h2;simp [h]
   ·rw [if_neg h2,if_neg h2]
theorem zft (ns:List ByteArray) (m:ByteArray):∀ fs:List FileA,z02 (fs.map (z3z ns)) m=(z02 fs m).map λp=>if zb1 ns m then (p.1,p.1.length) else p
 | []=>rfl
 | f::fs=>by
  have hn:(z3z ns f).name=f.name:=by unfold z3z;split <;> rfl
  rw [List.map_cons,z2f,zft ns m fs,z2f,hn]
  by_cases h:f.name=m
  ·subst h
   rw [if_pos rfl,if_pos rfl]
   unfold z3z
   split
   ·rename_i h;simp [h]
   ·rename_i h;simp [h]
  ·rw [if_neg h,if_neg h]
theorem z8m {A:DiskA} {n:ByteArray} {bs:List UInt8} (h:(z08 A n bs).1≠0):(z08 A n bs).2=A:=by
 unfold z08 at h ⊢
 split
 ·rfl
 ·split
  ·rfl
  ·split
   ·rfl
   ·rename_i h1 h2 h3
    rw [if_neg h1,if_neg h2,if_neg h3] at h
    exact absurd rfl h
theorem z9s {A:DiskA} {n:ByteArray} {bs:List UInt8} (hok:okA A) (h:(z08 A n bs).1=0):A.gone=false/\z5a n=true/\bs.length<=A.free/\okA (z08 A n bs).2 /\
  (z08 A n bs).2.room=A.room/\used (z08 A n bs).2.fs=used A.fs+bs.length /\
  ∀ m,z02 (z08 A n bs).2.fs m=if m=n then some (((z02 A.fs n).map Prod.fst).getD []++bs,((z02 A.fs n).map Prod.snd).getD 0) else z02 A.fs m:=by
 unfold z08 at h ⊢
 split at h
 ·cases h
 rename_i h1
 split at h
 ·cases h
 rename_i h2
 split at h
 ·cases h
 rename_i h3
 rw [if_neg h1,if_neg h2,if_neg h3]
 have hn:z5a n=true:=by simpa using h2
 have h4:=zg5 hok hn (bs:=bs) (by omega) (λhh=>h3 (.inr hh))
 refine ⟨by simpa using h1,hn,by omega,z9c h4,by rw [z8n],?_,λm=>?_⟩
 ·rw [z3e]
  show used (if z1y A.fs n=true then _ else _)=_
  have hnd:=z2q hok.sorted
  split
  ·rename_i hh
   obtain ⟨f,hf,rfl⟩:=z5x.1 hh
   obtain ⟨s,u,hsu⟩:=List.append_of_mem hf
   have hp:A.fs.Perm (f::(s++u)):=by rw [hsu];exact List.perm_middle
   have hne:∀ g ∈ s++u,g.name≠f.name:=λg hg e=>by
    have h5:=(hp.map (·.name)).nodup_iff.1 hnd
    rw [List.map_cons,List.nodup_cons] at h5
    exact h5.1 (List.mem_map.2 ⟨g,hg,e⟩)
   rw [zbr hp hne,z3q hp,z1h,List.length_append]
   omega
  ·rw [z3q (z61 _ _),z1h]
   show bs.length+_=_
   omega
 ·rw [z3e]
  show z02 (if z1y A.fs n=true then _ else _) m=_
  split
  ·rename_i hh
   rw [zce n (λf=>{ f with b:=f.b++bs }) (λf=>rfl)]
   by_cases hm:m=n
   ·rw [if_pos hm,if_pos hm]
    rw [z4c] at hh
    obtain ⟨p,hp⟩:=Option.isSome_iff_exists.1 hh
    rw [hp]
    rfl
   ·rw [if_neg hm,if_neg hm]
  ·rename_i hh
   have hh:z1y A.fs n=false:=by simpa using hh
   rw [zi7 _ _ (z5y.1 hh)]
   by_cases hm:m=n
   ·rw [if_pos hm,if_pos hm,zb7.2 (z5y.1 hh)]
    rfl
   ·rw [if_neg hm,if_neg hm]
theorem zfc {A:DiskA} {n:ByteArray}:((z1s A [n]).1=0/\A.gone=false/\(z02 A.fs n).isSome=true/\(z1s A [n]).2=z2e { A with fs:=A.fs.map (z3z [n]) })\/((z1s A [n]).1=9/\A.gone=true/\(z1s A [n]).2=A)\/((z1s A [n]).1=3/\A.gone=false/\z02 A.fs n=none/\(z1s A [n]).2=A):=by
 unfold z1s
 split
 ·exact .inr (.inl ⟨rfl,by assumption,rfl⟩)
 ·rename_i h
  have hg:A.gone=false:=by simpa using h
  split
  ·rename_i h2
   refine .inr (.inr ⟨rfl,hg,?_,rfl⟩)
   simp only [List.all_cons,List.all_nil,Bool.and_true] at h2
   rw [z4c] at h2
   cases hq:z02 A.fs n with
   | none=>rfl
   | some q=>rw [hq] at h2;cases h2
  ·rename_i h2
   refine .inl ⟨rfl,hg,?_,rfl⟩
   simp only [List.all_cons,List.all_nil,Bool.and_true] at h2
   rw [z4c] at h2
   cases hq:z02 A.fs n with
   | none=>rw [hq] at h2;exact absurd rfl h2
   | some q=>rfl
theorem zy9 {A:DiskA} (hok:okA A) (ns:List ByteArray):okA { A with fs:=A.fs.map (z3z ns) } :=
 zqk hok (λf=>by unfold z3z;split <;> rfl) (λf=>by unfold z3z;split <;> rfl) (λf h=>by unfold z3z;split;exact Nat.le_refl _;exact h)
theorem zut (n m:ByteArray):zb1 [n] m=decide (n=m):=by
 unfold zb1
 simp
theorem zr2 {A:DiskA} {n:ByteArray} (hok:okA A) (h:(z1s A [n]).1=0):A.gone=false/\okA (z1s A [n]).2/\(z1s A [n]).2.room=A.room/\used (z1s A [n]).2.fs=used A.fs/\(z1s A [n]).2.fs.length=A.fs.length /\
  ∀ m,z02 (z1s A [n]).2.fs m=(z02 A.fs m).map λp=>if n=m then (p.1,p.1.length) else p:=by
 rcases zfc (A:=A) (n:=n) with ⟨h1,h2,h3,h4⟩|⟨h1,-,-⟩|⟨h1,-,-,-⟩
 ·rw [h4]
  refine ⟨h2,z9c (zy9 hok _),by rw [z8n],?_,?_,λm=>?_⟩
  ·rw [z3e]
   exact zbq λf=>by unfold z3z;split <;> rfl
  ·rw [z3e]
   exact List.length_map ..
  ·rw [z3e]
   show z02 (A.fs.map (z3z [n])) m=_
   rw [zft]
   congr 1
   funext p
   rw [zut]
   by_cases hm:n=m <;> simp [hm]
 ·rw [h1] at h;cases h
 ·rw [h1] at h;cases h
theorem z05v {A:DiskA} {n:ByteArray} (hok:okA A) (h:(z10 A n).1=0):A.gone=false/\okA (z10 A n).2/\(z10 A n).2.room=A.room/\used (z10 A n).2.fs<=used A.fs/\(z10 A n).2.fs.length<=A.fs.length/\(z02 A.fs n).isSome=true /\
  ∀ m,z02 (z10 A n).2.fs m=if m=n then none else z02 A.fs m:=by
 unfold z10 at h ⊢
 split at h
 ·cases h
 rename_i h1
 split at h
 ·cases h
 rename_i h2
 rw [if_neg h1,if_neg h2]
 refine ⟨by simpa using h1,z9c (z03j hok (List.filter_sublist ..)),by rw [z8n],?_,?_,?_,λm=>?_⟩
 ·rw [z3e];exact zff (List.filter_sublist ..)
 ·rw [z3e];exact zv8 _ _
 ·rw [<- z4c];simpa using h2
 ·rw [z3e];exact zfs n m A.fs
theorem zwg {A:DiskA} {n:ByteArray} (hf:(z02 A.fs n).isSome=true):((z10 A n).1=0/\A.gone=false)\/((z10 A n).1=9/\A.gone=true/\(z10 A n).2=A):=by
 unfold z10
 split
 ·exact .inr ⟨rfl,by assumption,rfl⟩
 ·rename_i h
  rw [if_neg (by rw [z4c,hf];simp)]
  exact .inl ⟨rfl,by simpa using h⟩
theorem z04v {A:DiskA} {n:ByteArray} {k:Int} (hok:okA A) (h:(cutA' A n k).1=0):A.gone=false/\okA (cutA' A n k).2/\(cutA' A n k).2.room=A.room/\(cutA' A n k).2.fs.length=A.fs.length /\
  ∀ m,z02 (cutA' A n k).2.fs m=if m=n then (z02 A.fs n).map (λp=>(p.1.take k.toNat,min p.2 k.toNat)) else z02 A.fs m:=by
 unfold cutA' at h ⊢
 split at h
 ·cases h
 rename_i h1
 split at h
 ·cases h
 rename_i h2
 split at h
 ·cases h
 rename_i h3
 rw [if_neg h1,if_neg h2,if_neg h3]
 have hnd:=z2q hok.sorted
 have hup:okA { A with fs:=A.fs.map (z1q n λf=>{ f with b:=f.b.take k.toNat,kept:=min f.kept k.toNat }) }:=by
  refine ⟨hok.room,?_,?_,hok.left,z8v (λf=>z66 (g:=λf=>{ f with b:=f.b.take k.toNat,kept:=min f.kept k.toNat }) (λ_=>rfl) f) hok.sorted,λf hf=>?_,λf hf=>?_⟩
  ·refine Nat.le_trans ?_ hok.used
   show used (A.fs.map _)<=used A.fs
   generalize A.fs=fs
   induction fs with
   | nil=>exact Nat.le_refl _
   | cons f fs ih =>
    rw [List.map_cons,z1h,z1h]
    have:(z1q n (λf=>{ f with b:=f.b.take k.toNat,kept:=min f.kept k.toNat }) f).b.length<=f.b.length:=by
     unfold z1q
     split
     ·show (f.b.take _).length<=_;rw [List.length_take];omega
     ·exact Nat.le_refl _
    omega
  ·show (A.fs.map _).length<=_;rw [List.length_map];exact hok.many
  ·obtain ⟨g,hg,rfl⟩:=List.mem_map.1 hf
   have:=hok.kept g hg
   unfold z1q
   split
   ·show min g.kept _<=(g.b.take _).length;rw [List.length_take];omega
   ·exact this
  ·obtain ⟨g,hg,rfl⟩:=List.mem_map.1 hf
   rw [z66 (g:=λf=>{ f with b:=f.b.take k.toNat,kept:=min f.kept k.toNat }) (λ_=>rfl)]
   exact hok.names g hg
 refine ⟨by simpa using h1,z9c hup,by rw [z8n],by rw [z3e];exact List.length_map ..,λm=>?_⟩
 rw [z3e]
 show z02 (A.fs.map _) m=_
 rw [zce n (λf=>{ f with b:=f.b.take k.toNat,kept:=min f.kept k.toNat }) (λf=>rfl)]
theorem zv6 {A:DiskA} {n:ByteArray} {k:Int} {p:List UInt8 × Nat} (hf:z02 A.fs n=some p) (hk:0<=k/\k<=p.1.length):((cutA' A n k).1=0/\A.gone=false)\/((cutA' A n k).1=9/\A.gone=true/\(cutA' A n k).2=A):=by
 unfold cutA'
 split
 ·exact .inr ⟨rfl,by assumption,rfl⟩
 ·rename_i h
  rw [if_neg (by rw [z4c,hf];simp),if_neg (by rw [zs6 hf];omega)]
  exact .inl ⟨rfl,by simpa using h⟩
def z41 (e:EntA):List Value:=[.int .i64 e.offset,.int .i64 e.place,.int .i64 e.before]
instance:EncA z41 [.int .i64,.int .i64,.int .i64] (λe=>(e.offset,e.place,e.before,())):=⟨λ_=>rfl⟩
instance:EncN z41 3:=⟨λ_=>rfl,by decide,by simp [z41,Value.oneCell']⟩
instance:EncF z41 0 (.int .i64) (λe=>e.offset):=⟨λ_=>rfl⟩
instance:EncF z41 1 (.int .i64) (λe=>e.place):=⟨λ_=>rfl⟩
instance:EncF z41 2 (.int .i64) (λe=>e.before):=⟨λ_=>rfl⟩
structure okX (X:IdxA):Prop where
 gap:1<=X.gap/\X.gap<=4194304
 place : -1<=X.place/\X.place<=4194304
 ent:∀ e ∈ X.l,0<=e.place/\e.place<=X.place
 len:(X.l.length:Int)<=X.place+1
def z2d (b:Nat) (X:IdxA):HP:=HP.ex λz:Sl=>HP.and (okX X) (HP.star (pt b (.cells #[.int .i64 X.offset,.int .i64 X.place,.int .i64 X.late,.int .i64 X.gap,.slice z.a z.len z.cap] T.a11)) (slc T.a10 3 z (X.l.flatMap z41)))
section
variable {w:World} {l r:List HP} {b:Nat} {X:IdxA}
theorem zen (hs:Sat w (z2d b X::l)):∃ z:Sl,okX X/\Sat w (pt b (.cells #[.int .i64 X.offset,.int .i64 X.place,.int .i64 X.late,.int .i64 X.gap,.slice z.a z.len z.cap] T.a11)::slc T.a10 3 z (X.l.flatMap z41)::l):=by
 obtain ⟨z,hs⟩:=hs.ex
 obtain ⟨h,hs⟩:=hs.and
 exact ⟨z,h,hs.star⟩
theorem z89 (X:IdxA) {z:Sl} (h:okX X) (hs:Sat w (pt b (.cells #[.int .i64 X.offset,.int .i64 X.place,.int .i64 X.late,.int .i64 X.gap,.slice z.a z.len z.cap] T.a11)::slc T.a10 3 z (X.l.flatMap z41)::l)):Sat w (z2d b X::l) :=
 .ex_mk z (.and_mk h (.star_mk hs))
theorem z092 {gap:Int} (h:1<=gap/\gap<=4194304):okX (zcp gap):=⟨h,by show -1<=(-1:Int)/\(-1:Int)<=4194304;omega,(λ_ h=>by cases h),by show (0:Int) <= -1+1;omega⟩
theorem z059 (gap:Int) (h:1<=gap/\gap<=4194304) (hs:Sat w l):Ret P F.a61 #[.int .i64 gap] w λvs w'=>∃ b,vs=[.pointer (some ⟨b,0,none⟩),.int .i64 0]/\Sat w' (z2d b (zcp gap)::l) :=
 zub gap <| by
  delta z07o Ac Ad Ai An Av Az
  refine zy ?_
  refine zn hs λa w' hs=>?_
  refine ⟨rfl,a,rfl,?_⟩
  have h0:Sat w' (slc T.a10 3 ⟨none,0,0⟩ ((zcp gap).l.flatMap z41)::_):=hs.slc_nil
  exact z89 (zcp gap) (z:=⟨none,0,0⟩) (z092 h) (h0.pick [1])
theorem z058 (o p t:Int) (hs:Sat w l):Ret P F.a62 #[.int .i64 o,.int .i64 p,.int .i64 t] w λvs w'=>vs=[.bool (decide (zbh o p t))]/\Sat w' l :=
 zuc o p t <| by
  delta z07p Ag An
  refine wp_lt ?_
  refine ⟨rfl,?_,hs⟩
  congr 2
  rw [Bool.eq_iff_iff,decide_eq_true_iff (p:=zbh o p t)]
  unfold zbh
  simp only [Bool.and_eq_true,decide_eq_true_eq]
  constructor
  ·rintro ⟨⟨⟨⟨⟨h1,h2⟩,h3⟩,h4⟩,h5⟩,h6⟩
   exact ⟨⟨h1,h2⟩,⟨h3,h4⟩,h5,h6⟩
  ·rintro ⟨⟨h1,h2⟩,⟨h3,h4⟩,h5,h6⟩
   exact ⟨⟨⟨⟨⟨h1,h2⟩,h3⟩,h4⟩,h5⟩,h6⟩
theorem zyc {X:IdxA} (h:okX X) {o p t:Int} (hm:zbh o p t) (h2:¬ (o<=X.offset\/p<=X.place)):okX ⟨o,p,max X.late t,X.gap,z4g X o p⟩:=by
 obtain ⟨h3,h4,h5,h6⟩:=h
 obtain ⟨-,hp,-⟩:=hm
 refine ⟨h3,by show -1<=p/\p<=4194304;omega,λe he=>?_,?_⟩
 ·show 0<=e.place/\e.place<=p
  have he:e ∈ z4g X o p:=he
  unfold z4g at he
  split at he
  ·rcases List.mem_append.1 he with he|he
   ·have:=h5 e he;omega
   ·simp at he;subst he;simp only;omega
  ·have:=h5 e he;omega
 ·show ((z4g X o p).length:Int)<=p+1
  unfold z4g
  split
  ·rw [List.length_append];simp only [List.length_cons,List.length_nil];omega
  ·omega
theorem z05k (o p t:Int) (ho : -9223372036854775808<=o/\o<9223372036854775808) (hp : -9223372036854775808<=p/\p<9223372036854775808) [hf:Fo l z2d b X r] (hs:Sat w l) :
  Ret P F.a59 #[.pointer (some ⟨b,0,none⟩),.int .i64 o,.int .i64 p,.int .i64 t] w λvs w'=>vs=[.int .i64 (z9y X o p t).1]/\Sat w' (z2d b (z9y X o p t).2::r) :=
 zu9 _ o p t <| by
  delta z07m AA AE AG AI AJ AK AO AP AQ AX AZ Ac Af Ai Al Am An Aq Au Ba Be Bw
  have hs:=hs.perm hf.perm
  refine wp_lt ?_
  refine zy ?_ (by simp)
  refine z8 (z058 o p t hs) λ_ w' hs=>?_
  obtain ⟨rfl,hs⟩:=hs
  refine zb ?_
  refine wp_lt ?_
  unfold z9y
  refine ze (λh=>?_) λh=>?_
  ·have h:¬ zbh o p t:=by simpa using h
   rw [if_pos h]
   exact ⟨rfl,rfl,hs⟩
  have h:zbh o p t:=by simpa using h
  rw [if_neg (λhh=>hh h)]
  obtain ⟨z,hok,hs⟩:=zen hs
  have hl:=hs.slen z (xs:=X.l) (enc:=z41)
  refine zg ?_
  refine za hs ?_
  refine z0k ?_
  refine za hs ?_
  refine wp_lt ?_
  refine ze (λh2=>?_) λh2=>?_
  ·rw [if_pos h2]
   exact ⟨rfl,rfl,z89 X hok hs⟩
  rw [if_neg h2]
  have hok2:=zyc hok h h2
  have hlen:=hok.len
  have hpl:=hok.place
  refine zg ?_
  refine za hs ?_
  refine wp_lt ?_
  refine zx hs λw' hs=>?_
  refine z0k ?_
  refine za hs ?_
  have hgl:∀ (h0:X.l≠[]),X.l.getLast? = some (X.l[X.l.length-1]'(by have:=List.length_pos_iff.2 h0;omega)):=λh0=>by
   have:=List.length_pos_iff.2 h0
   rw [List.getLast?_eq_getElem?,List.getElem?_eq_getElem (by omega)]
  refine zbt (xs:=X.l) (enc:=z41) hs (match X.l.getLast? with|none=>0|some e=>e.place) (λhg=>?_) ?_
  ·have h0:X.l≠[]:=by
    rintro h0
    rw [h0] at hl
    rw [hl] at hg
    cases hg
   have:=List.length_pos_iff.2 h0
   refine ⟨X.l.length-1,by omega,?_,?_⟩
   ·rw [w64 (by omega) (by omega)];omega
   ·rw [hgl h0]
  refine z0k ?_
  refine za hs ?_
  refine zd ?_
  refine zf (λ_ w'=>∃ z':Sl,Sat w' (pt b (.cells #[.int .i64 X.offset,.int .i64 X.place,.int .i64 X.late,.int .i64 X.gap,.slice z'.a z'.len z'.cap] T.a11)::slc T.a10 3 z' ((z4g X o p).flatMap z41)::r)) ?_ ?_
  ·have hnew:zy5 X p=true↔(((z.len:Nat):Int)=0\/IntKind.wrap .i64 (p-match X.l.getLast? with|none=>0|some e=>e.place)>=X.gap):=by
    unfold zy5
    by_cases h0:X.l=[]
    ·rw [h0]
     simp only [List.getLast?_nil,true_iff]
     left
     rw [hl,h0];rfl
    ·rw [hgl h0]
     have hlp:=List.length_pos_iff.2 h0
     have hb:=hok.ent _ (List.getElem_mem (show X.l.length-1<X.l.length by omega))
     simp only [decide_eq_true_eq]
     rw [w64 (by omega) (by omega)]
     omega
   unfold z4g
   refine ze (λh3=>?_) λh3=>?_
   ·rw [if_pos (hnew.2 h3)]
    refine zf (λq w'=>∃ z':Sl,q=(z',())/\Sat w' (slc T.a10 3 z' ((X.l++[(⟨o,p,X.late⟩:EntA)]).flatMap z41)::pt b (.cells #[.int .i64 X.offset,.int .i64 X.place,.int .i64 X.late,.int .i64 X.gap,.slice z.a z.len z.cap] T.a11)::r)) ?_ ?_
    ·refine zx hs λw' hs=>?_
     refine zg ?_
     refine z18 hs ?_
     refine zg ?_
     refine za hs ?_
     refine z6j hs (enc:=z41) [(⟨o,p,X.late⟩:EntA)] λy w' hs=>⟨(by first|trivial|(repeat (first|exact trivial|exact λ_=>z09 hs|exact λ_=>z0m hs|refine And.intro ?_ ?_))),?_⟩
     refine zd ?_
     refine wp_app' (xs:=X.l) (ys:=[(⟨o,p,X.late⟩:EntA)]) (enc:=z41) hs (λz' w' hs=>?_) (by simp only [List.length_cons,List.length_nil];omega)
     refine zd ?_
     exact zj ⟨z',rfl,hs.sub⟩
    ·rintro _ w2 ⟨z',rfl,hs⟩
     refine zg ?_
     refine z07 hs λw' hs=>?_
     exact zj ⟨z',hs.sub⟩
   ·rw [if_neg λhh=>h3 (hnew.1 hh)]
    exact zj ⟨z,hs⟩
  rintro _ w2 ⟨z',hs⟩
  refine zg ?_
  refine za hs ?_
  refine zg ?_
  have e:(if t>X.late then t else X.late)=max X.late t:=by split <;> omega
  rw [e]
  have hA:(Addr.add ⟨b,0,none⟩ 0)=⟨b,0,none⟩:=rfl
  rw [hA]
  refine z06h hs (by rfl) (by rfl) (by simp [Value.oneCell']) λw' hs=>⟨trivial,?_⟩
  refine ⟨rfl,rfl,?_⟩
  exact z89 ⟨o,p,max X.late t,X.gap,z4g X o p⟩ (z:=z') hok2 hs
theorem z02u (i:Int) (hi:i<X.l.length) [hf:Fo l z2d b X r] (hs:Sat w l) :
  Ret P F.a60 #[.pointer (some ⟨b,0,none⟩),.int .i64 i] w λvs w'=>vs=[.agg (z41 (if i<0 then ⟨0,0,0⟩ else X.l.getD i.toNat ⟨0,0,0⟩)).toArray,.bool (decide (0<=i))]/\Sat w' (z2d b X::r) :=
 zua _ i <| by
  delta z07n AA AO Ai Al An Ao Ar As Au
  have hs:=hs.perm hf.perm
  refine zq hs λa w' hs=>?_
  refine ze (λh=>?_) λh=>?_
  ·refine zr hs λw' hs=>?_
   refine zk hs ?_
   rw [if_pos h]
   refine ⟨rfl,?_,hs.tail⟩
   rw [decide_eq_false (by omega)]
   rfl
  ·refine zg ?_
   obtain ⟨z,hok,hs⟩:=zen (hs.pick [1])
   refine za hs ?_
   refine z4l hs (xs:=X.l) (enc:=z41) i.toNat (by omega) ?_
   refine zr hs λw' hs=>?_
   refine zk hs ?_
   rw [if_neg h]
   refine ⟨rfl,?_,z89 X (z:=z) hok hs.sub⟩
   rw [decide_eq_true (by omega),List.getD_eq_getElem?_getD,List.getElem?_eq_getElem (by omega)]
   rfl
theorem zfa (n : Nat) (hn : n < 4611686018427387904) (f : FuncId) (cap : Array Value) (p : Nat → Bool) (hok : (P.funcs[f]?).any (fun fn => fn.body.isSome && fn.name != "runtime.NumGoroutine") = true)
  (hp:∀ (i:Nat) (w:World),i<n->Sat w l->Ret P f (#[.int .i64 (i:Int)]++cap) w λvs w'=>vs=[.bool (p i)]/\Sat w' l) (hs:Sat w l) :
  Ret P F.a213 #[.int .i64 (n:Int),.func (.func f) #[] cap] w λvs w'=>∃ i:Nat,i<=n/\(0<i->p (i-1)=false)/\(i<n->p i=true)/\vs=[.int .i64 (i:Int)]/\Sat w' l :=
 zoz _ _ <| by
  delta z01z AM Ac Af Ai An Ap Aq BK Bu
  refine wp_lt ?_
  refine zf (λq w'=>∃ i:Nat,i<=n/\(0<i->p (i-1)=false)/\(i<n->p i=true)/\q=((i:Int),())/\Sat w' l) ?_ ?_
  rotate_left
  ·rintro _ w' ⟨i,h1,h2,h3,rfl,hs⟩
   refine wp_lt ?_
   exact ⟨rfl,i,h1,h2,h3,rfl,hs⟩
  refine z03 (λm v w=>∃ i j:Nat,v=((i:Int),((j:Int),()))/\i<=j/\j<=n/\j-i=m/\(0<i->p (i-1)=false)/\(j<n->p j=true)/\Sat w l) n ⟨0,n,rfl,by omega,by omega,rfl,(λh=>by omega),(λh=>by omega),hs⟩ ?_
  clear hs
  rintro m _ w ⟨i,j,rfl,hij,hjn,hm,h1,h2,hs⟩
  refine zm ?_
  refine ze (λhc=>?_) λhc=>?_
  rotate_left
  ·have:i=j:=by omega
   subst this
   exact zh (zj ⟨i,hjn,h1,h2,rfl,hs⟩)
  have hc:i<j:=by omega
  have e:IntKind.wrap .i64 (Int.fdiv (IntKind.wrap .u64 (IntKind.wrap .i64 ((i:Int)+j))) 2)=(((i+j) / 2:Nat):Int):=by
   rw [w64 (x:=(i:Int)+j) (by omega) (by omega),zma (by omega) (by omega)]
   have:Int.fdiv ((i:Int)+j) 2=(((i+j) / 2:Nat):Int):=by
    rw [Int.fdiv_eq_ediv_of_nonneg _ (by omega)]
    omega
   rw [this,w64 (by omega) (by omega)]
  refine z23 (y:=(((i+j) / 2:Nat):Int)) ?_ e
  refine zww hok (p ((i+j) / 2),()) (hp ((i+j) / 2) w (by omega) hs) rfl λw' hs=>⟨trivial,?_⟩
  refine zm ?_
  refine z50 ?_
  refine ze (λh3=>?_) λh3=>?_
  ·have h3:p ((i+j) / 2)=false:=by simpa using h3
   refine z23 (y:=(((i+j) / 2+1:Nat):Int)) ?_ (by rw [w64 (by omega) (by omega)];omega)
   refine z4s ?_
   refine z11 (j-((i+j) / 2+1)) ⟨(i+j) / 2+1,j,rfl,by omega,hjn,rfl,λ_=>by rw [Nat.add_sub_cancel];exact h3,h2,hs⟩
  ·have h3:p ((i+j) / 2)=true:=by simpa using h3
   refine wp_lt ?_
   refine z4s ?_
   refine z11 ((i+j) / 2-i) ⟨i,(i+j) / 2,rfl,by omega,by omega,rfl,h1,λ_=>h3,hs⟩
theorem z02y (i:Nat) (a0 a1:Nat) (o:Int) {r1 r2:List HP} {z:Sl} (hi:i<X.l.length) [h0:FocB l a0 (.cells [.pointer (some ⟨b,0,none⟩)].toArray T.a29) r1] [h1:FocB l a1 (.cells [.int .i64 o].toArray T.a14) r2]
  [h2:FocB l b (.cells [.int .i64 X.offset,.int .i64 X.place,.int .i64 X.late,.int .i64 X.gap,.slice z.a z.len z.cap].toArray T.a11) r] [h3:FocR l z 3 (X.l.flatMap z41)] (hs:Sat w l) :
  Ret P F.a58 #[.int .i64 (i:Int),.pointer (some ⟨a0,0,none⟩),.pointer (some ⟨a1,0,none⟩)] w λvs w'=>vs=[.bool (decide (X.l[i].offset>o))]/\Sat w' l :=
 zu8 _ _ _ <| by
  delta z07l AA AG AI AO AP Ag Al An BA Cc
  refine zx hs λw' hs=>?_
  refine za hs ?_
  refine zg ?_
  refine za hs ?_
  refine zwy hs (xs:=X.l) (enc:=z41) i hi ?_
  refine za hs ?_
  refine wp_lt ?_
  refine zd ?_
  exact ⟨rfl,rfl,hs⟩
def orE (o:Option EntA):EntA:=o.getD ⟨0,0,0⟩
theorem zv7 {l:List EntA} {i:Nat} (hi:i<=l.length):(if ((i:Int)-1)<0 then (⟨0,0,0⟩:EntA) else l.getD ((i:Int)-1).toNat ⟨0,0,0⟩)=orE (l.take i).getLast? /\ decide (0<=(i:Int)-1)=(l.take i).getLast?.isSome:=by
 rw [zws hi]
 by_cases h:i=0
 ·subst h;exact ⟨rfl,rfl⟩
 ·rw [if_neg h,if_neg (by omega),List.getD_eq_getElem?_getD,show ((i:Int)-1).toNat=i-1 by omega,List.getElem?_eq_getElem (by omega)]
  exact ⟨rfl,decide_eq_true (by omega)⟩
theorem z04z (o:Int) (hm:X.l.Pairwise λa b=>a.offset<b.offset) [hf:Fo l z2d b X r] (hs:Sat w l) :
  Ret P F.a57 #[.pointer (some ⟨b,0,none⟩),.int .i64 o] w λvs w'=>vs=[.agg (z41 (orE (z33 X.l o))).toArray,.bool (z33 X.l o).isSome]/\Sat w' (z2d b X::r) :=
 zu7 _ o <| by
  delta z07k AA AG AI AO Ac Ad Ag Ah Ai Aj Al An Ao Aq Ar As Au Av Az B0
  have hs:=hs.perm hf.perm
  refine zn hs λa0 w' hs=>?_
  refine zn hs λa1 w' hs=>?_
  refine zq hs λa2 w' hs=>?_
  refine za hs ?_
  refine zy ?_ (by simp)
  refine zf (λq w'=>q=((z33 X.l o).isSome,())/\Sat w' (pt a2 (.cells [.int .i64 (orE (z33 X.l o)).offset,.int .i64 (orE (z33 X.l o)).place,.int .i64 (orE (z33 X.l o)).before].toArray T.a10)::z2d b X::r)) ?_ ?_
  rotate_left
  ·rintro _ w2 ⟨rfl,hs⟩
   refine zk hs ?_
   exact ⟨rfl,rfl,hs.tail⟩
  obtain ⟨z,hok,hs⟩:=zen (hs.pick [3])
  have hl:=hs.slen z (xs:=X.l) (enc:=z41)
  have hlen:=hok.len
  have hpl:=hok.place
  refine zx hs λw' hs=>?_
  refine z18 hs ?_
  refine za hs ?_
  refine zg ?_
  refine za hs ?_
  rw [hl]
  refine z8 (zfa X.l.length (by omega) F.a58 #[.pointer (some ⟨a0,0,none⟩),.pointer (some ⟨a1,0,none⟩)] (λi=>decide ((X.l.getD i ⟨0,0,0⟩).offset>o)) (by kernel_rfl) (λi w hi hs=>?_) hs) λ_ w' hs=>?_
  ·have e:X.l.getD i ⟨0,0,0⟩=X.l[i]:=by rw [List.getD_eq_getElem?_getD,List.getElem?_eq_getElem hi];rfl
   simp only [e]
   exact z02y (X:=X) i a0 a1 o hi hs
  obtain ⟨i,hi,h1,h2,rfl,hs⟩:=hs
  refine zb ?_ (by first|trivial|(repeat (first|exact trivial|exact λ_=>z09 hs|exact λ_=>z0m hs|refine And.intro ?_ ?_)))
  refine zd ?_
  rw [w64 (by omega) (by omega)]
  replace hs:Sat _ (z2d b X::pt a2 (.cells [.int .i64 0,.int .i64 0,.int .i64 0].toArray T.a10)::pt a0 (.cells [.pointer (some ⟨b,0,none⟩)].toArray T.a29)::r):=z89 X (z:=z) hok hs.sub
  refine z8 (z02u (b:=b) ((i:Int)-1) (by omega) hs) λ_ w' hs=>?_
  obtain ⟨rfl,hs⟩:=hs
  have hcut:z33 X.l o=(X.l.take i).getLast? := by
   unfold z33
   rw [zgc hi (hm.imp λ{a b} hab=>by simp only [decide_eq_true_eq];omega)]
   ·intro h h0
    have:=h1 h0
    rw [List.getD_eq_getElem?_getD,List.getElem?_eq_getElem h] at this
    have:decide (X.l[i-1].offset>o)=false:=this
    simpa using this
   ·intro h
    have:=h2 h
    rw [List.getD_eq_getElem?_getD,List.getElem?_eq_getElem h] at this
    have:decide (X.l[i].offset>o)=true:=this
    simpa using this
  obtain ⟨c1_,c2_⟩:=zv7 (l:=X.l) hi
  rw [c1_,c2_,<- hcut]
  refine ⟨((orE (z33 X.l o)).offset,(orE (z33 X.l o)).place,(orE (z33 X.l o)).before,(z33 X.l o).isSome,()),rfl,(by first|trivial|(repeat (first|exact trivial|exact λ_=>z09 hs|exact λ_=>z0m hs|refine And.intro ?_ ?_))),z004 _ _ _ _ ?_⟩
  refine zr hs λw' hs=>?_
  refine wp_lt ?_
  refine zd ?_
  exact zj ⟨rfl,hs.sub⟩
end
structure SegM where
 ix:Nat
 s:SegA
structure LogM where
 d:Nat
 pre:ByteArray
 seg:Int
 gap:Int
 z:Sl
 SM:List (Nat × SegM)
structure LogA where
 d:Nat
 pre:ByteArray
 seg:Int
 gap:Int
 l:List SegA
def LogM.l (M:LogM):List SegA:=M.SM.map λt=>t.2.s
def LogM.A (M:LogM):LogA:=⟨M.d,M.pre,M.seg,M.gap,M.l⟩
def z1p (b:Nat):List Value:=[.pointer (some ⟨b,0,none⟩)]
instance:Enc1 z1p .ptr (λb=>some ⟨b,0,none⟩):=⟨λ_=>rfl⟩
instance:EncN z1p 1:=⟨λ_=>rfl,by decide,by simp [z1p,Value.oneCell']⟩
def z0o (gap:Int) (a:Nat) (t:SegM):HP:=HP.star (pt a (.cells #[.pointer (some ⟨t.ix,0,none⟩),.int .i64 t.s.base,.int .i64 t.s.fin,.int .i64 (z0d t.s.bs),.int .i64 (z1e (-1) t.s.bs),.int .i64 (t.s.file.length:Nat)] T.a49)) (z2d t.ix (t.s.idx gap))
structure okM (gap seg:Int) (pre:ByteArray):Prop where
 gap:1<=gap/\gap<=4194304
 seg:64<=seg/\seg<=4194304
 pre:z3o pre=true
def lgQ (lg:Nat) (M:LogM):HP:=HP.and (okM M.gap M.seg M.pre) (HP.star (pt lg (.cells #[.pointer (some ⟨M.d,0,none⟩),.string M.pre,.int .i64 M.seg,.int .i64 M.gap,.slice M.z.a M.z.len M.z.cap] T.a48))
 (HP.star (slc T.a33 1 M.z ((M.SM.map Prod.fst).flatMap z1p)) (HP.all (M.SM.map λt=>z0o M.gap t.1 t.2))))
def lgP (lg:Nat) (A:LogA):HP:=HP.ex λM:LogM=>HP.and (M.A=A) (lgQ lg M)
def zyo:Option Nat->Option Addr
 | none=>none
 | some b=>some ⟨b,0,none⟩
section
variable {w:World} {l r:List HP} {lg:Nat} {M:LogM} {A:LogA} {gap:Int} {a:Nat} {t:SegM}
theorem z3v (hs:Sat w (z0o gap a t::l)):Sat w (pt a (.cells #[.pointer (some ⟨t.ix,0,none⟩),.int .i64 t.s.base,.int .i64 t.s.fin,.int .i64 (z0d t.s.bs),.int .i64 (z1e (-1) t.s.bs),.int .i64 (t.s.file.length:Nat)] T.a49)::z2d t.ix (t.s.idx gap)::l):=hs.star
theorem z2p (t:SegM) (hs:Sat w (pt a (.cells #[.pointer (some ⟨t.ix,0,none⟩),.int .i64 t.s.base,.int .i64 t.s.fin,.int .i64 (z0d t.s.bs),.int .i64 (z1e (-1) t.s.bs),.int .i64 (t.s.file.length:Nat)] T.a49)::z2d t.ix (t.s.idx gap)::l)):Sat w (z0o gap a t::l):=.star_mk hs
theorem z2t (hs:Sat w (lgQ lg M::l)):okM M.gap M.seg M.pre/\Sat w (pt lg (.cells #[.pointer (some ⟨M.d,0,none⟩),.string M.pre,.int .i64 M.seg,.int .i64 M.gap,.slice M.z.a M.z.len M.z.cap] T.a48)::slc T.a33 1 M.z ((M.SM.map Prod.fst).flatMap z1p)::HP.all (M.SM.map λt=>z0o M.gap t.1 t.2)::l):=by
 obtain ⟨h,hs⟩:=hs.and
 have hs:=hs.star
 exact ⟨h,((hs.pick [1]).star).pick [2]⟩
theorem z1n (M:LogM) (h:okM M.gap M.seg M.pre) (hs:Sat w (pt lg (.cells #[.pointer (some ⟨M.d,0,none⟩),.string M.pre,.int .i64 M.seg,.int .i64 M.gap,.slice M.z.a M.z.len M.z.cap] T.a48)::slc T.a33 1 M.z ((M.SM.map Prod.fst).flatMap z1p)::HP.all (M.SM.map λt=>z0o M.gap t.1 t.2)::l)):Sat w (lgQ lg M::l):=by
 refine .and_mk h (.star_mk ?_)
 exact ((hs.pick [1,1]).star_mk).pick [1]
theorem z7o (hs:Sat w (lgP lg A::l)):∃ M:LogM,M.A=A/\Sat w (lgQ lg M::l):=by
 obtain ⟨M,hs⟩:=hs.ex
 obtain ⟨h,hs⟩:=hs.and
 exact ⟨M,h,hs⟩
theorem z4d (M:LogM) (hs:Sat w (lgQ lg M::l)):Sat w (lgP lg M.A::l):=.ex_mk M (.and_mk rfl hs)
theorem zih:∀ (j n:Nat),z2x (j+1) n=z5z (n / 16 ^ j % 16)::z2x j n
 | 0,n=>by simp [z2x]
 | j+1,n=>by
  show z2x (j+1) (n / 16)++[z5z (n % 16)]=_
  rw [zih j (n / 16)]
  have e:n / 16 / 16 ^ j=n / 16 ^ (j+1):=by rw [Nat.div_div_eq_div_mul,Nat.pow_succ,Nat.mul_comm]
  rw [e]
  rfl
theorem z045 (k:Nat) (c:UInt8):∀ (xs:List UInt8),(List.replicate (k+1) (0:UInt8)++xs).set k c=List.replicate k 0++c::xs:=by
 induction k with
 | zero=>intro xs;rfl
 | succ k ih=>intro xs;rw [List.replicate_succ,List.cons_append,List.set_cons_succ,ih,List.replicate_succ,List.cons_append]
theorem z081 (n:Nat) (h:n<18446744073709551616):BitVec.toNat (BitVec.ofInt 64 (n:Int) &&& BitVec.ofInt 64 15)=n % 16:=by
 rw [BitVec.ofInt_natCast,BitVec.toNat_and,BitVec.toNat_ofNat,Nat.mod_eq_of_lt h]
 show n &&& 15=n % 16
 exact Nat.and_two_pow_sub_one_eq_mod n 4
theorem z04q {k:Nat} (h:k<16):bt (ByteArray.mk #[48,49,50,51,52,53,54,55,56,57,97,98,99,100,101,102]) (k:Int)=(((z5z k).toNat:Nat):Int):=by
 have:∀ k:Fin 16,bt (ByteArray.mk #[48,49,50,51,52,53,54,55,56,57,97,98,99,100,101,102]) (k.val:Int)=(((z5z k.val).toNat:Nat):Int):=by decide +kernel
 exact this ⟨k,h⟩
theorem z06g {P:Program} {t el:TypeId} {bytes:Nat} {Q:Post} {S:World->Prop} {k:Sl->Prog} [ht:SlT P t el 1 bytes] [hz:Zer P el (.int .u8 0)] (n:Nat) (hs:Sat w l) (h:∀ x w',Sat w' (slc el 1 x ((List.replicate n (0:UInt8)).flatMap zi)::l)->(k x).wp P S w' Q) (hb:n*bytes<=281474976710656/\n<=9223372036854775807) (hS:∀ w',S w':=by exact λ_=>trivial) :
  (Prog.act (Instr.makeSlice t (.int .i64 (n:Int)) (.int .i64 (n:Int))) sL (u1 k)).wp P S w Q:=by
 obtain ⟨i,z,hi,h2,h3,h4,h5⟩:=ht.parts
 have hz':z=.int .u8 0:=by
  have:=hz.ok
  unfold z9n at this
  rw [hi] at this
  simp only at this
  rw [h4] at this
  exact Option.some.inj this
 have hrun:=run_make (P:=P) w t el i z ht.ok.1 hi h4 .i64 .i64 n n (by omega) (Int.le_refl _) (by rw [h3,<- Int.natCast_mul,Nat.mul_comm];omega) (by omega)
 simp only [Int.toNat_natCast] at hrun
 have hp:=hs.push (o:=.cells (madeCells z.cells (n*i.size)) el) (w':=w.alloc (.cells (madeCells z.cells (n*i.size)) el)) rfl
 refine ⟨(⟨some ⟨w.heap.size,0,none⟩,n,n⟩,()),_,hrun,hS _,h ⟨some ⟨w.heap.size,0,none⟩,n,n⟩ _ ?_⟩
 refine hp.imp λp hp=>.inr ⟨w.heap.size,0,_,_,rfl,hp,by rw [z3t,List.length_replicate],Nat.le_refl _,by rw [size_madeCells,h2];simp,λj hj=>?_,z2i _ _⟩
 rw [z3t,List.length_replicate,Nat.mul_one] at hj
 rw [h2,Nat.mul_one,Nat.zero_add,z9v,hz']
 have e1:(madeCells (Value.int .u8 0).cells n)[j]? = some (.int .u8 0):=by
  rw [Array.getElem?_eq_getElem (by rw [size_madeCells];exact hj)]
  simp [madeCells,Value.cells,Nat.mod_one]
 rw [e1,List.getElem?_map,List.getElem?_replicate,if_pos hj]
 rfl
theorem z7r (base:Int) (h:0<=base/\base<17592186044416) (x:ByteArray) (hx:x.size<=100) {d_:Value} {seg gp:Value} {zz:Value} (pre:ByteArray) (hp:pre.size<=100) [hf:FocB l lg (.cells [d_,.string pre,seg,gp,zz].toArray T.a48) r] (hs:Sat w l) :
  Ret P F.a150 #[.pointer (some ⟨lg,0,none⟩),.int .i64 base,.string x] w λvs w'=>vs=[.string (zl pre base (bl x))]/\Sat w' l :=
 zo2 _ base x <| by
  delta z01f AA AC AE AG AI AJ AK AM Ab Ac Af Ai Al An Aq
  refine z06g 11 hs (λz w' hs=>?_) (by omega)
  refine zf (λ_ w'=>Sat w' (slc T.a52 1 z ((z2x 11 base.toNat).flatMap zi)::l)) ?_ ?_
  ·refine z03 (λm v w=>∃ j:Nat,v=(((base.toNat / 16 ^ j:Nat):Int),((10-(j:Int)),()))/\j<=11/\11-j=m/\Sat w (slc T.a52 1 z ((List.replicate (11-j) 0++z2x j base.toNat).flatMap zi)::l)) 11 ⟨0,by rw [Nat.pow_zero,Nat.div_one,Int.toNat_of_nonneg h.1];rfl,by omega,rfl,by simpa [z2x] using hs⟩ ?_
   clear hs
   rintro m _ w ⟨j,rfl,hj,hm,hs⟩
   refine zm ?_
   refine ze (λhc=>?_) λhc=>?_
   rotate_left
   ·have:j=11:=by omega
    subst this
    exact zh (zj (by simpa using hs))
   have hj2:j<=10:=by omega
   have hb:base.toNat / 16 ^ j<18446744073709551616:=by
    have:=Nat.div_le_self base.toNat (16 ^ j)
    omega
   have hmod:=Nat.mod_lt (base.toNat / 16 ^ j) (show 0<16 by omega)
   rw [z081 _ hb,w64 (by omega) (by omega)]
   refine wp_must (by omega) ?_
   rw [z04q hmod]
   refine z06f hs (xs:=List.replicate (11-j) 0++z2x j base.toNat) (enc:=zi) (10-j) (by rw [List.length_append,List.length_replicate];omega) (z5z (base.toNat / 16 ^ j % 16)) λw' hs=>?_
   refine z23 (y:=((base.toNat / 16 ^ (j+1):Nat):Int)) ?_ ?_
   ·refine z23 (y:=10-((j+1:Nat):Int)) ?_ (by rw [w64 (by omega) (by omega)];omega)
    refine z11 (11-(j+1)) ⟨j+1,rfl,by omega,rfl,?_⟩
    have e:=z045 (10-j) (z5z (base.toNat / 16 ^ j % 16)) (z2x j base.toNat)
    rw [show 10-j+1=11-j by omega] at e
    rw [e,<- zih] at hs
    rw [show 11-(j+1)=10-j by omega]
    exact hs
   ·rw [z7n _ (by omega)]
    show ((base.toNat / 16 ^ j / 16:Nat):Int)=_
    rw [Nat.div_div_eq_div_mul,<- Nat.pow_succ]
  clear hs
  rintro _ w hs
  refine zm ?_
  refine zx hs λw' hs=>?_
  refine zg ?_
  refine za hs ?_
  refine wp_must (by omega) ?_
  refine zx0 (bs:=z2x 11 base.toNat) hs ?_
  have h11:=z6v 11 base.toNat
  have s1:(pre++ByteArray.mk #[45]).size=pre.size+1:=ByteArray.size_append ..
  have s2:(ByteArray.mk (z2x 11 base.toNat).toArray).size=11:=h11
  refine wp_must (by omega) ?_
  have s3:(pre++ByteArray.mk #[45]++ByteArray.mk (z2x 11 base.toNat).toArray).size=pre.size+12:=by rw [ByteArray.size_append,s1,s2]
  refine wp_must (by omega) ?_
  refine wp_lt ?_
  refine zd ?_
  refine ⟨rfl,?_,hs.tail⟩
  congr 2
  apply zc7
  rw [z7m]
  unfold bl
  simp only [ByteArray.data_append,Array.toList_append,List.append_assoc]
  rfl
theorem z093 {a d:Nat} (hd:d<16) (ha:a<576460752303423488):BitVec.toNat (BitVec.ofInt 64 ((a:Int)*16) ||| BitVec.ofInt 64 (d:Int))=16*a+d:=by
 have e:(a:Int)*16=((16*a:Nat):Int):=by omega
 rw [e,BitVec.ofInt_natCast,BitVec.ofInt_natCast,BitVec.toNat_or,BitVec.toNat_ofNat,BitVec.toNat_ofNat,Nat.mod_eq_of_lt (show 16*a<2 ^ 64 by omega),Nat.mod_eq_of_lt (show d<2 ^ 64 by omega)]
 exact (Nat.two_pow_add_eq_or_of_lt (i:=4) hd a).symm
theorem zh2:∀ {r:List UInt8} {x v k:Nat},z3l x r=some v->x<16 ^ k->v<16 ^ (k+r.length)
 | [],x,v,k,h,hx=>by simp [z3l] at h;subst h;simpa using hx
 | c::r,x,v,k,h,hx=>by
  unfold z3l at h
  cases hd:z60 c with
  | none=>rw [hd] at h;cases h
  | some d =>
   rw [hd] at h
   have hd:=(z056 hd).2
   have:=zh2 (k:=k+1) h (by rw [Nat.pow_succ];omega)
   rw [List.length_cons,show k+(r.length+1)=k+1+r.length by omega]
   exact this
theorem zb4 (s:ByteArray) (i j:Nat):bl (s.extract i j)=((bl s).drop i).take (j-i):=by
 unfold bl
 rw [ByteArray.data_extract,Array.toList_extract,List.extract_eq_take_drop]
theorem zpp (n x:ByteArray) (hn:n.size<=1000) (hx:x.size<=100) {d_:Value} {seg gp:Value} {zz:Value} (pre:ByteArray) (hp:pre.size<=100) [hf:FocB l lg (.cells [d_,.string pre,seg,gp,zz].toArray T.a48) r] (hs:Sat w l) :
  Ret P F.a144 #[.pointer (some ⟨lg,0,none⟩),.string n,.string x] w λvs w'=>vs=[.int .i64 (((z1d pre n (bl x)).getD 0:Nat):Int),.bool (z1d pre n (bl x)).isSome]/\Sat w' l :=
 znx _ n x <| by
  delta z01a AA AC AE AM Ac Af Ag Ai Al An Ap Aq BN BO Ba
  refine zg ?_
  refine za hs ?_
  have e1:IntKind.wrap .i64 (((ByteArray.size pre:Nat):Int)+1)=((pre.size+1:Nat):Int):=by rw [w64 (by omega) (by omega)];omega
  have e2:IntKind.wrap .i64 (((pre.size+1:Nat):Int)+11)=((pre.size+12:Nat):Int):=by rw [w64 (by omega) (by omega)];omega
  have e3:IntKind.wrap .i64 (((pre.size+12:Nat):Int)+((ByteArray.size x:Nat):Int))=((pre.size+12+x.size:Nat):Int):=by rw [w64 (by omega) (by omega)];omega
  rw [e1]
  refine wp_lt ?_
  rw [e2,e3]
  refine wp_must ?_ ?_
  ·intro h
   have h:((n.size:Nat):Int)=((pre.size+12+x.size:Nat):Int):=by simpa using h
   omega
  have hb:z1d pre n (bl x)=if n.size=pre.size+12+x.size/\(bl n).drop (pre.size+12)=bl x then z3l 0 (((bl n).drop (pre.size+1)).take 11) else none:=by
   unfold z1d
   rw [z1g,z1g,z1g]
  refine ze (λh=>?_) λh=>?_
  ·have:z1d pre n (bl x)=none:=by
    rw [hb,if_neg]
    rintro ⟨h1,h2⟩
    rcases h with h|h
    ·apply h;rw [h1]
    ·apply h
     rw [Int.toNat_natCast]
     apply zc7
     rw [zb4,h2,List.take_of_length_le]
     rw [z1g];omega
   rw [this]
   exact ⟨rfl,rfl,hs⟩
  have h1:n.size=pre.size+12+x.size:=by
   have:¬ (((n.size:Nat):Int)≠((pre.size+12+x.size:Nat):Int)):=λhh=>h (.inl hh)
   omega
  have h2:(bl n).drop (pre.size+12)=bl x:=by
   have h3:ByteArray.extract n (pre.size+12) n.size=x:=by
    apply Decidable.byContradiction
    intro hh
    exact h (.inr (by rw [Int.toNat_natCast];exact hh))
   rw [<- h3,zb4,List.take_of_length_le]
   rw [List.length_drop,z1g];omega
  rw [if_pos ⟨h1,h2⟩] at hb
  refine wp_must (by omega) ?_
  rw [Int.toNat_natCast,Int.toNat_natCast]
  have h4:(ByteArray.extract n (pre.size+1) (pre.size+12)).data.toList=((bl n).drop (pre.size+1)).take 11:=by
   have:=zb4 n (pre.size+1) (pre.size+12)
   rw [show pre.size+12-(pre.size+1)=11 by omega] at this
   exact this
  refine zm9 hs λy w' hs=>?_
  rw [h4] at hs
  generalize hcs:((bl n).drop (pre.size+1)).take 11=cs at *
  have hcl:cs.length=11:=by rw [<- hcs,List.length_take,List.length_drop,z1g];omega
  have hl:=hs.slen y (xs:=cs) (enc:=zi)
  rw [hb]
  refine zf (λq w'=>∃ v:Nat,z3l 0 cs=some v/\q=((v:Int),())/\Sat w' l) ?_ ?_
  rotate_left
  ·rintro _ w2 ⟨v,hv,rfl,hs⟩
   refine wp_lt ?_
   rw [hv]
   exact ⟨rfl,rfl,hs⟩
  refine z03 (λm q w=>∃ i v:Nat,q=((v:Int),((i:Int),()))/\i<=11/\11-i=m/\z3l 0 (cs.take i)=some v/\Sat w (slc T.a52 1 y (cs.flatMap zi)::l)) 11 ⟨0,0,rfl,by omega,rfl,rfl,hs⟩ ?_
  clear hs
  rintro m _ w ⟨i,v,rfl,hi,hm,hv,hs⟩
  refine zm ?_
  refine ze (λhc=>?_) λhc=>?_
  rotate_left
  ·refine zh (zj ⟨v,?_,rfl,hs.tail⟩)
   rwa [List.take_of_length_le (by omega)] at hv
  have hil:i<cs.length:=by omega
  have hvl:=zh2 (k:=0) hv (by omega)
  rw [List.length_take] at hvl
  have hvl2:v<1152921504606846976 / 16:=by
   have h5:16 ^ (0+min i cs.length)<=16 ^ 10:=Nat.pow_le_pow_right (by omega) (by omega)
   omega
  have hstep:z3l 0 (cs.take (i+1))=(z60 cs[i]).map λd=>16*v+d:=by
   rw [List.take_succ_eq_append_getElem hil,zem,hv]
   show z3l v [cs[i]]=_
   unfold z3l
   cases z60 cs[i] <;> rfl
  have hcut:∀ j,z3l 0 (cs.take j)=none->z3l 0 cs=none:=λj hj=>by
   rw [<- List.take_append_drop j cs,zem,hj];rfl
  refine z22 hs (xs:=cs) (enc:=zi) i hil ?_
  refine wp_lt ?_
  refine wp_lt ?_
  have hgo:∀ {w:World} (d:Nat),z60 cs[i]=some d->Sat w (slc T.a52 1 y (cs.flatMap zi)::l)->∃ i' v':Nat,((((16*v+d:Nat):Int),(((i+1:Nat):Int),())):Int × Int × Unit)=((v':Int),((i':Int),()))/\i'<=11/\11-i'=11-(i+1)/\z3l 0 (cs.take i')=some v'/\Sat w (slc T.a52 1 y (cs.flatMap zi)::l):=λd hd hs =>
   ⟨i+1,16*v+d,rfl,by omega,rfl,by rw [hstep,hd];rfl,hs⟩
  have hcb:=(cs[i]).toNat_lt
  have ei:IntKind.wrap .i64 ((i:Int)+1)=((i+1:Nat):Int):=by rw [w64 (by omega) (by omega)];omega
  refine zf (λq w'=>∃ d:Nat,z60 cs[i]=some d/\q=(((16*v+d:Nat):Int),())/\Sat w' (slc T.a52 1 y (cs.flatMap zi)::l)) ?_ ?_
  rotate_left
  ·rintro _ w2 ⟨d,hd,rfl,hs⟩
   rw [ei]
   exact z11 (11-(i+1)) (hgo d hd hs)
  have hor:∀ d:Nat,d<16->IntKind.wrap .i64 (((BitVec.toNat (BitVec.ofInt 64 (IntKind.wrap .i64 ((v:Int)*16)) ||| BitVec.ofInt 64 (d:Int)):Nat):Int))=((16*v+d:Nat):Int):=λd hd=>by
   rw [w64 (x:=(v:Int)*16) (by omega) (by omega),z093 hd (by omega),w64 (by omega) (by omega)]
  refine ze (λh5=>?_) λh5=>?_
  ·have hd:z60 cs[i]=some ((cs[i]).toNat-48):=by unfold z60;rw [if_pos (by omega)]
   have e5:IntKind.wrap .i64 (IntKind.wrap .u8 ((((cs[i]).toNat:Nat):Int)-48))=(((cs[i]).toNat-48:Nat):Int):=by
    rw [wu8 (by omega) (by omega),w64 (by omega) (by omega)];omega
   rw [e5]
   refine z23 (y:=((16*v+((cs[i]).toNat-48):Nat):Int)) ?_ (hor _ (by omega))
   exact zj ⟨_,hd,rfl,hs⟩
  refine wp_lt ?_
  refine ze (λh6=>?_) λh6=>?_
  ·have hd:z60 cs[i]=some ((cs[i]).toNat-87):=by unfold z60;rw [if_neg (by omega),if_pos (by omega)]
   have e5:IntKind.wrap .i64 (IntKind.wrap .u8 (IntKind.wrap .u8 ((((cs[i]).toNat:Nat):Int)-97)+10))=(((cs[i]).toNat-87:Nat):Int):=by
    rw [wu8 (x:=(((cs[i]).toNat:Nat):Int)-97) (by omega) (by omega),wu8 (by omega) (by omega),w64 (by omega) (by omega)];omega
   rw [e5]
   refine z23 (y:=((16*v+((cs[i]).toNat-87):Nat):Int)) ?_ (hor _ (by omega))
   exact zj ⟨_,hd,rfl,hs⟩
  ·have hd:z60 cs[i]=none:=by unfold z60;rw [if_neg (by omega),if_neg (by omega)]
   have hno:z3l 0 cs=none:=hcut (i+1) (by rw [hstep,hd];rfl)
   rw [hno]
   exact zh (zh (zh ⟨rfl,rfl,hs.tail⟩))
theorem zkq (base fin:Int) (hb:0<=base/\base<9223372036854775808) (hf:0<=fin/\fin<9223372036854775808) (hs:Sat w l):Ret P F.a158 #[.int .i64 base,.int .i64 fin] w λvs w'=>∃ z:Sl,vs=[z.v]/\Sat w' (slc T.a52 1 z ((shL base fin).flatMap zi)::l) :=
 zoa base fin <| by
  delta z01n AE Ak An
  refine zay hs (enc:=zi) [(83:UInt8)] λz1 w' hs=>?_
  refine z8 (z4z base hb hs) λ_ w' hs=>?_
  obtain ⟨z2,rfl,hs⟩:=hs
  refine zb ?_
  refine z8 (z4z fin hf hs) λ_ w' hs=>?_
  obtain ⟨z3,rfl,hs⟩:=hs
  refine zb ?_
  refine zay hs (enc:=z0e) [z1,z2,z3] λz4 w' hs=>?_
  have u1_:=z1u base
  have u2_:=z1u fin
  have f1:FocR (slc T.a46 1 z4 ([z1,z2,z3].flatMap z0e)::slc T.a52 1 z3 ((uI fin).flatMap zi)::slc T.a52 1 z2 ((uI base).flatMap zi)::slc T.a52 1 z1 (([83]:List UInt8).flatMap zi)::l) z1 1 (([83]:List UInt8).flatMap zi):=inferInstance
  have f2:FocR (slc T.a46 1 z4 ([z1,z2,z3].flatMap z0e)::slc T.a52 1 z3 ((uI fin).flatMap zi)::slc T.a52 1 z2 ((uI base).flatMap zi)::slc T.a52 1 z1 (([83]:List UInt8).flatMap zi)::l) z2 1 ((uI base).flatMap zi):=inferInstance
  have f3:FocR (slc T.a46 1 z4 ([z1,z2,z3].flatMap z0e)::slc T.a52 1 z3 ((uI fin).flatMap zi)::slc T.a52 1 z2 ((uI base).flatMap zi)::slc T.a52 1 z1 (([83]:List UInt8).flatMap zi)::l) z3 1 ((uI fin).flatMap zi):=inferInstance
  refine z8 (zq0 z4 [(z1,[83]),(z2,uI base),(z3,uI fin)] (λp hp=>?_) (by show 3<=1000000;omega) hs) λ_ w' hs=>?_
  ·simp only [List.mem_cons,List.not_mem_nil,or_false] at hp
   rcases hp with rfl|rfl|rfl
   ·exact ⟨f1,by show (1:Nat)<=_;omega⟩
   ·exact ⟨f2,by show (uI base).length<=_;omega⟩
   ·exact ⟨f3,by show (uI fin).length<=_;omega⟩
  obtain ⟨z5,rfl,hs⟩:=hs
  refine zb ?_
  refine ⟨rfl,z5,rfl,?_⟩
  have e:([(z1,[83]),(z2,uI base),(z3,uI fin)]:List (Sl × List UInt8)).flatMap Prod.snd=shB base fin:=by simp [shB]
  rw [e] at hs
  have hs:Sat _ (slc T.a52 1 z5 ((shL base fin).flatMap zi)::_):=hs
  exact hs.sub
theorem zxr (x:Sl) (body:List UInt8) (base:Int) (hb:0<=base/\base<9223372036854775808) [hx:FocR l x 1 (body.flatMap zi)] (hn:body.length<=1000000000) (hs:Sat w l) :
  Ret P F.a159 #[x.v,.int .i64 base] w λvs w'=>∃ v:Int,vs=[.int .i64 v,.bool (z5l base body).isSome]/\(∀ f,z5l base body=some f->v=f)/\Sat w' l :=
 zob x base <| by
  delta z01o Ac Ad Af Ag Ai Aj An Aq Ax Bi Bj
  refine z8 (zw2 x body hn hs) λ_ w' hs=>?_
  obtain ⟨p,rfl,hs⟩:=hs
  refine zb ?_
  refine z8 (zgy (p:=p) hs) λ_ _ hs=>?_
  obtain ⟨rfl,hs⟩:=hs
  refine zb ?_
  refine z8 (zhm (p:=p) hs) λ_ _ hs=>?_
  obtain ⟨rfl,hs⟩:=hs
  refine zb ?_
  refine z8 (zhm (p:=p) hs) λ_ _ hs=>?_
  obtain ⟨rfl,hs⟩:=hs
  refine zb ?_
  refine wp_lt ?_
  refine wp_lt ?_
  refine wp_lt ?_
  refine z8 (zvb (p:=p) hs) λ_ w' hs=>?_
  obtain ⟨e,rfl,he,hs⟩:=hs
  refine zb ?_
  have eh:z5l base body=if (z0l (z0l (z0v (some body)).2).2).2=some []/\(z0v (some body)).1=83/\((z0l (z0v (some body)).2).1:Int)=base/\base<=1099511627776/\(z0l (z0l (z0v (some body)).2).2).1<=1099511627776/\((z0l (z0l (z0v (some body)).2).2).1=0\/base<(z0l (z0l (z0v (some body)).2).2).1) then some ((z0l (z0l (z0v (some body)).2).2).1:Int) else none:=rfl
  generalize z5l base body=HS at eh he ⊢
  generalize z0v (some body)=k at eh he ⊢
  generalize z0l k.2=m at eh he ⊢
  generalize z0l m.2=q at eh he ⊢
  have ew:IntKind.wrap .u64 base=base:=zma (by omega) (by omega)
  rw [ew]
  refine ze (λh=>?_) λh=>?_
  ·have:HS=none:=by
    rw [eh,if_neg]
    rintro ⟨h1,h2,h3,h4,h5,-⟩
    have h6:=he.2 h1
    rcases h with (((h|h)|h)|h)|h
    ·exact h h6
    ·apply h;rw [h2];rfl
    ·exact h h3
    ·omega
    ·omega
   rw [this]
   exact ⟨rfl,0,rfl,(λf hf=>by cases hf),hs⟩
  have h1:q.2=some []:=he.1 (Decidable.byContradiction λhh=>h (.inl (.inl (.inl (.inl hh)))))
  have h2:k.1=83:=by
   have:((k.1:Nat):Int)=83:=Decidable.byContradiction λhh=>h (.inl (.inl (.inl (.inr hh))))
   omega
  have h3:((m.1:Nat):Int)=base:=Decidable.byContradiction λhh=>h (.inl (.inl (.inr hh)))
  have h4:base<=1099511627776:=by
   apply Decidable.byContradiction;intro hh;exact h (.inl (.inr (by omega)))
  have h5:q.1<=1099511627776:=by
   apply Decidable.byContradiction;intro hh;exact h (.inr (by omega))
  rw [w64 (by omega) (by omega)]
  refine wp_lt ?_
  refine wp_lt ?_
  refine ⟨rfl,((q.1:Nat):Int),?_,?_,hs⟩
  ·congr 2
   rw [eh]
   by_cases h6:q.1=0\/base<q.1
   ·rw [if_pos ⟨h1,h2,h3,h4,h5,h6⟩]
    have:(((q.1:Nat):Int) == 0 || decide (((q.1:Nat):Int)>base))=true:=by
     rw [Bool.or_eq_true,beq_iff_eq,decide_eq_true_eq];omega
    rw [this];rfl
   ·rw [if_neg λhh=>h6 hh.2.2.2.2.2]
    have:(((q.1:Nat):Int) == 0 || decide (((q.1:Nat):Int)>base))=false:=by
     rw [Bool.or_eq_false_iff,beq_eq_false_iff_ne,decide_eq_false_iff_not];omega
    rw [this];rfl
  ·intro f hf
   rw [eh] at hf
   split at hf
   ·exact Option.some.inj hf
   ·cases hf
theorem zst (x:Int) (rs:List RecM) (i:Nat) (hi:i<rs.length):z5p x (rs.take (i+1))=max (z5p x (rs.take i)) rs[i].time:=by
 rw [List.take_succ_eq_append_getElem hi]
 unfold z5p
 rw [List.foldl_append]
 rfl
theorem zxw (b:BatM) [hb:FocR l b.x 4 (b.rs.flatMap z04)] (hlen:b.rs.length<=1000000000) (hs:Sat w l):Ret P F.a160 #[.agg (zv b).toArray] w λvs w'=>vs=[.int .i64 (z35 b)]/\Sat w' l :=
 zoc b.base b.pid b.epoch b.seq b.kind b.time b.x <| by
  delta z01p AD AF AM AO AP Ac Af Ai Al An Ao Ap Aq Ar Av By
  have hl:=hs.slen b.x (xs:=b.rs) (enc:=z04)
  refine zn hs λa0 w' hs=>?_
  refine za hs ?_
  refine zf (λq w'=>q=(z5p (-1) b.rs,())/\Sat w' (pt a0 (.cells (cB b) T.a0)::l)) ?_ ?_
  ·refine z03 (λm v w=>∃ i:Nat,v=(z5p (-1) (b.rs.take i),((i:Int),()))/\i<=b.rs.length/\b.rs.length-i=m/\Sat w (pt a0 (.cells (cB b) T.a0)::l)) b.rs.length ⟨0,rfl,by omega,rfl,hs⟩ ?_
   clear hs
   rintro m _ w ⟨i,rfl,hi,hm,hs⟩
   refine zm ?_
   refine ze (λhc=>?_) λhc=>?_
   rotate_left
   ·refine zh (zj ⟨?_,hs⟩)
    rw [List.take_of_length_le (by omega)]
   have hil:i<b.rs.length:=by omega
   refine z4l hs (xs:=b.rs) (enc:=z04) i hil ?_
   refine zq hs λc w' hs=>?_
   refine zr hs λw' hs=>?_
   refine za hs ?_
   refine z23 (y:=z5p (-1) (b.rs.take (i+1))) ?_ (by rw [zst _ _ _ hil];split <;> omega)
   rw [wS (i:=i) (by omega)]
   exact z11 (b.rs.length-(i+1)) ⟨i+1,rfl,by omega,rfl,hs.sub⟩
  clear hs
  rintro _ w ⟨rfl,hs⟩
  refine zm ?_
  refine za hs ?_
  refine zf (λq w'=>q=(z35 b,())/\Sat w' (pt a0 (.cells (cB b) T.a0)::l)) ?_ ?_
  ·unfold z35
   refine ze (λh=>?_) λh=>?_
   ·refine za hs ?_
    refine wp_lt ?_
    refine zj ⟨?_,hs⟩
    rw [if_pos (List.length_eq_zero_iff.1 (by omega))]
   ·refine zj ⟨?_,hs⟩
    rw [if_neg (by rintro h0;rw [h0] at hl;simp at hl;omega)]
  rintro _ w2 ⟨rfl,hs⟩
  refine wp_lt ?_
  exact ⟨rfl,rfl,hs.tail⟩
theorem z05e (seg gap:Int) (hs:Sat w l):Ret P F.a161 #[.agg #[.int .i64 seg,.int .i64 gap]] w λvs w'=>vs=[.bool (decide ((64<=seg/\seg<=4194304)/\(1<=gap/\gap<=4194304)))]/\Sat w' l :=
 zod seg gap <| by
  delta z01q AP AQ AS Ag An Av
  refine zn hs λa0 w' hs=>?_
  refine za hs ?_
  refine za hs ?_
  refine za hs ?_
  refine za hs ?_
  refine wp_lt ?_
  refine ⟨rfl,?_,hs.tail⟩
  congr 2
  rw [Bool.eq_iff_iff,decide_eq_true_iff]
  simp only [Bool.and_eq_true,decide_eq_true_eq]
  omega
theorem zyn (s:ByteArray) (hs:Sat w l):Ret P F.a157 #[.string s] w λvs w'=>vs=[.bool (z3o s)]/\Sat w' l :=
 zo9 s <| by
  delta z01m AE AK AT Ac Ai Al An Aq BN BO
  unfold z3o
  refine ze (λh=>?_) λh=>?_
  ·rw [decide_eq_false (by omega),Bool.false_and]
   exact ⟨rfl,rfl,hs⟩
  rw [decide_eq_true (by omega),Bool.true_and]
  refine zm9 hs λx w' hs=>?_
  have hl:=hs.slen x (xs:=bl s) (enc:=zi)
  have hsz:=z1g s
  refine zf (λ_ w'=>((bl s).all λc=>(97<=c.toNat && c.toNat<=122) || (48<=c.toNat && c.toNat<=57))=true/\Sat w' l) ?_ ?_
  rotate_left
  ·rintro _ w2 ⟨h2,hs⟩
   rw [h2]
   exact ⟨rfl,rfl,hs⟩
  refine z03 (λm v w=>∃ i:Nat,v=((i:Int),())/\i<=(bl s).length/\(bl s).length-i=m/\(((bl s).take i).all λc=>(97<=c.toNat && c.toNat<=122) || (48<=c.toNat && c.toNat<=57))=true/\Sat w (slc T.a52 1 x ((bl s).flatMap zi)::l)) (bl s).length ⟨0,rfl,by omega,rfl,rfl,hs⟩ ?_
  clear hs
  rintro m _ w ⟨i,rfl,hi,hm,hall,hs⟩
  refine zm ?_
  refine ze (λhc=>?_) λhc=>?_
  rotate_left
  ·refine zh (zj ⟨?_,hs.tail⟩)
   rwa [List.take_of_length_le (by omega)] at hall
  have hil:i<(bl s).length:=by omega
  refine z22 hs (xs:=bl s) (enc:=zi) i hil ?_
  refine wp_lt ?_
  have hstep:(((bl s).take (i+1)).all λc=>(97<=c.toNat && c.toNat<=122) || (48<=c.toNat && c.toNat<=57))=((97<=(bl s)[i].toNat && (bl s)[i].toNat<=122) || (48<=(bl s)[i].toNat && (bl s)[i].toNat<=57)):=by
   rw [List.take_succ_eq_append_getElem hil,List.all_append,hall]
   simp
  refine z0r (λh3=>?_) λh3=>?_
  ·refine zh (zh ⟨rfl,?_,hs.tail⟩)
   have hf:((97<=(bl s)[i].toNat && (bl s)[i].toNat<=122) || (48<=(bl s)[i].toNat && (bl s)[i].toNat<=57))=false:=by
    rw [Bool.eq_false_iff]
    intro hh
    simp only [Bool.not_eq_true',Bool.or_eq_false_iff,Bool.and_eq_false_iff,decide_eq_false_iff_not] at h3
    simp only [Bool.or_eq_true,Bool.and_eq_true,decide_eq_true_eq] at hh
    omega
   have:((bl s).all λc=>(97<=c.toNat && c.toNat<=122) || (48<=c.toNat && c.toNat<=57))=false:=by
    rw [<- List.take_append_drop (i+1) (bl s),List.all_append,hstep,hf]
    rfl
   rw [this]
  ·rw [wS (i:=i) (by omega)]
   refine z11 ((bl s).length-(i+1)) ⟨i+1,rfl,by omega,rfl,?_,hs⟩
   rw [hstep]
   simp only [Bool.not_eq_false',Bool.or_eq_true,Bool.and_eq_true,decide_eq_true_eq] at h3
   simp only [Bool.or_eq_true,Bool.and_eq_true,decide_eq_true_eq]
   omega
end
instance (priority:=low) AddrIs.adds {a:Addr} {b off n:Nat} [h:AddrIs a b off]:AddrIs (a.add n) b (off+n):=⟨by rw [h.ok,z3g]⟩
section
variable {P:Program} {w:World} {Q:Post} {S:World->Prop}
theorem zsy {g:Prop} {o:Option Addr} {f:Addr->Prog} (h:(f ⟨0,0,none⟩).wp P S w Q) (hg:¬ g):(Prog.ex [.adr] (c1 λx=>g->o=some x) (u1 f)).wp P S w Q:=⟨(⟨0,0,none⟩,()),λh=>absurd h hg,h⟩
theorem zsx {g:Prop} {m:Sem Value} {p:Pr} {f:p.D->Prog} (x:p.D) (hg:¬ g) (h:(f x).wp P S w Q):(Prog.read g m (.one (.one p)) (u1 f)).wp P S w Q:=⟨(x,()),λh=>absurd h hg,h⟩
end
def SegA.add (s:SegA) (bs:List BatM):SegA:=⟨s.base,s.fin,s.bs++bs.map BatM.p⟩
theorem zgv (s:SegA):s.add []=s:=by unfold SegA.add;simp
theorem zpm (s:SegA) (a b:List BatM):(s.add a).add b=s.add (a++b):=by unfold SegA.add;simp
theorem zkm (bs:List BatM):(bs.map BatM.p).flatMap frL=bs.flatMap frL:=by
 rw [List.flatMap_map];rfl
theorem z6u (s:SegA) (bs:List BatM):(s.add bs).file=s.file++bs.flatMap frL:=by
 unfold SegA.file SegA.add
 simp only [List.flatMap_append,zkm,List.append_assoc]
theorem z036 (gap:Int) (s:SegA) (b:BatM):(s.add [b]).idx gap=(z9y (s.idx gap) b.base (s.file.length:Nat) (z35 b)).2:=by
 unfold SegA.idx SegA.add
 show zbc (zcp gap) _ (s.bs++[b.p])=_
 rw [zcq,z2k]
 rw [show ((((shL s.base s.fin).length+(s.bs.flatMap frL).length:Nat)):Int)=((shL s.base s.fin).length:Int)+((s.bs.flatMap frL).length:Int) by omega]
 rfl
theorem zaa {α β:Type} (f:α->β) (l:List α):(l.map f).getLast? = l.getLast?.map f:=by simp
section
variable {w:World} {l r:List HP} {lg:Nat} {M:LogM} {A:LogA} {gap:Int} {a:Nat} {t:SegM}
theorem z03w [hf:Fo l (z0o gap) a t r] (hs:Sat w l):Ret P F.a163 #[.pointer (some ⟨a,0,none⟩)] w λvs w'=>vs=[.int .i64 t.s.reach]/\Sat w' (z0o gap a t::r) :=
 zof _ <| by
  delta z01s AA AG AI AP Ac Af An
  have hs:=z3v (hs.perm hf.perm)
  refine zx hs λw' hs=>?_
  refine zg ?_
  refine za hs ?_
  refine zg ?_
  refine za hs ?_
  refine zg ?_
  refine za hs ?_
  refine z23 (y:=t.s.reach) ?_ (by unfold SegA.reach;split <;> split <;> omega)
  refine zd ?_
  exact ⟨rfl,rfl,z2p t hs⟩
theorem zl1 (base fin:Int) (hb:0<=base/\base<9223372036854775808) (hf':0<=fin/\fin<9223372036854775808) [hf:Fo l lgQ lg M r] (hs:Sat w l) :
  Ret P F.a154 #[.pointer (some ⟨lg,0,none⟩),.int .i64 base,.int .i64 fin] w λvs w'=>∃ a ix,vs=[.pointer (some ⟨a,0,none⟩)]/\Sat w' (z0o M.gap a ⟨ix,⟨base,fin,[]⟩⟩::lgQ lg M::r) :=
 zo6 _ base fin <| by
  delta z01j AA AP Ac Ad Af Ak Al An Av Aw Az
  obtain ⟨hok,hs⟩:=z2t (hs.perm hf.perm)
  refine zg ?_
  refine za hs ?_
  refine z8 (z059 M.gap hok.gap hs) λ_ w' hs=>?_
  obtain ⟨ix,rfl,hs⟩:=hs
  refine zb ?_
  refine wp_lt ?_
  refine z8 (zkq base fin hb hf' hs) λ_ w' hs=>?_
  obtain ⟨z,rfl,hs⟩:=hs
  refine zb ?_
  have hl:=hs.slen z (xs:=shL base fin) (enc:=zi)
  refine zn hs λa w' hs=>?_
  refine ⟨rfl,a,ix,rfl,?_⟩
  have hs:Sat w' (pt a (.cells #[.pointer (some ⟨ix,0,none⟩),.int .i64 base,.int .i64 fin,.int .i64 (z0d []),.int .i64 (z1e (-1) []),.int .i64 ((SegA.file ⟨base,fin,[]⟩).length:Nat)] T.a49)::slc T.a52 1 z ((shL base fin).flatMap zi)::z2d ix ((SegA.mk base fin []).idx M.gap)::pt lg (.cells #[.pointer (some ⟨M.d,0,none⟩),.string M.pre,.int .i64 M.seg,.int .i64 M.gap,.slice M.z.a M.z.len M.z.cap] T.a48)::slc T.a33 1 M.z ((M.SM.map Prod.fst).flatMap z1p)::HP.all (M.SM.map λt=>z0o M.gap t.1 t.2)::r):=by
   have e:(SegA.file ⟨base,fin,[]⟩).length=z.len:=by rw [z2k,hl];simp
   rw [e]
   exact hs
  have hs:=z1n M hok (hs.pick [3,3,3])
  exact z2p ⟨ix,⟨base,fin,[]⟩⟩ (hs.sub)
theorem zwr (b:BatM) (hv:z05 b=0) [hf:Fo l (z0o gap) a t r] [hb:FocR r b.x 4 (b.rs.flatMap z04)] (hlen:t.s.file.length+(frL b).length<=1000000000) (hs:Sat w l) :
  Ret P F.a164 #[.pointer (some ⟨a,0,none⟩),.agg (zv b).toArray,.int .i64 ((frL b).length:Nat)] w λvs w'=>vs=[]/\Sat w' (z0o gap a ⟨t.ix,t.s.add [b]⟩::r) :=
 zog _ b.base b.pid b.epoch b.seq b.kind b.time b.x _ <| by
  delta z01t AA AF AG AH AI AJ AP Ac Ad Af Aj An Aq Av Ay
  obtain ⟨h64,-⟩:=z2v hv
  obtain ⟨-,-,⟨-,hba,-⟩,-,-⟩:=z16 b hv
  have hs:=z3v (hs.perm hf.perm)
  refine zn hs λa0 w' hs=>?_
  refine zk hs ?_
  refine z8 (zxw b (by omega) hs) λ_ w' hs=>?_
  obtain ⟨rfl,hs⟩:=hs
  refine zb ?_
  refine wp_lt ?_
  refine zx hs λw' hs=>?_
  refine zg ?_
  refine za hs ?_
  refine za hs ?_
  refine zg ?_
  refine za hs ?_
  refine z8 (z05k (b:=t.ix) b.base ((t.s.file.length:Nat):Int) (z35 b) (by omega) (by omega) hs) λ_ w' hs=>?_
  obtain ⟨rfl,hs⟩:=hs
  refine zb ?_
  refine zd ?_
  refine zk hs ?_
  refine z8 (z90 b hs) λ_ w' hs=>?_
  obtain ⟨rfl,hs⟩:=hs
  refine zb ?_
  refine zg ?_
  refine z07 hs λw' hs=>?_
  refine zg ?_
  refine za hs ?_
  refine zg ?_
  refine z07 hs λw' hs=>?_
  refine zg ?_
  refine za hs ?_
  refine zg ?_
  rw [w64 (by omega) (by omega)]
  refine z07 hs λw' hs=>?_
  refine ⟨rfl,rfl,?_⟩
  have e1:z1r b=z0d (t.s.add [b]).bs:=by
   show _=z0d (t.s.bs++[b.p])
   rw [z3m]
   unfold z1r
   rw [if_neg (by rw [hv];simp)]
   rfl
  have e2:(if z35 b>z1e (-1) t.s.bs then z35 b else z1e (-1) t.s.bs)=z1e (-1) (t.s.add [b]).bs:=by
   show _=z1e (-1) (t.s.bs++[b.p])
   rw [zg0]
   show _=max _ (z35 b)
   split <;> omega
  have e3:((t.s.file.length:Nat):Int)+((frL b).length:Nat)=(((t.s.add [b]).file.length:Nat):Int):=by
   rw [z6u,List.length_append];simp
  rw [e1,e2,e3,<- z036] at hs
  have hs:Sat w' (pt a (.cells #[.pointer (some ⟨t.ix,0,none⟩),.int .i64 (t.s.add [b]).base,.int .i64 (t.s.add [b]).fin,.int .i64 (z0d (t.s.add [b]).bs),.int .i64 (z1e (-1) (t.s.add [b]).bs),.int .i64 ((t.s.add [b]).file.length:Nat)] T.a49)::_):=hs
  refine z2p ⟨t.ix,t.s.add [b]⟩ ?_
  exact hs.sub
theorem zfz [hf:Fo l lgQ lg M r] (hlen:M.SM.length<=1000000000) (hs:Sat w l):Ret P F.a149 #[.pointer (some ⟨lg,0,none⟩)] w λvs w'=>vs=[.pointer (zyo (M.SM.getLast?.map Prod.fst))]/\Sat w' (lgQ lg M::r) :=
 zo1 _ <| by
  delta z01e AA AG AI AO Ad Ai Al An Aq Ay
  obtain ⟨hok,hs⟩:=z2t (hs.perm hf.perm)
  have hl:=hs.slen M.z (xs:=M.SM.map Prod.fst) (enc:=z1p)
  rw [List.length_map] at hl
  refine zg ?_
  refine za hs ?_
  refine ze (λh=>?_) λh=>?_
  ·have:M.SM=[]:=List.length_eq_zero_iff.1 (by omega)
   rw [this]
   rw [this] at hs
   have hs:=z1n M hok (by rw [this];exact hs)
   exact ⟨rfl,rfl,hs⟩
  have h0:0<M.SM.length:=by omega
  refine zx hs λw' hs=>?_
  refine zg ?_
  refine za hs ?_
  refine zg ?_
  refine za hs ?_
  rw [w64 (by omega) (by omega)]
  refine z22 hs (xs:=M.SM.map Prod.fst) (enc:=z1p) (M.SM.length-1) (by rw [List.length_map];omega) ?_
  refine zd ?_
  refine ⟨rfl,?_,z1n M hok hs⟩
  have e:M.SM.getLast?.map Prod.fst=some ((M.SM.map Prod.fst)[M.SM.length-1]'(by rw [List.length_map];omega)):=by
   rw [List.getLast?_eq_getElem?,List.getElem?_eq_getElem (by omega)]
   simp
  rw [e]
  rfl
theorem z9g {SM:List (Nat × SegM)} (hs:Sat w (HP.all (SM.map λt=>z0o gap t.1 t.2)::l)) {i:Nat} (hi:i<SM.length) :
  Sat w (z0o gap SM[i].1 SM[i].2::HP.all ((SM.eraseIdx i).map λt=>z0o gap t.1 t.2)::l):=by
 exact ((hs.all_perm ((z6r hi).map _))).all_cons
theorem z6z {SM:List (Nat × SegM)} {i:Nat} (hi:i<SM.length) (hs:Sat w (z0o gap SM[i].1 SM[i].2::HP.all ((SM.eraseIdx i).map λt=>z0o gap t.1 t.2)::l)) :
  Sat w (HP.all (SM.map λt=>z0o gap t.1 t.2)::l):=by
 have h1:Sat w (HP.all ((SM[i]::SM.eraseIdx i).map λt=>z0o gap t.1 t.2)::l):=hs.all_put
 exact h1.all_perm ((z6r hi).symm.map _)
theorem zh0 [hf:Fo l lgQ lg M r] (hs:Sat w l):Ret P F.a136 #[.pointer (some ⟨lg,0,none⟩)] w λvs w'=>vs=[.int .i64 (z1b M.l)]/\Sat w' (lgQ lg M::r) :=
 znr _ <| by
  delta z014 AA AO AP AX Ac Af Ai Al An Ay Bw
  obtain ⟨hok,hs⟩:=z2t (hs.perm hf.perm)
  have hl:=hs.slen M.z (xs:=M.SM.map Prod.fst) (enc:=z1p)
  rw [List.length_map] at hl
  refine z0k ?_
  refine za hs ?_
  refine ze (λh=>?_) λh=>?_
  ·have h:M.SM=[]:=by
    rcases h with h|h
    ·cases h
    ·exact List.length_eq_zero_iff.1 (by omega)
   have e:z1b M.l=0:=by unfold LogM.l;rw [h];rfl
   rw [e]
   exact ⟨rfl,rfl,z1n M hok hs⟩
  have h0:0<M.SM.length:=by
   apply Nat.pos_of_ne_zero
   intro h1
   exact h (.inr (by omega))
  refine zg ?_
  refine za hs ?_
  refine z81 hs (xs:=M.SM.map Prod.fst) (enc:=z1p) 0 (by rw [List.length_map];exact h0) ?_ rfl rfl
  have e0:(M.SM.map Prod.fst)[0]'(by rw [List.length_map];exact h0)=M.SM[0].1:=by simp
  rw [e0]
  refine zg ?_
  have hs:=z3v (z9g (hs.pick [2]) h0)
  refine za hs ?_
  refine wp_lt ?_
  have e:z1b M.l=M.SM[0].2.s.base:=by
   obtain ⟨x,xs,hx⟩:=List.exists_cons_of_length_pos h0
   simp only [LogM.l,hx,List.map_cons,z1b,List.getElem_cons_zero]
  rw [e]
  refine ⟨rfl,rfl,?_⟩
  have hs:=z6z h0 (z2p M.SM[0].2 hs)
  exact z1n M hok (hs.pick [1,1])
theorem zat [hf:Fo l lgQ lg M r] (hlen:M.SM.length<=1000000000) (hs:Sat w l):Ret P F.a137 #[.pointer (some ⟨lg,0,none⟩)] w λvs w'=>vs=[.int .i64 (zt M.l)]/\Sat w' (lgQ lg M::r) :=
 zns _ <| by
  delta z015 AX Ac Ad Af Ai Aj Al An Ax Bw
  obtain ⟨hok,hs⟩:=z2t (hs.perm hf.perm)
  have hl:=hs.slen M.z (xs:=M.SM.map Prod.fst) (enc:=z1p)
  rw [List.length_map] at hl
  refine z0k ?_
  refine za hs ?_
  refine ze (λh=>?_) λh=>?_
  ·have h:M.SM=[]:=by
    rcases h with h|h
    ·cases h
    ·exact List.length_eq_zero_iff.1 (by omega)
   have e:zt M.l=0:=by unfold LogM.l;rw [h];rfl
   rw [e]
   exact ⟨rfl,rfl,z1n M hok hs⟩
  have h0:0<M.SM.length:=by
   apply Nat.pos_of_ne_zero
   intro h1
   exact h (.inr (by omega))
  have hs:=z1n M hok hs
  refine z8 (zfz (lg:=lg) hlen hs) λ_ w' hs=>?_
  obtain ⟨rfl,hs⟩:=hs
  refine zb ?_
  have e1:M.SM.getLast? = some (M.SM[M.SM.length-1]'(by omega)):=by
   rw [List.getLast?_eq_getElem?,List.getElem?_eq_getElem (by omega)]
  rw [e1]
  obtain ⟨-,hs⟩:=z2t hs
  have hs:=z9g (hs.pick [2]) (show M.SM.length-1<M.SM.length by omega)
  refine z8 (z03w (gap:=M.gap) (a:=M.SM[M.SM.length-1].1) hs) λ_ w' hs=>?_
  obtain ⟨rfl,hs⟩:=hs
  refine zb ?_
  refine wp_lt ?_
  have e:zt M.l=(M.SM[M.SM.length-1]'(by omega)).2.s.reach:=by
   unfold LogM.l zt
   rw [zaa,e1]
   rfl
  rw [e]
  have hs:=z6z (show M.SM.length-1<M.SM.length by omega) hs
  exact ⟨rfl,rfl,z1n M hok (hs.pick [1,1])⟩
def z6s (seg:Int) (l:List SegA) (n:Nat):Bool:=match l.getLast? with
 | none=>false
 | some s=>decide (z0d s.bs=0) || decide (((s.file.length+n:Nat):Int)<=seg)
theorem z051 (n:Nat) (hn:n<=1000000000) [hf:Fo l lgQ lg M r] (hlen:M.SM.length<=1000000000) (hfl:∀ s ∈ M.l,s.file.length<=1000000000) (hs:Sat w l):Ret P F.a147 #[.pointer (some ⟨lg,0,none⟩),.int .i64 (n:Int)] w λvs w'=>vs=[.bool (z6s M.seg M.l n)]/\Sat w' (lgQ lg M::r) :=
 zo0 _ _ <| by
  delta z01d AG AI AQ AX Ad Ag An Aq Ax
  refine z8 (zfz (lg:=lg) hlen hs) λ_ w' hs=>?_
  obtain ⟨rfl,hs⟩:=hs
  refine zb ?_
  refine zx hs λw' hs=>?_
  by_cases h0:M.SM=[]
  ·have e:z6s M.seg M.l n=false:=by unfold LogM.l z6s;rw [h0];rfl
   rw [e,h0]
   refine zsy ?_ (λh=>by cases h)
   refine zsx (0:Int) (λh=>by cases h) ?_
   refine zsy ?_ (λh=>by cases h.1)
   refine zsx (0:Int) (λh=>by cases h.1) ?_
   refine zsy ?_ (λh=>by cases h.1)
   refine zsx (0:Int) (λh=>by cases h.1) ?_
   refine wp_lt ?_
   refine zd ?_
   exact ⟨rfl,rfl,hs⟩
  have hp:=List.length_pos_iff.2 h0
  have e1:M.SM.getLast? = some (M.SM[M.SM.length-1]'(by omega)):=by
   rw [List.getLast?_eq_getElem?,List.getElem?_eq_getElem (by omega)]
  have e:z6s M.seg M.l n=(decide (z0d (M.SM[M.SM.length-1]'(by omega)).2.s.bs=0) || decide ((((M.SM[M.SM.length-1]'(by omega)).2.s.file.length+n:Nat):Int)<=M.seg)):=by
   unfold LogM.l z6s
   rw [zaa,e1]
   rfl
  have hfl':=hfl _ (List.mem_map.2 ⟨_,List.getElem_mem (show M.SM.length-1<M.SM.length by omega),rfl⟩)
  rw [e,e1]
  obtain ⟨hok,hs⟩:=z2t hs
  have hs:=z3v (z9g (hs.pick [2]) (show M.SM.length-1<M.SM.length by omega))
  refine z0k ?_
  refine za hs ?_
  refine z0k ?_
  refine za hs ?_
  refine z0k ?_
  refine za hs ?_
  rw [w64 (by omega) (by omega)]
  refine wp_lt ?_
  refine zd ?_
  have hs:=z6z (show M.SM.length-1<M.SM.length by omega) (z2p (M.SM[M.SM.length-1]'(by omega)).2 hs)
  refine ⟨rfl,?_,z1n M hok (hs.pick [1,1])⟩
  rfl
theorem z001 (a:Nat) (t:SegM) {r0:List HP} [hf:Fo l lgQ lg M r0] [hf2:Fo r0 (z0o M.gap) a t r] (hlen:M.SM.length<=1000000000) (hs:Sat w l) :
  Ret P F.a152 #[.pointer (some ⟨lg,0,none⟩),.pointer (some ⟨a,0,none⟩)] w λvs w'=>∃ z:Sl,vs=[]/\Sat w' (lgQ lg { M with z:=z,SM:=M.SM++[(a,t)] }::r) :=
 zo4 _ _ <| by
  delta z01h AA AE AJ AO Ad An
  obtain ⟨hok,hs⟩:=z2t (hs.perm (hf.perm.trans (.cons _ hf2.perm)))
  have hl:=hs.slen M.z (xs:=M.SM.map Prod.fst) (enc:=z1p)
  refine zg ?_
  refine za hs ?_
  refine z6m (xs:=M.SM.map Prod.fst) (enc:=z1p) (y:=a) hs (λz w' hs=>?_) rfl (by rw [List.length_map];omega)
  refine zg ?_
  refine z07 hs λw' hs=>?_
  refine ⟨rfl,z,rfl,?_⟩
  have hs:Sat w' (pt lg (.cells #[.pointer (some ⟨M.d,0,none⟩),.string M.pre,.int .i64 M.seg,.int .i64 M.gap,.slice z.a z.len z.cap] T.a48)::slc T.a33 1 z ((M.SM.map Prod.fst++[a]).flatMap z1p)::HP.all (M.SM.map λt=>z0o M.gap t.1 t.2)::z0o M.gap a t::r):=hs
  have h1:Sat w' (HP.all (((a,t)::M.SM).map λt=>z0o M.gap t.1 t.2)::pt lg (.cells #[.pointer (some ⟨M.d,0,none⟩),.string M.pre,.int .i64 M.seg,.int .i64 M.gap,.slice z.a z.len z.cap] T.a48)::slc T.a33 1 z ((M.SM.map Prod.fst++[a]).flatMap z1p)::r):=(hs.pick [3,2]).all_put
  have h2:=h1.all_perm ((List.perm_append_comm (l₁:=[(a,t)]) (l₂:=M.SM)).map λt=>z0o M.gap t.1 t.2)
  refine z1n { M with z:=z,SM:=M.SM++[(a,t)] } hok ?_
  have e:(M.SM++[(a,t)]).map Prod.fst=M.SM.map Prod.fst++[a]:=by simp
  show Sat w' (pt lg _::slc T.a33 1 z (((M.SM++[(a,t)]).map Prod.fst).flatMap z1p)::HP.all ((M.SM++[(a,t)]).map λt=>z0o M.gap t.1 t.2)::r)
  rw [e]
  exact h2.pick [1,1]
end
theorem z0b.mem:∀ {n:Int} {l:List SegA},z0b n l->∀ s ∈ l,SegOk s/\n<=s.base
 | _,a::l,⟨h1,h2,h3⟩,s,hs=>by
  rcases List.mem_cons.1 hs with rfl|hs
  ·exact ⟨h2,h1⟩
  ·have:=h3.mem s hs
   exact ⟨this.1,by omega⟩
def z0j (pre:ByteArray) (l:List SegA) (D:DiskA):Int × DiskA:=match l.getLast? with
 | none=>(0,D)
 | some s=>z1s D [zl pre s.base zu]
def BatM.to (b:BatM) (n:Int):BatM:=⟨n,b.pid,b.epoch,b.seq,b.kind,b.time,b.x,b.rs⟩
def zw:Int->List BatM->Int × List BatM
 | _,[]=>(0,[])
 | n,b::bs=>if z05 (b.to n)≠0 then (z05 (b.to n),[]) else if (zw (n+zo b) bs).1≠0 then ((zw (n+zo b) bs).1,[]) else (0,b.to n::(zw (n+zo b) bs).2)
def frP (p:Sl × List UInt8):HP:=slc T.a52 1 p.1 (p.2.flatMap zi)
theorem zcx:∀ {bs:List BatM} {n:Int},(zw n bs).1=0->(zw n bs).2.length=bs.length/\(∀ b ∈ (zw n bs).2,z05 b=0/\∃ c ∈ bs,b.x=c.x/\b.rs=c.rs)/\∀ b,(zw n bs).2.head? = some b->b.base=n
 | [],n,_=>⟨rfl,(λ_ h=>by cases h),(λ_ h=>by cases h)⟩
 | b::bs,n,h=>by
  unfold zw at h ⊢
  by_cases h1:z05 (b.to n)≠0
  ·rw [if_pos h1] at h;exact absurd h h1
  rw [if_neg h1] at h ⊢
  by_cases h2:(zw (n+zo b) bs).1≠0
  ·rw [if_pos h2] at h;exact absurd h h2
  rw [if_neg h2]
  obtain ⟨i1,i2,-⟩:=zcx (Decidable.not_not.1 h2)
  refine ⟨by simp [i1],λc hc=>?_,λc hc=>?_⟩
  ·rcases List.mem_cons.1 hc with rfl|hc
   ·exact ⟨Decidable.not_not.1 h1,b,List.mem_cons_self ..,rfl,rfl⟩
   ·obtain ⟨v,d,hd,e⟩:=i2 c hc
    exact ⟨v,d,List.mem_cons_of_mem _ hd,e⟩
  ·simp at hc;subst hc;rfl
theorem zps:∀ {bs:List BatM},(∀ b ∈ bs,z05 b=0)->(bs.flatMap frL).length<=bs.length*262152
 | [],_=>by simp
 | b::bs,h=>by
  have h1:=z4v (h b (List.mem_cons_self ..))
  have h2:=z5r (h b (List.mem_cons_self ..))
  have h3:=zps λx hx=>h x (List.mem_cons_of_mem _ hx)
  rw [List.flatMap_cons,List.length_append,List.length_cons]
  omega
section
variable {w:World} {l r:List HP} {lg:Nat} {M:LogM} {D:DiskA} {gap:Int} {a:Nat} {t:SegM}
theorem zfi {fs:List (Sl × List UInt8)} {p:Sl × List UInt8} (hp:p ∈ fs) [hf:Foc l (HP.all (fs.map frP)) r]:FocR l p.1 1 (p.2.flatMap zi):=⟨λw hs=>by
 obtain ⟨L,hs⟩:=(hs.perm hf.perm).all_mem hp
 exact Sat.rd hs⟩
theorem zlg:∀ {fs gs:List (Sl × List UInt8)},(∀ p ∈ gs,FocR l p.1 1 (p.2.flatMap zi))->z9q l (gs.map Prod.fst) (gs.map Prod.snd)
 | _,[],_=>trivial
 | fs,p::gs,h=>⟨(h p (List.mem_cons_self ..)).rd,zlg (fs:=fs) λq hq=>h q (List.mem_cons_of_mem _ hq)⟩
theorem zqe {r1:List HP} [hf:Fo l lgQ lg M r1] [hf2:Fo r1 dk M.d D r] (hlen:M.SM.length<=1000000000) (hok:z0b 0 M.l) (hs:Sat w l) :
  Ret P F.a143 #[.pointer (some ⟨lg,0,none⟩)] w λvs w'=>vs=[.int .i64 (z0j M.pre M.l D).1]/\Sat w' (lgQ lg M::dk M.d (z0j M.pre M.l D).2::r) :=
 znw _ <| by
  delta z019 AA AE AG AI AL AP Aa Ac Ad Af Ai Aj An Ap Ax
  have hs:=hs.perm (hf.perm.trans (.cons _ hf2.perm))
  refine zy ?_ (by simp)
  refine z8 (zfz (lg:=lg) hlen hs) λ_ w' hs=>?_
  obtain ⟨rfl,hs⟩:=hs
  refine zb ?_
  by_cases h0:M.SM=[]
  ·have e:z0j M.pre M.l D=(0,D):=by unfold LogM.l z0j;rw [h0];rfl
   rw [e,h0]
   refine zy ?_ (by simp [zyo])
   exact ⟨rfl,rfl,hs⟩
  have hp:=List.length_pos_iff.2 h0
  have hsz:M.SM.length-1<M.SM.length:=by omega
  have e1:M.SM.getLast? = some (M.SM[M.SM.length-1]'hsz):=by
   rw [List.getLast?_eq_getElem?,List.getElem?_eq_getElem (by omega)]
  have e:z0j M.pre M.l D=z1s D [zl M.pre (M.SM[M.SM.length-1]'hsz).2.s.base zu]:=by
   unfold LogM.l z0j
   rw [zaa,e1]
   rfl
  have hmem:(M.SM[M.SM.length-1]'hsz).2.s ∈ M.l:=List.mem_map.2 ⟨_,List.getElem_mem hsz,rfl⟩
  have hbase:=(hok.mem _ hmem).1.base
  rw [e,e1]
  obtain ⟨hokm,hs⟩:=z2t hs
  have hpre:M.pre.size<=100:=by
   have:=hokm.pre
   unfold z3o at this
   rw [Bool.and_eq_true,decide_eq_true_eq] at this
   omega
  refine z0c ?_ (by simp [zyo])
  have hs:=z3v (z9g (hs.pick [2]) hsz)
  refine zf (λq w'=>q=((z1s D [zl M.pre (M.SM[M.SM.length-1]'hsz).2.s.base zu]).1,())/\Sat w' (lgQ lg M::dk M.d (z1s D [zl M.pre (M.SM[M.SM.length-1]'hsz).2.s.base zu]).2::r)) ?_ ?_
  rotate_left
  ·rintro _ w2 ⟨rfl,hs⟩
   exact ⟨rfl,rfl,hs⟩
  refine zx hs λw' hs=>?_
  refine zg ?_
  refine z18 hs ?_
  refine zg ?_
  refine za hs ?_
  refine z8 (z7r (lg:=lg) _ (by omega) (ByteArray.mk #[46,108,111,103]) (by decide) M.pre hpre hs) λ_ w' hs=>?_
  obtain ⟨rfl,hs⟩:=hs
  refine zb ?_ (by first|trivial|(repeat (first|exact trivial|exact λ_=>z09 hs|exact λ_=>z0m hs|refine And.intro ?_ ?_)))
  refine z6j hs (enc:=z27) [zl M.pre (M.SM[M.SM.length-1]'hsz).2.s.base zu] λy w' hs=>⟨(by first|trivial|(repeat (first|exact trivial|exact λ_=>z09 hs|exact λ_=>z0m hs|refine And.intro ?_ ?_))),?_⟩
  refine zd ?_
  refine z8 (z064 (d:=M.d) y [zl M.pre (M.SM[M.SM.length-1]'hsz).2.s.base zu] (by show 1<=100000;omega) hs) λ_ w' hs=>?_
  obtain ⟨rfl,hs⟩:=hs
  refine zb ?_
  refine wp_lt ?_
  refine zd ?_
  refine zj ⟨rfl,?_⟩
  replace hs:Sat _ (z0o M.gap _ _::_):=z2p (M.SM[M.SM.length-1]'hsz).2 (hs.pick [2,2])
  have hs:=z6z hsz (hs.pick [0,2])
  exact (z1n M hokm (hs.pick [3,3])).sub
theorem zyg (x:Sl) (bs:List BatM) [hf:Fo l lgQ lg M r] (hlen:M.SM.length<=1000000000) (hbl:bs.length<=100000) (hx:FocR r x 7 (bs.flatMap zv)) (hbs:∀ b ∈ bs,FocR r b.x 4 (b.rs.flatMap z04)) (hs:Sat w l) :
  Ret P F.a151 #[.pointer (some ⟨lg,0,none⟩),x.v] w λvs w' =>
   ((zw (zt M.l) bs).1≠0/\vs=[.slice none 0 0,.slice none 0 0,.int .i64 (zw (zt M.l) bs).1]/\Sat w' (lgQ lg M::r)) \/
   ((zw (zt M.l) bs).1=0/\∃ (z1 z2:Sl) (fs:List (Sl × List UInt8)),vs=[z1.v,z2.v,.int .i64 0]/\fs.map Prod.snd=(zw (zt M.l) bs).2.map frL /\
    Sat w' (slc T.a0 7 z1 ((zw (zt M.l) bs).2.flatMap zv)::slc T.a46 1 z2 ((fs.map Prod.fst).flatMap z0e)::HP.all (fs.map frP)::lgQ lg M::r)) :=
 zo3 _ x <| by
  delta z01g AE AF AH AJ AN AV Ac Ad Af Ai Aj Ak Al An Ao Aq Ar
  have hs:=hs.perm hf.perm
  have hl:=hs.slen x (xs:=bs) (enc:=zv)
  refine z8 (zat (lg:=lg) hlen hs) λ_ w' hs=>?_
  obtain ⟨rfl,hs⟩:=hs
  refine zb ?_
  refine wp_lt ?_
  generalize zt M.l=n0
  refine zf (λq w'=>∃ (z1 z2:Sl) (fs:List (Sl × List UInt8)),(zw n0 bs).1=0/\q=(z1,z2,())/\fs.map Prod.snd=(zw n0 bs).2.map frL /\
    Sat w' (slc T.a0 7 z1 ((zw n0 bs).2.flatMap zv)::slc T.a46 1 z2 ((fs.map Prod.fst).flatMap z0e)::HP.all (fs.map frP)::lgQ lg M::r)) ?_ ?_
  rotate_left
  ·rintro _ w2 ⟨z1,z2,fs,h1,rfl,h2,hs⟩
   exact ⟨rfl,.inr ⟨h1,z1,z2,fs,rfl,h2,hs⟩⟩
  have h0:Sat w' (slc T.a0 7 ⟨none,0,0⟩ (([]:List BatM).flatMap zv)::slc T.a46 1 ⟨none,0,0⟩ (((([]:List (Sl × List UInt8))).map Prod.fst).flatMap z0e)::HP.all ((([]:List (Sl × List UInt8))).map frP)::lgQ lg M::r):=(Sat.all_nil hs).slc_nil.slc_nil
  refine z03 (λm v w=>∃ (i:Nat) (n:Int) (done:List BatM) (z1 z2:Sl) (fs:List (Sl × List UInt8)),v=(n,z1,z2,(i:Int),())/\i<=bs.length/\bs.length-i=m/\done.length=i/\fs.length=i /\
   zw n0 bs=(if (zw n (bs.drop i)).1≠0 then ((zw n (bs.drop i)).1,[]) else (0,done++(zw n (bs.drop i)).2))/\fs.map Prod.snd=done.map frL /\
   Sat w (slc T.a0 7 z1 (done.flatMap zv)::slc T.a46 1 z2 ((fs.map Prod.fst).flatMap z0e)::HP.all (fs.map frP)::lgQ lg M::r)) bs.length
   ⟨0,n0,[],⟨none,0,0⟩,⟨none,0,0⟩,[],rfl,by omega,rfl,rfl,rfl,?_,rfl,h0⟩ ?_
  ·rw [List.drop_zero,List.nil_append]
   by_cases h:(zw n0 bs).1≠0
   ·rw [if_pos h]
    have:∀ {bs:List BatM} {n:Int},(zw n bs).1≠0->(zw n bs).2=[]:=by
     intro bs
     induction bs with
     | nil=>intro n h;exact absurd rfl h
     | cons b bs ih =>
      intro n h
      unfold zw at h ⊢
      split
      ·rfl
      ·split
       ·rfl
       ·rename_i h1 h2
        rw [if_neg h1,if_neg h2] at h
        exact absurd rfl h
    rw [<- this h]
   ·rw [if_neg h]
    have h:=Decidable.not_not.1 h
    rw [<- h]
  clear hs h0
  rintro m _ w ⟨i,n,done,z1,z2,fs,rfl,hi,hm,hdl,hfl,hpl,hfs,hs⟩
  refine zm ?_
  refine ze (λhc=>?_) λhc=>?_
  rotate_left
  ·have e:bs.drop i=[]:=List.drop_eq_nil_of_le (by omega)
   rw [e] at hpl
   simp only [zw,List.append_nil] at hpl
   have hpl:zw n0 bs=(0,done):=by rw [hpl];rfl
   refine zh (zj ⟨z1,z2,fs,by rw [hpl],rfl,by rw [hpl];exact hfs,?_⟩)
   rw [hpl]
   exact hs
  have hil:i<bs.length:=by omega
  have hdrop:bs.drop i=bs[i]::bs.drop (i+1):=List.drop_eq_getElem_cons hil
  rw [hdrop] at hpl
  have hR:=hbs bs[i] (List.getElem_mem hil)
  refine z4l hs (xs:=bs) (enc:=zv) i hil ?_
  refine zq hs λa w' hs=>?_
  refine zr hs λw' hs=>?_
  refine z07 hs λw' hs=>?_
  refine zk hs ?_
  have hRt:FocR r (bs[i].to n).x 4 ((bs[i].to n).rs.flatMap z04):=hR
  refine z8 (zxj (bs[i].to n) hs) λ_ w' hs=>?_
  have hunf:zw n (bs[i]::bs.drop (i+1))=if z05 (bs[i].to n)≠0 then (z05 (bs[i].to n),[]) else if (zw (n+zo bs[i]) (bs.drop (i+1))).1≠0 then ((zw (n+zo bs[i]) (bs.drop (i+1))).1,[]) else (0,bs[i].to n::(zw (n+zo bs[i]) (bs.drop (i+1))).2):=rfl
  rcases hs with ⟨hv,rfl,hs⟩|⟨hv,y,rfl,hs⟩
  ·refine zb ?_
   refine wp_lt ?_
   refine z0c ?_ hv
   refine wp_lt ?_
   rw [if_pos hv] at hunf
   have hpl:zw n0 bs=(z05 (bs[i].to n),[]):=by rw [hpl,hunf,if_pos hv]
   refine zh (zh ⟨rfl,.inl ⟨by rw [hpl];exact hv,by rw [hpl],hs.sub⟩⟩)
  ·refine zb ?_
   refine wp_lt ?_
   refine zy ?_ (by simp)
   rw [if_neg (by rw [hv];simp)] at hunf
   have hbl2:=z5r hv
   have hfrl:=z4v hv
   refine zk hs ?_
   refine z6m (xs:=done) (enc:=zv) (y:=bs[i].to n) hs (λz1' w' hs=>?_) rfl (by omega)
   refine zay hs (enc:=z0e) [y] λy2 w' hs=>?_
   refine z8 (zxo y2 y (z2j (bs[i].to n)) (by omega) hs) λ_ w' hs=>?_
   obtain ⟨y3,rfl,hs⟩:=hs
   refine zb ?_
   refine z6m (xs:=fs.map Prod.fst) (enc:=z0e) (y:=y3) hs (λz2' w' hs=>?_) rfl (by rw [List.length_map];omega)
   refine zk hs ?_
   refine z8 (z90 (bs[i].to n) hs) λ_ w' hs=>?_
   obtain ⟨rfl,hs⟩:=hs
   refine zb ?_
   refine wp_lt ?_
   rw [wS (i:=i) (by omega)]
   have en:z1r (bs[i].to n)=n+zo bs[i]:=by
    unfold z1r
    rw [if_neg (by rw [hv];simp)]
    rfl
   rw [en]
   refine z11 (bs.length-(i+1)) ⟨i+1,n+zo bs[i],done++[bs[i].to n],z1',z2',fs++[(y3,frL (bs[i].to n))],rfl,by omega,rfl,by simp [hdl],by simp [hfl],?_,by simp [hfs],?_⟩
   ·rw [hpl,hunf]
    by_cases h2:(zw (n+zo bs[i]) (bs.drop (i+1))).1≠0
    ·rw [if_pos h2,if_pos h2,if_pos h2]
    ·rw [if_neg h2,if_neg h2,if_neg (by simp),List.append_assoc]
     rfl
   ·have e2:(fs++[(y3,frL (bs[i].to n))]).map Prod.fst=fs.map Prod.fst++[y3]:=by simp
    rw [e2]
    have hs:Sat w' (slc T.a46 1 z2' ((fs.map Prod.fst++[y3]).flatMap z0e)::slc T.a52 1 y3 ((frL (bs[i].to n)).flatMap zi)::slc T.a46 1 y2 (([y]:List Sl).flatMap z0e)::slc T.a0 7 z1' ((done++[bs[i].to n]).flatMap zv)::_):=hs
    have hs:Sat w' (frP (y3,frL (bs[i].to n))::HP.all (fs.map frP)::slc T.a0 7 z1' ((done++[bs[i].to n]).flatMap zv)::slc T.a46 1 z2' ((fs.map Prod.fst++[y3]).flatMap z0e)::lgQ lg M::r):=by
     have h3:Sat w' (slc T.a52 1 y3 ((frL (bs[i].to n)).flatMap zi)::HP.all (fs.map frP)::slc T.a0 7 z1' ((done++[bs[i].to n]).flatMap zv)::slc T.a46 1 z2' ((fs.map Prod.fst++[y3]).flatMap z0e)::lgQ lg M::r):=hs.sub
     exact h3
    have h4:Sat w' (HP.all (((y3,frL (bs[i].to n))::fs).map frP)::_):=hs.all_put
    have h5:=h4.all_perm ((List.perm_append_comm (l₁:=[(y3,frL (bs[i].to n))]) (l₂:=fs)).map frP)
    exact h5.pick [1,1]
end
def z56 (l:List SegA):Int:=match l.getLast? with
 | none=>0
 | some s=>s.base
def z4t (l:List SegA) (bs:List BatM):List SegA:=match l.getLast? with
 | none=>l
 | some s=>l.dropLast++[s.add bs]
def z0w (pre:ByteArray) (seg:Int) (l:List SegA) (D:DiskA) (bs:List BatM):(Int × Int) × List SegA × DiskA :=
 if bs=[] then ((0,3),l,D) else
 if (zw (zt l) bs).1≠0 then ((0,(zw (zt l) bs).1),l,D) else
 if z6s seg l ((zw (zt l) bs).2.flatMap frL).length then
  if (z08 D (zl pre (z56 l) zu) ((zw (zt l) bs).2.flatMap frL)).1≠0 then ((0,(z08 D (zl pre (z56 l) zu) ((zw (zt l) bs).2.flatMap frL)).1),l,(z08 D (zl pre (z56 l) zu) ((zw (zt l) bs).2.flatMap frL)).2)
  else ((zt l,0),z4t l (zw (zt l) bs).2,(z08 D (zl pre (z56 l) zu) ((zw (zt l) bs).2.flatMap frL)).2)
 else
  if (z0j pre l D).1≠0 then ((0,(z0j pre l D).1),l,(z0j pre l D).2) else
  if (z08 (z0j pre l D).2 (zl pre (zt l) zu) (shL (zt l) 0++(zw (zt l) bs).2.flatMap frL)).1≠0 then ((0,(z08 (z0j pre l D).2 (zl pre (zt l) zu) (shL (zt l) 0++(zw (zt l) bs).2.flatMap frL)).1),l,(z08 (z0j pre l D).2 (zl pre (zt l) zu) (shL (zt l) 0++(zw (zt l) bs).2.flatMap frL)).2)
  else ((zt l,0),l++[(⟨zt l,0,[]⟩:SegA).add (zw (zt l) bs).2],(z08 (z0j pre l D).2 (zl pre (zt l) zu) (shL (zt l) 0++(zw (zt l) bs).2.flatMap frL)).2)
def LogA.set (A:LogA) (l:List SegA):LogA:=⟨A.d,A.pre,A.seg,A.gap,l⟩
theorem z0b.next:∀ {n:Int} {l:List SegA},0<=n->z0b n l->0<=zt l/\zt l<=1099511627777
 | _,[],_,_=>⟨by decide,by decide⟩
 | n,[s],hn,⟨h1,h2,_⟩=>by
  have:=z5c h2
  have:=h2.base
  show 0<=s.reach/\s.reach<=_
  omega
 | n,s::t::l,hn,⟨h1,h2,h3⟩=>by
  have:=h2.base
  have:=z0b.next (by omega) h3
  exact this
instance:EncF zv 0 (.int .i64) (λb=>b.base):=⟨λ_=>rfl⟩
section
variable {w:World} {l r:List HP} {lg:Nat} {M:LogM} {A:LogA} {D:DiskA} {gap:Int} {a:Nat} {t:SegM}
theorem zbz {SM0:List (Nat × SegM)} (h:M.SM=SM0++[(a,t)]) (hs:Sat w (lgQ lg M::l)):okM M.gap M.seg M.pre /\
  Sat w (z0o M.gap a t::pt lg (.cells #[.pointer (some ⟨M.d,0,none⟩),.string M.pre,.int .i64 M.seg,.int .i64 M.gap,.slice M.z.a M.z.len M.z.cap] T.a48)::slc T.a33 1 M.z ((SM0.map Prod.fst++[a]).flatMap z1p)::HP.all (SM0.map λt=>z0o M.gap t.1 t.2)::l):=by
 obtain ⟨hok,hs⟩:=z2t hs
 rw [h] at hs
 have h1:=(hs.pick [2]).all_perm ((List.perm_append_comm (l₁:=SM0) (l₂:=[(a,t)])).map λt=>z0o M.gap t.1 t.2)
 have h2:Sat w (z0o M.gap a t::HP.all (SM0.map λt=>z0o M.gap t.1 t.2)::_):=h1.all_cons
 rw [List.map_append] at h2
 exact ⟨hok,h2.pick [0,1,1]⟩
theorem zas (M:LogM) {SM0:List (Nat × SegM)} (hok:okM M.gap M.seg M.pre) (hs:Sat w (z0o M.gap a t::pt lg (.cells #[.pointer (some ⟨M.d,0,none⟩),.string M.pre,.int .i64 M.seg,.int .i64 M.gap,.slice M.z.a M.z.len M.z.cap] T.a48)::slc T.a33 1 M.z ((SM0.map Prod.fst++[a]).flatMap z1p)::HP.all (SM0.map λt=>z0o M.gap t.1 t.2)::l)) :
  Sat w (lgQ lg { M with SM:=SM0++[(a,t)] }::l):=by
 have h1:Sat w (HP.all (((a,t)::SM0).map λt=>z0o M.gap t.1 t.2)::_):=(hs.pick [0,2]).all_put
 have h2:=h1.all_perm ((List.perm_append_comm (l₁:=[(a,t)]) (l₂:=SM0)).map λt=>z0o M.gap t.1 t.2)
 refine z1n { M with SM:=SM0++[(a,t)] } hok ?_
 show Sat w (pt lg _::slc T.a33 1 M.z (((SM0++[(a,t)]).map Prod.fst).flatMap z1p)::HP.all ((SM0++[(a,t)]).map λt=>z0o M.gap t.1 t.2)::l)
 rw [List.map_append]
 exact h2.pick [1,1]
theorem z3d {α:Type} {l:List α} (h:l≠[]):∃ (l0:List α) (x:α),l=l0++[x]:=⟨l.dropLast,l.getLast h,(List.dropLast_concat_getLast h).symm⟩
theorem zlf {fs:List (Sl × List UInt8)} (h:∀ p ∈ fs,FocR l p.1 1 (p.2.flatMap zi)):z9q l (fs.map Prod.fst) (fs.map Prod.snd):=zlg (fs:=fs) h
theorem okM.size {g s:Int} {p:ByteArray} (h:okM g s p):p.size<=100:=by
 have:=h.pre
 unfold z3o at this
 rw [Bool.and_eq_true,decide_eq_true_eq] at this
 omega
set_option maxHeartbeats 1000000 in
theorem zvq (x:Sl) (bs:List BatM) {r1:List HP} [hf:Fo l lgP lg A r1] [hf2:Fo r1 dk A.d D r] (hlen:A.l.length<=1000000) (hok:z0b 0 A.l) (hfl:∀ s ∈ A.l,s.file.length<=500000000) (hbl:bs.length<=900)
  (hx:FocR r x 7 (bs.flatMap zv)) (hbs:∀ b ∈ bs,FocR r b.x 4 (b.rs.flatMap z04)) (hs:Sat w l) :
  Ret P F.a135 #[.pointer (some ⟨lg,0,none⟩),x.v] w λvs w'=>vs=[.int .i64 (z0w A.pre A.seg A.l D bs).1.1,.int .i64 (z0w A.pre A.seg A.l D bs).1.2] /\
   Sat w' (lgP lg (A.set (z0w A.pre A.seg A.l D bs).2.1)::dk A.d (z0w A.pre A.seg A.l D bs).2.2::r) :=
 zec _ x <| by
  delta zt9 AA AE AF AG AH AI AK AL AM AN AO AP AT AU Aa Ac Ad Af Ai Aj Ak Al Am An Ao Ap Aq Ar Ax Bn
  have hs:=hs.perm (hf.perm.trans (.cons _ hf2.perm))
  clear hf hf2
  obtain ⟨M,rfl,hs⟩:=z7o hs
  have hlxs:=hs.slen x (xs:=bs) (enc:=zv)
  have hMl:M.A.l=M.l:=rfl
  have hMpre:M.A.pre=M.pre:=rfl
  have hMseg:M.A.seg=M.seg:=rfl
  have hMd:M.A.d=M.d:=rfl
  rw [hMl] at hlen hok hfl ⊢
  rw [hMpre,hMseg,hMd]
  rw [hMd] at hs
  have hll:M.l.length=M.SM.length:=List.length_map ..
  have hnx:=hok.next (Int.le_refl 0)
  have hsame:∀ {w:World} {D':DiskA},Sat w (lgQ lg M::dk M.d D'::r)->Sat w (lgP lg (M.A.set M.l)::dk M.d D'::r):=λhs=>z4d M hs
  unfold z0w
  refine zy ?_ (by simp)
  refine ze (λh=>?_) λh=>?_
  ·have:bs=[]:=List.length_eq_zero_iff.1 (by omega)
   rw [if_pos this]
   exact ⟨rfl,rfl,hsame hs⟩
  rw [if_neg (by rintro rfl;simp at hlxs;omega)]
  have hx':FocR (dk M.d D::r) x 7 (bs.flatMap zv):=inferInstance
  refine z8 (zyg (lg:=lg) x bs (by omega) (by omega) inferInstance (λb hb=>by have:=hbs b hb;infer_instance) hs) λ_ w' hs=>?_
  have hplo:=zcx (bs:=bs) (n:=zt M.l)
  rcases hs with ⟨he,rfl,hs⟩|⟨he,z1,z2,fs,rfl,hfs,hs⟩
  ·refine zb ?_
   refine wp_lt ?_
   refine z0c ?_ he
   refine wp_lt ?_
   rw [if_pos he]
   exact ⟨rfl,rfl,hsame hs⟩
  refine zb ?_
  refine wp_lt ?_
  refine zy ?_ (by simp)
  rw [if_neg (by rw [he];simp)]
  obtain ⟨hp1,hp2,hp3⟩:=hplo he
  have hbl0:0<bs.length:=by
   apply Nat.pos_of_ne_zero
   intro h0
   rw [h0] at hlxs
   omega
  generalize hn0:zt M.l=n0 at *
  generalize hPL:zw n0 bs=PL at *
  obtain ⟨e0,q⟩:=PL
  have he:e0=0:=he
  subst he
  dsimp only at hp1 hp2 hp3 hfs hs ⊢
  have hsum:=zps λb hb=>(hp2 b hb).1
  have hfsl:fs.length=q.length:=by have:=congrArg List.length hfs;simpa using this
  have hfl1:=hs.slen z2 (xs:=fs.map Prod.fst) (enc:=z0e)
  rw [List.length_map] at hfl1
  have hfget:∀ (i:Nat) (h:i<fs.length),fs[i].2=frL (q[i]'(by omega)):=λi h=>by
   have:=List.getElem_of_eq hfs (i:=i) (by rw [List.length_map];exact h)
   simpa using this
  have hfsum:∀ i,((q.take i).flatMap frL).length<=(q.flatMap frL).length:=λi=>by
   have:(q.flatMap frL)=(q.take i).flatMap frL++(q.drop i).flatMap frL:=by rw [<- List.flatMap_append,List.take_append_drop]
   rw [this,List.length_append];omega
  refine zf (λv w'=>v=(((q.flatMap frL).length:Int),())/\Sat w' (slc T.a0 7 z1 (q.flatMap zv)::slc T.a46 1 z2 ((fs.map Prod.fst).flatMap z0e)::HP.all (fs.map frP)::lgQ lg M::dk M.d D::r)) ?_ ?_
  ·refine z03 (λm v w=>∃ i:Nat,v=((((q.take i).flatMap frL).length:Int),((i:Int),()))/\i<=q.length/\q.length-i=m/\Sat w (slc T.a0 7 z1 (q.flatMap zv)::slc T.a46 1 z2 ((fs.map Prod.fst).flatMap z0e)::HP.all (fs.map frP)::lgQ lg M::dk M.d D::r)) q.length ⟨0,rfl,by omega,rfl,hs⟩ ?_
   clear hs
   rintro m _ w ⟨i,rfl,hi,hm,hs⟩
   refine zm ?_
   refine ze (λhc=>?_) λhc=>?_
   rotate_left
   ·refine zh (zj ⟨?_,hs⟩)
    rw [List.take_of_length_le (by omega)]
   have hil:i<q.length:=by omega
   have hil2:i<fs.length:=by omega
   refine z22 hs (xs:=fs.map Prod.fst) (enc:=z0e) i (by rw [List.length_map];omega) ?_
   have e1:(fs.map Prod.fst)[i]'(by rw [List.length_map];omega)=fs[i].1:=by simp
   rw [e1]
   have hR:FocR (HP.all (fs.map frP)::lgQ lg M::dk M.d D::r) fs[i].1 1 (fs[i].2.flatMap zi):=zfi (List.getElem_mem hil2)
   have hl2:=hs.slen fs[i].1 (xs:=fs[i].2) (enc:=zi)
   rw [hfget i hil2] at hl2
   have hfi:((q.take (i+1)).flatMap frL).length=((q.take i).flatMap frL).length+(frL q[i]).length:=by
    rw [List.take_succ_eq_append_getElem hil,List.flatMap_append,List.length_append];simp
   have:=hfsum (i+1)
   rw [hl2,w64 (by omega) (by omega)]
   refine wp_lt ?_
   rw [wS (i:=i) (by omega)]
   have ec:(((q.take i).flatMap frL).length:Int)+((frL q[i]).length:Nat)=(((q.take (i+1)).flatMap frL).length:Int):=by rw [hfi];omega
   rw [ec]
   exact z11 (q.length-(i+1)) ⟨i+1,rfl,by omega,rfl,hs⟩
  clear hs
  rintro _ w ⟨rfl,hs⟩
  refine zm ?_
  refine z8 (zfz (lg:=lg) (by omega) hs) λ_ w' hs=>?_
  obtain ⟨rfl,hs⟩:=hs
  refine zb ?_
  refine z8 (z051 (lg:=lg) (q.flatMap frL).length (by omega) (by omega) (λs hs'=>by have:=hfl s hs';omega) hs) λ_ w' hs=>?_
  obtain ⟨rfl,hs⟩:=hs
  refine zb ?_
  generalize hF:q.flatMap frL=Fr at *
  have hbsl:fs.map Prod.snd=q.map frL:=hfs
  have hflat:(fs.map Prod.snd).flatten=Fr:=by rw [hfs,<- hF,List.flatMap]
  have hlbound:∀ p ∈ fs,p.2.length<=262152:=λp hp=>by
   obtain ⟨i,hi,rfl⟩:=List.mem_iff_getElem.1 hp
   rw [hfget i hi]
   have:=z4v (hp2 _ (List.getElem_mem (show i<q.length by omega))).1
   have:=z5r (hp2 _ (List.getElem_mem (show i<q.length by omega))).1
   omega
  refine zf (λv w'=>∃ (M1:LogM) (SM0:List (Nat × SegM)) (a:Nat) (t:SegM) (D1:DiskA),v=(some ⟨a,0,none⟩,())/\M1.SM=SM0++[(a,t)]/\t.s.file.length<=600000000 /\
    (if z6s M.seg M.l Fr.length then
     if (z08 D (zl M.pre (z56 M.l) zu) Fr).1≠0 then ((0,(z08 D (zl M.pre (z56 M.l) zu) Fr).1),M.l,(z08 D (zl M.pre (z56 M.l) zu) Fr).2)
     else ((n0,(0:Int)),z4t M.l q,(z08 D (zl M.pre (z56 M.l) zu) Fr).2)
    else
     if (z0j M.pre M.l D).1≠0 then ((0,(z0j M.pre M.l D).1),M.l,(z0j M.pre M.l D).2) else
     if (z08 (z0j M.pre M.l D).2 (zl M.pre n0 zu) (shL n0 0++Fr)).1≠0 then ((0,(z08 (z0j M.pre M.l D).2 (zl M.pre n0 zu) (shL n0 0++Fr)).1),M.l,(z08 (z0j M.pre M.l D).2 (zl M.pre n0 zu) (shL n0 0++Fr)).2)
     else ((n0,0),M.l++[(⟨n0,0,[]⟩:SegA).add q],(z08 (z0j M.pre M.l D).2 (zl M.pre n0 zu) (shL n0 0++Fr)).2))=((n0,0),(SM0.map λt=>t.2.s)++[t.s.add q],D1) /\
    (M1.d=M.d/\M1.pre=M.pre/\M1.seg=M.seg/\M1.gap=M.gap) /\
    Sat w' (lgQ lg M1::dk M.d D1::slc T.a0 7 z1 (q.flatMap zv)::slc T.a46 1 z2 ((fs.map Prod.fst).flatMap z0e)::HP.all (fs.map frP)::r)) ?_ ?_
  ·refine ze (λhr=>?_) λhr=>?_
   ·
    have hr:z6s M.seg M.l Fr.length=false:=by simpa using hr
    rw [if_neg (by rw [hr];simp)]
    have hs:Sat w' (lgQ lg M::slc T.a0 7 z1 (q.flatMap zv)::slc T.a46 1 z2 ((fs.map Prod.fst).flatMap z0e)::HP.all (fs.map frP)::dk M.d D::r):=hs
    refine z8 (zqe (lg:=lg) (D:=D) (by omega) hok hs) λ_ w' hs=>?_
    obtain ⟨rfl,hs⟩:=hs
    refine zb ?_
    refine wp_lt ?_
    refine ze (λh2=>?_) λh2=>?_
    ·refine wp_lt ?_
     rw [if_pos h2]
     refine zh ⟨rfl,rfl,hsame hs.sub⟩
    rw [if_neg h2]
    generalize (z0j M.pre M.l D).2=D1 at *
    refine z8 (zat (lg:=lg) (by omega) hs) λ_ w' hs=>?_
    obtain ⟨rfl,hs⟩:=hs
    refine zb ?_
    rw [hn0]
    refine z8 (zl1 (lg:=lg) n0 0 (by omega) (by omega) hs) λ_ w' hs=>?_
    obtain ⟨a,ix,rfl,hs⟩:=hs
    refine zb ?_
    have hshl:=zhj n0 0
    refine zf (λv w'=>v=((z08 D1 (zl M.pre n0 zu) (shL n0 0++Fr)).1,())/\Sat w' (z0o M.gap a ⟨ix,⟨n0,0,[]⟩⟩::lgQ lg M::dk M.d (z08 D1 (zl M.pre n0 zu) (shL n0 0++Fr)).2::slc T.a0 7 z1 (q.flatMap zv)::slc T.a46 1 z2 ((fs.map Prod.fst).flatMap z0e)::HP.all (fs.map frP)::r)) ?_ ?_
    ·obtain ⟨hokm,hs⟩:=z2t (hs.pick [1])
     have hs:=z3v (hs.pick [3])
     refine zx hs λw' hs=>?_
     refine zg ?_
     refine z18 hs ?_
     refine zg ?_
     refine za hs ?_
     refine zg ?_
     refine z18 hs ?_
     refine z8 (z7r (lg:=lg) n0 (by omega) (ByteArray.mk #[46,108,111,103]) (by decide) M.pre hokm.size hs) λ_ w' hs=>?_
     obtain ⟨rfl,hs⟩:=hs
     refine zb ?_ (by first|trivial|(repeat (first|exact trivial|exact λ_=>z09 hs|exact λ_=>z0m hs|refine And.intro ?_ ?_)))
     refine z8 (zkq n0 0 (by omega) (by omega) hs) λ_ w' hs=>?_
     obtain ⟨y,rfl,hs⟩:=hs
     refine zb ?_ (by first|trivial|(repeat (first|exact trivial|exact λ_=>z09 hs|exact λ_=>z0m hs|refine And.intro ?_ ?_)))
     refine z6j hs (enc:=z0e) [y] λy2 w' hs=>⟨(by first|trivial|(repeat (first|exact trivial|exact λ_=>z09 hs|exact λ_=>z0m hs|refine And.intro ?_ ?_))),?_⟩
     refine z04e (xs:=[y]) (ys:=fs.map Prod.fst) (enc:=z0e) hs (λy3 w' hs=>⟨(by first|trivial|(repeat (first|exact trivial|exact λ_=>z09 hs|exact λ_=>z0m hs|refine And.intro ?_ ?_))),?_⟩) (by rw [List.length_map];simp only [List.length_cons,List.length_nil];omega)
     refine zd ?_
     have hs:Sat w' (dk M.d D1::slc T.a46 1 y3 (([y]++fs.map Prod.fst).flatMap z0e)::slc T.a52 1 y ((shL n0 0).flatMap zi)::HP.all (fs.map frP)::pt a (.cells #[.pointer (some ⟨ix,0,none⟩),.int .i64 n0,.int .i64 0,.int .i64 (z0d []),.int .i64 (z1e (-1) []),.int .i64 ((SegA.file ⟨n0,0,[]⟩).length:Nat)] T.a49)::z2d ix ((SegA.mk n0 0 []).idx M.gap)::pt lg (.cells #[.pointer (some ⟨M.d,0,none⟩),.string M.pre,.int .i64 M.seg,.int .i64 M.gap,.slice M.z.a M.z.len M.z.cap] T.a48)::slc T.a33 1 M.z ((M.SM.map Prod.fst).flatMap z1p)::HP.all (M.SM.map λt=>z0o M.gap t.1 t.2)::slc T.a0 7 z1 (q.flatMap zv)::slc T.a46 1 z2 ((fs.map Prod.fst).flatMap z0e)::r):=hs.sub
     have hall:∀ p ∈ ((y,shL n0 0)::fs),FocR (slc T.a46 1 y3 (([y]++fs.map Prod.fst).flatMap z0e)::slc T.a52 1 y ((shL n0 0).flatMap zi)::HP.all (fs.map frP)::pt a (.cells #[.pointer (some ⟨ix,0,none⟩),.int .i64 n0,.int .i64 0,.int .i64 (z0d []),.int .i64 (z1e (-1) []),.int .i64 ((SegA.file ⟨n0,0,[]⟩).length:Nat)] T.a49)::z2d ix ((SegA.mk n0 0 []).idx M.gap)::pt lg (.cells #[.pointer (some ⟨M.d,0,none⟩),.string M.pre,.int .i64 M.seg,.int .i64 M.gap,.slice M.z.a M.z.len M.z.cap] T.a48)::slc T.a33 1 M.z ((M.SM.map Prod.fst).flatMap z1p)::HP.all (M.SM.map λt=>z0o M.gap t.1 t.2)::slc T.a0 7 z1 (q.flatMap zv)::slc T.a46 1 z2 ((fs.map Prod.fst).flatMap z0e)::r) p.1 1 (p.2.flatMap zi):=λp hp=>by
      rcases List.mem_cons.1 hp with rfl|hp
      ·infer_instance
      ·have:FocR (HP.all (fs.map frP)::pt a (.cells #[.pointer (some ⟨ix,0,none⟩),.int .i64 n0,.int .i64 0,.int .i64 (z0d []),.int .i64 (z1e (-1) []),.int .i64 ((SegA.file ⟨n0,0,[]⟩).length:Nat)] T.a49)::z2d ix ((SegA.mk n0 0 []).idx M.gap)::pt lg (.cells #[.pointer (some ⟨M.d,0,none⟩),.string M.pre,.int .i64 M.seg,.int .i64 M.gap,.slice M.z.a M.z.len M.z.cap] T.a48)::slc T.a33 1 M.z ((M.SM.map Prod.fst).flatMap z1p)::HP.all (M.SM.map λt=>z0o M.gap t.1 t.2)::slc T.a0 7 z1 (q.flatMap zv)::slc T.a46 1 z2 ((fs.map Prod.fst).flatMap z0e)::r) p.1 1 (p.2.flatMap zi):=zfi hp
       infer_instance
     have hpsF:FocR (slc T.a46 1 y3 (([y]++fs.map Prod.fst).flatMap z0e)::slc T.a52 1 y ((shL n0 0).flatMap zi)::HP.all (fs.map frP)::pt a (.cells #[.pointer (some ⟨ix,0,none⟩),.int .i64 n0,.int .i64 0,.int .i64 (z0d []),.int .i64 (z1e (-1) []),.int .i64 ((SegA.file ⟨n0,0,[]⟩).length:Nat)] T.a49)::z2d ix ((SegA.mk n0 0 []).idx M.gap)::pt lg (.cells #[.pointer (some ⟨M.d,0,none⟩),.string M.pre,.int .i64 M.seg,.int .i64 M.gap,.slice M.z.a M.z.len M.z.cap] T.a48)::slc T.a33 1 M.z ((M.SM.map Prod.fst).flatMap z1p)::HP.all (M.SM.map λt=>z0o M.gap t.1 t.2)::slc T.a0 7 z1 (q.flatMap zv)::slc T.a46 1 z2 ((fs.map Prod.fst).flatMap z0e)::r) y3 1 ((((y,shL n0 0)::fs).map Prod.fst).flatMap zef):=(inferInstance:FocR _ y3 1 (([y]++fs.map Prod.fst).flatMap z0e))
     refine z8 (zk2 (d:=M.d) (A:=D1) (zl M.pre n0 (bl (ByteArray.mk #[46,108,111,103]))) y3 (((y,shL n0 0)::fs).map Prod.fst) (((y,shL n0 0)::fs).map Prod.snd) (hps:=hpsF) (zlf hall) (by simp only [List.length_map,List.length_cons];omega) (λb hb=>?_) hs) λ_ w' hs=>?_
     ·obtain ⟨p,hp,rfl⟩:=List.mem_map.1 hb
      rcases List.mem_cons.1 hp with rfl|hp
      ·show (shL n0 0).length<=_;omega
      ·have:=hlbound p hp;omega
     obtain ⟨rfl,hs⟩:=hs
     refine zb ?_
     refine wp_lt ?_
     refine zd ?_
     have e2:(((y,shL n0 0)::fs).map Prod.snd).flatten=shL n0 0++Fr:=by rw [List.map_cons,List.flatten_cons,hflat]
     rw [e2] at hs ⊢
     refine zj ⟨rfl,?_⟩
     have hs:Sat w' (dk M.d (z08 D1 (zl M.pre n0 zu) (shL n0 0++Fr)).2::slc T.a46 1 y3 _::slc T.a52 1 y _::HP.all (fs.map frP)::pt a _::z2d ix _::pt lg _::slc T.a33 1 M.z _::HP.all (M.SM.map λt=>z0o M.gap t.1 t.2)::slc T.a0 7 z1 (q.flatMap zv)::slc T.a46 1 z2 ((fs.map Prod.fst).flatMap z0e)::r):=hs
     have hs:=z1n M hokm (hs.pick [6,6,6])
     have hs:Sat w' (z0o M.gap a ⟨ix,⟨n0,0,[]⟩⟩::lgQ lg M::dk M.d _::slc T.a46 1 y3 _::slc T.a52 1 y _::HP.all (fs.map frP)::slc T.a0 7 z1 (q.flatMap zv)::slc T.a46 1 z2 ((fs.map Prod.fst).flatMap z0e)::r):=z2p ⟨ix,⟨n0,0,[]⟩⟩ (hs.pick [5,5])
     exact hs.sub
    rintro _ w2 ⟨rfl,hs⟩
    refine ze (λh3=>?_) λh3=>?_
    ·refine wp_lt ?_
     rw [if_pos h3]
     refine zh ⟨rfl,rfl,hsame hs.sub⟩
    rw [if_neg h3]
    have hs:=hs.pick [1]
    refine z8 (z001 (lg:=lg) a ⟨ix,⟨n0,0,[]⟩⟩ (by omega) hs) λ_ w' hs=>?_
    obtain ⟨z,rfl,hs⟩:=hs
    refine zb ?_
    refine zj ⟨{ M with z:=z,SM:=M.SM++[(a,⟨ix,⟨n0,0,[]⟩⟩)] },M.SM,a,⟨ix,⟨n0,0,[]⟩⟩,(z08 D1 (zl M.pre n0 zu) (shL n0 0++Fr)).2,rfl,rfl,?_,rfl,⟨rfl,rfl,rfl,rfl⟩,hs⟩
    rw [z2k]
    simp only [List.flatMap_nil,List.length_nil]
    omega
   ·
    have hr:z6s M.seg M.l Fr.length=true:=by simpa using hr
    rw [if_pos hr]
    have h0:M.SM≠[]:=by
     intro h0
     have:M.l=[]:=by unfold LogM.l;rw [h0];rfl
     rw [this] at hr
     cases hr
    obtain ⟨SM0,⟨a,t⟩,hSM⟩:=z3d h0
    have hl1:M.l=SM0.map (λt=>t.2.s)++[t.s]:=by unfold LogM.l;rw [hSM];simp
    have hbase:z56 M.l=t.s.base:=by unfold z56;rw [hl1,z1t]
    have hadd:z4t M.l q=SM0.map (λt=>t.2.s)++[t.s.add q]:=by unfold z4t;rw [hl1,z1t];simp
    have hlst:M.SM.getLast? = some (a,t):=by rw [hSM,z1t]
    rw [hlst]
    have htm:t.s ∈ M.l:=by rw [hl1];simp
    have htb:=(hok.mem _ htm).1.base
    have htf:=hfl _ htm
    refine zf (λv w'=>v=((z08 D (zl M.pre (z56 M.l) zu) Fr).1,())/\Sat w' (lgQ lg M::dk M.d (z08 D (zl M.pre (z56 M.l) zu) Fr).2::slc T.a0 7 z1 (q.flatMap zv)::slc T.a46 1 z2 ((fs.map Prod.fst).flatMap z0e)::HP.all (fs.map frP)::r)) ?_ ?_
    ·obtain ⟨hokm,hs⟩:=zbz hSM hs
     have hs:=z3v hs
     refine zx hs λw' hs=>?_
     refine zg ?_
     refine z18 hs ?_
     refine zg ?_
     refine za hs ?_
     refine z8 (z7r (lg:=lg) t.s.base (by omega) (ByteArray.mk #[46,108,111,103]) (by decide) M.pre hokm.size hs) λ_ w' hs=>?_
     obtain ⟨rfl,hs⟩:=hs
     refine zb ?_ (by first|trivial|(repeat (first|exact trivial|exact λ_=>z09 hs|exact λ_=>z0m hs|refine And.intro ?_ ?_)))
     refine zd ?_
     have hs:=hs.pick [8]
     have hall:∀ p ∈ fs,FocR (pt a (.cells #[.pointer (some ⟨t.ix,0,none⟩),.int .i64 t.s.base,.int .i64 t.s.fin,.int .i64 (z0d t.s.bs),.int .i64 (z1e (-1) t.s.bs),.int .i64 (t.s.file.length:Nat)] T.a49)::z2d t.ix (t.s.idx M.gap)::pt lg (.cells #[.pointer (some ⟨M.d,0,none⟩),.string M.pre,.int .i64 M.seg,.int .i64 M.gap,.slice M.z.a M.z.len M.z.cap] T.a48)::slc T.a33 1 M.z ((SM0.map Prod.fst++[a]).flatMap z1p)::HP.all (SM0.map λt=>z0o M.gap t.1 t.2)::slc T.a0 7 z1 (q.flatMap zv)::slc T.a46 1 z2 ((fs.map Prod.fst).flatMap z0e)::HP.all (fs.map frP)::r) p.1 1 (p.2.flatMap zi):=λp hp=>by
      have:FocR (HP.all (fs.map frP)::r) p.1 1 (p.2.flatMap zi):=zfi hp
      infer_instance
     have hpsF:FocR (pt a (.cells #[.pointer (some ⟨t.ix,0,none⟩),.int .i64 t.s.base,.int .i64 t.s.fin,.int .i64 (z0d t.s.bs),.int .i64 (z1e (-1) t.s.bs),.int .i64 (t.s.file.length:Nat)] T.a49)::z2d t.ix (t.s.idx M.gap)::pt lg (.cells #[.pointer (some ⟨M.d,0,none⟩),.string M.pre,.int .i64 M.seg,.int .i64 M.gap,.slice M.z.a M.z.len M.z.cap] T.a48)::slc T.a33 1 M.z ((SM0.map Prod.fst++[a]).flatMap z1p)::HP.all (SM0.map λt=>z0o M.gap t.1 t.2)::slc T.a0 7 z1 (q.flatMap zv)::slc T.a46 1 z2 ((fs.map Prod.fst).flatMap z0e)::HP.all (fs.map frP)::r) z2 1 ((fs.map Prod.fst).flatMap zef):=(inferInstance:FocR _ z2 1 ((fs.map Prod.fst).flatMap z0e))
     refine z8 (zk2 (d:=M.d) (A:=D) (zl M.pre t.s.base (bl (ByteArray.mk #[46,108,111,103]))) z2 (fs.map Prod.fst) (fs.map Prod.snd) (hps:=hpsF) (zlf hall) (by simp only [List.length_map];omega) (λb hb=>?_) hs) λ_ w' hs=>?_
     ·obtain ⟨p,hp,rfl⟩:=List.mem_map.1 hb
      have:=hlbound p hp;omega
     obtain ⟨rfl,hs⟩:=hs
     refine zb ?_
     refine wp_lt ?_
     refine zd ?_
     rw [hflat] at hs ⊢
     refine zj ⟨by rw [hbase];rfl,?_⟩
     rw [hbase]
     have hs:Sat w' (dk M.d (z08 D (zl M.pre t.s.base zu) Fr).2::pt a _::z2d t.ix _::pt lg _::slc T.a33 1 M.z _::HP.all (SM0.map λt=>z0o M.gap t.1 t.2)::slc T.a0 7 z1 (q.flatMap zv)::slc T.a46 1 z2 ((fs.map Prod.fst).flatMap z0e)::HP.all (fs.map frP)::r):=hs
     have hs:=zas M hokm (z2p t (hs.pick [1,1]) |>.pick [0,1,1,1])
     have e:{ M with SM:=SM0++[(a,t)] }=M:=by rw [<- hSM]
     rw [e] at hs
     exact hs.sub
    rintro _ w2 ⟨rfl,hs⟩
    refine ze (λh3=>?_) λh3=>?_
    ·refine wp_lt ?_
     rw [if_pos h3]
     refine zh ⟨rfl,rfl,hsame hs.sub⟩
    rw [if_neg h3]
    refine zj ⟨M,SM0,a,t,(z08 D (zl M.pre (z56 M.l) zu) Fr).2,rfl,hSM,by omega,by rw [hadd],⟨rfl,rfl,rfl,rfl⟩,hs⟩
  rintro _ w2 ⟨M1,SM0,a,t,D1,rfl,hSM,htl,hres,⟨hd1,hd2,hd3,hd4⟩,hs⟩
  clear hsame
  rw [hres]
  obtain ⟨hokm,hs⟩:=zbz hSM hs
  have hF2:∀ i,((q.take i).flatMap frL).length<=Fr.length:=hfsum
  have hlq:=hs.slen z1 (xs:=q) (enc:=zv)
  refine zf (λ_ w'=>Sat w' (z0o M1.gap a ⟨t.ix,t.s.add q⟩::pt lg (.cells #[.pointer (some ⟨M1.d,0,none⟩),.string M1.pre,.int .i64 M1.seg,.int .i64 M1.gap,.slice M1.z.a M1.z.len M1.z.cap] T.a48)::slc T.a33 1 M1.z ((SM0.map Prod.fst++[a]).flatMap z1p)::HP.all (SM0.map λt=>z0o M1.gap t.1 t.2)::dk M.d D1::slc T.a0 7 z1 (q.flatMap zv)::slc T.a46 1 z2 ((fs.map Prod.fst).flatMap z0e)::HP.all (fs.map frP)::r)) ?_ ?_
  ·refine z03 (λm v w=>∃ i:Nat,v=((i:Int),())/\i<=q.length/\q.length-i=m/\Sat w (z0o M1.gap a ⟨t.ix,t.s.add (q.take i)⟩::pt lg (.cells #[.pointer (some ⟨M1.d,0,none⟩),.string M1.pre,.int .i64 M1.seg,.int .i64 M1.gap,.slice M1.z.a M1.z.len M1.z.cap] T.a48)::slc T.a33 1 M1.z ((SM0.map Prod.fst++[a]).flatMap z1p)::HP.all (SM0.map λt=>z0o M1.gap t.1 t.2)::dk M.d D1::slc T.a0 7 z1 (q.flatMap zv)::slc T.a46 1 z2 ((fs.map Prod.fst).flatMap z0e)::HP.all (fs.map frP)::r)) q.length ⟨0,rfl,by omega,rfl,by rw [List.take_zero,zgv];exact hs⟩ ?_
   clear hs
   rintro m _ w ⟨i,rfl,hi,hm,hs⟩
   refine zm ?_
   refine ze (λhc=>?_) λhc=>?_
   rotate_left
   ·refine zh (zj ?_)
    rwa [List.take_of_length_le (by omega)] at hs
   have hil:i<q.length:=by omega
   have hil2:i<fs.length:=by omega
   refine z4l hs (xs:=q) (enc:=zv) i hil ?_
   refine zq hs λc w' hs=>?_
   refine wp_lt ?_
   refine zr hs λw' hs=>?_
   refine zx hs λw' hs=>?_
   refine zk hs ?_
   refine z22 hs (xs:=fs.map Prod.fst) (enc:=z0e) i (by rw [List.length_map];omega) ?_
   have e1:(fs.map Prod.fst)[i]'(by rw [List.length_map];omega)=fs[i].1:=by simp
   rw [e1]
   have hR:FocR (HP.all (fs.map frP)::r) fs[i].1 1 (fs[i].2.flatMap zi):=zfi (List.getElem_mem hil2)
   have hl2:=hs.slen fs[i].1 (xs:=fs[i].2) (enc:=zi)
   rw [hfget i hil2] at hl2
   rw [hl2]
   obtain ⟨hvq,c0,hc0,hcx,hcr⟩:=hp2 q[i] (List.getElem_mem hil)
   have hRb:FocR r q[i].x 4 (q[i].rs.flatMap z04):=by rw [hcx,hcr];exact hbs c0 hc0
   have hfi:((q.take (i+1)).flatMap frL).length=((q.take i).flatMap frL).length+(frL q[i]).length:=by
    rw [List.take_succ_eq_append_getElem hil,List.flatMap_append,List.length_append];simp
   have:=hF2 (i+1)
   refine z8 (zwr (gap:=M1.gap) (a:=a) q[i] hvq (by show (t.s.add (q.take i)).file.length+_<=_;rw [z6u,List.length_append];omega) hs) λ_ w' hs=>?_
   obtain ⟨rfl,hs⟩:=hs
   refine zb ?_
   refine zd ?_
   rw [wS (i:=i) (by omega)]
   refine z11 (q.length-(i+1)) ⟨i+1,rfl,by omega,rfl,?_⟩
   have e2:(t.s.add (q.take i)).add [q[i]]=t.s.add (q.take (i+1)):=by rw [zpm,List.take_succ_eq_append_getElem hil]
   have hs:Sat w' (z0o M1.gap a ⟨t.ix,(t.s.add (q.take i)).add [q[i]]⟩::_):=hs
   rw [e2] at hs
   exact hs.sub
  clear hs
  rintro _ w3 hs
  refine zm ?_
  refine z04g hs (xs:=q) (enc:=zv) 0 (by omega) ?_
  refine wp_lt ?_
  have hq0:(q[0]'(by omega)).base=n0:=hp3 _ (by rw [List.head?_eq_getElem?,List.getElem?_eq_getElem])
  rw [hq0]
  refine ⟨rfl,rfl,?_⟩
  have hs:=z4d _ (zas M1 hokm hs)
  have eA:LogM.A { M1 with SM:=SM0++[(a,(⟨t.ix,t.s.add q⟩:SegM))] }=M.A.set ((SM0.map λt=>t.2.s)++[t.s.add q]):=by
   unfold LogM.A LogM.l LogA.set
   simp only [List.map_append,List.map_cons,List.map_nil,hd1,hd2,hd3,hd4]
  rw [eA] at hs
  exact hs.sub
end
def z2y (s:SegA) (k:Nat):Nat:=(shL s.base s.fin).length+((s.bs.take k).flatMap frL).length
def z06 (l:List SegA):List BatM:=l.flatMap SegA.bs
def z5d (l:List SegA) (off most:Int):Int × List BatM:=if most<1 then (2,[]) else if off<z1b l\/off>zt l then (8,[]) else (0,((z06 l).filterMap (z0q off)).take most.toNat)
def zw9 (s:SegA) (o:Option EntA):Int:=match o with
 | none=>((shL s.base s.fin).length:Int)
 | some e=>e.place
theorem zwa (s:SegA):z2y s 0=(shL s.base s.fin).length:=by simp [z2y]
theorem zyj (s:SegA):z2y s s.bs.length=s.file.length:=by unfold z2y;rw [List.take_length,z2k]
theorem zix (s:SegA) {k:Nat} (hk:k<s.bs.length):z2y s (k+1)=z2y s k+(frL s.bs[k]).length:=by
 unfold z2y
 rw [List.take_succ_eq_append_getElem hk,List.flatMap_append,List.length_append]
 simp
 omega
theorem zhe (s:SegA) (k:Nat):z2y s k<=s.file.length:=by
 unfold z2y
 rw [z2k]
 have:(s.bs.flatMap frL)=(s.bs.take k).flatMap frL++(s.bs.drop k).flatMap frL:=by rw [<- List.flatMap_append,List.take_append_drop]
 rw [this,List.length_append];omega
theorem zva (s:SegA) (k:Nat):s.file.drop (z2y s k)=(s.bs.drop k).flatMap frL:=by
 have e:s.file=(shL s.base s.fin++(s.bs.take k).flatMap frL)++(s.bs.drop k).flatMap frL:=by
  unfold SegA.file
  rw [List.append_assoc,<- List.flatMap_append,List.take_append_drop]
 rw [e]
 exact List.drop_left' (by rw [List.length_append];rfl)
theorem zrw {s:SegA} (h:SegOk s) {k:Nat} (hk:k<s.bs.length):z0x (s.file.drop (z2y s k))=some (z2j s.bs[k],(frL s.bs[k]).length)/\z5s (z2j s.bs[k])=some s.bs[k]:=by
 obtain ⟨hv,hp⟩:=h.bs.valid s.bs[k] (List.getElem_mem hk)
 have hl:=z5r hv
 have hf:=z4v hv
 refine ⟨?_,by rw [zi3 hv,hp]⟩
 rw [zva,List.drop_eq_getElem_cons hk,List.flatMap_cons,hf.2]
 exact z6c hl.2 _
theorem z1m.lt:∀ {n:Int} {bs:List BatM},z1m n bs->∀ (j i:Nat) (hi:i<bs.length) (hj:j<i),n<=(bs[j]'(by omega)).base/\(bs[j]'(by omega)).base+zo (bs[j]'(by omega))<=bs[i].base
 | n,b::bs,⟨h1,h2,h3,h4⟩,0,i+1,hi,hj=>by
  refine ⟨h3,?_⟩
  simp only [List.getElem_cons_zero,List.getElem_cons_succ]
  have hi:i<bs.length:=by simpa using hi
  obtain ⟨s1,-,-,-,-⟩:=z16 b h1
  cases i with
  | zero =>
   cases bs with
   | nil=>simp at hi
   | cons c cs=>exact h4.2.2.1
  | succ i =>
   have:=(h4.lt 0 (i+1) hi (by omega)).1
   have h5:=(h4.lt 0 (i+1) hi (by omega)).2
   obtain ⟨s2,-,-,-,-⟩:=z16 _ (h4.valid _ (List.getElem_mem (show 0<bs.length by omega))).1
   omega
 | n,b::bs,⟨h1,h2,h3,h4⟩,j+1,i+1,hi,hj=>by
  simp only [List.getElem_cons_succ]
  have hi:i<bs.length:=by simpa using hi
  have:=h4.lt j i hi (by omega)
  obtain ⟨s1,-,-,-,-⟩:=z16 b h1
  exact ⟨by omega,this.2⟩
theorem z1m.le_next {n:Int} {bs:List BatM} (h:z1m n bs) {b:BatM} (hb:b ∈ bs):b.base+zo b<=z0d bs:=by
 obtain ⟨j,hj,rfl⟩:=List.mem_iff_getElem.1 hb
 have hne:bs≠[]:=by rintro rfl;simp at hj
 have e:z0d bs=(bs[bs.length-1]'(by omega)).base+zo (bs[bs.length-1]'(by omega)):=by
  unfold z0d
  rw [List.getLast?_eq_getElem?,List.getElem?_eq_getElem (by omega)]
 rw [e]
 by_cases hjl:j=bs.length-1
 ·subst hjl;exact Int.le_refl _
 ·have:=(h.lt j (bs.length-1) (by omega) (by omega)).2
  obtain ⟨s1,-,-,-,-⟩:=z16 _ (h.valid _ (List.getElem_mem (show bs.length-1<bs.length by omega))).1
  omega
theorem zfw {off:Int} {b:BatM} (hv:z05 b=0) (h:b.base+zo b<=off):z0q off b=none:=by
 unfold z0q
 rw [if_pos (.inr (by unfold z1r;rw [if_neg (by rw [hv];simp)];exact h))]
theorem zpz {off:Int} {b c:BatM} (hp:b.p=b) (h:z0q off b=some c):c.p=c:=by
 have hx:b.x=z7t:=by rw [<- hp];rfl
 unfold z0q at h
 split at h
 ·cases h
 ·split at h
  ·simp only [Option.some.injEq] at h;subst h;exact hp
  ·simp only [Option.some.injEq] at h;subst h;unfold zjm BatM.p;simp only [hx];rfl
theorem zam {α β:Type} {f:α->Option β} {l:List α} (h:∀ x ∈ l,f x=none):l.filterMap f=[]:=by
 rw [List.filterMap_eq_nil_iff];exact h
theorem zvd {s:SegA} (h:SegOk s) (hl:s.file.length<=4194304) (gap off:Int):∃ k,k<=s.bs.length/\zw9 s (z33 (s.idx gap).l off)=((z2y s k:Nat):Int)/\∀ b ∈ s.bs.take k,b.base+zo b<=off:=by
 have hi:=zkr gap s.bs.length (n:=s.base) (q:=(shL s.base s.fin).length) rfl h.base.1 (by omega) h.bs (by have:=z2k s;omega)
 cases hf:z33 (s.idx gap).l off with
 | none=>exact ⟨0,Nat.zero_le _,by rw [zwa];rfl,by simp⟩
 | some e =>
  unfold z33 at hf
  obtain ⟨a,c,hac,he,-⟩:=zmg hf
  have he:e.offset<=off:=by simpa using he
  obtain ⟨i,hil,hie⟩:=hi.ent e (by show e ∈ (s.idx gap).l;rw [hac];simp)
  refine ⟨i,by omega,?_,λb hb=>?_⟩
  ·show e.place=_
   rw [hie]
   unfold z2y
   simp only
   omega
  ·obtain ⟨j,hj,rfl⟩:=List.mem_iff_getElem.1 hb
   rw [List.length_take] at hj
   rw [List.getElem_take]
   have:=(h.bs.lt j i hil (by omega)).2
   rw [hie] at he
   simp only at he
   omega
theorem z0b.skip:∀ {n:Int} {l:List SegA},z0b n l->∀ (i j:Nat) (hj:j<l.length) (hi:i<j),(l[i]'(by omega)).reach<=l[j].base/\(l[i]'(by omega)).base<l[j].base
 | n,s::l,⟨h1,h2,h3⟩,0,j+1,hj,_=>by
  have hj:j<l.length:=by simpa using hj
  have:=(h3.mem l[j] (List.getElem_mem hj)).2
  simp only [List.getElem_cons_zero,List.getElem_cons_succ]
  omega
 | n,s::l,⟨h1,h2,h3⟩,i+1,j+1,hj,hi=>by
  simp only [List.getElem_cons_succ]
  exact h3.skip i j (by simpa using hj) (by omega)
theorem zz2 {l:List SegA} (hok:z0b 0 l) {off:Int} {i:Nat} (hi:i<l.length) (hb:l[i].base<=off\/i=0):(z06 l).filterMap (z0q off)=(z06 (l.drop i)).filterMap (z0q off):=by
 have e:z06 l=z06 (l.take i)++z06 (l.drop i):=by unfold z06;rw [<- List.flatMap_append,List.take_append_drop]
 rw [e,List.filterMap_append,zam (l:=z06 (l.take i)),List.nil_append]
 intro b hb'
 obtain ⟨s,hs,hbs⟩:=List.mem_flatMap.1 hb'
 obtain ⟨j,hj,rfl⟩:=List.mem_iff_getElem.1 hs
 rw [List.length_take] at hj
 rw [List.getElem_take] at hbs
 have h1:=(hok.skip j i hi (by omega)).1
 have hsg:=(hok.mem (l[j]'(by omega)) (List.getElem_mem _)).1
 have h2:=hsg.bs.le_next hbs
 have h3:=(z5c hsg).2.2.1
 refine zfw (hsg.bs.valid b hbs).1 ?_
 rcases hb with hb|hb
 ·omega
 ·omega
theorem zgz {s:SegA} (h:SegOk s):s.bs.length*10<=s.file.length:=by
 have:=z97 h.bs
 rw [z2k];omega
def z0u (pre:ByteArray):List ByteArray->DiskA->Int × List Int × DiskA
 | [],D=>(0,[],D)
 | n::ns,D=>if (z1d pre n z7s).isSome=true/\(z10 D n).1≠0 then ((z10 D n).1,[],(z10 D n).2) else
  ((z0u pre ns (if (z1d pre n z7s).isSome then (z10 D n).2 else D)).1,(match z1d pre n zu with|some b=>[(b:Int)]|none=>[])++(z0u pre ns (if (z1d pre n z7s).isSome then (z10 D n).2 else D)).2.1,(z0u pre ns (if (z1d pre n z7s).isSome then (z10 D n).2 else D)).2.2)
def z69 (pre:ByteArray):List Int->DiskA->Int × DiskA
 | [],D=>(0,D)
 | b::bs,D=>if (z10 D (zl pre b zu)).1≠0 then z10 D (zl pre b zu) else z69 pre bs (z10 D (zl pre b zu)).2
def z1o (pre:ByteArray) (l:List SegA) (D:DiskA) (base:Int):(Bool × Int) × List SegA × DiskA:=match z02 D.fs (zl pre base zu) with
 | none=>((false,3),l,D)
 | some p=>match z4k base p.1 with
  | none=>((false,(z10 D (zl pre base zu)).1),l,(z10 D (zl pre base zu)).2)
  | some q=>if q.2=p.1.length then ((true,0),l++[q.1],D) else ((false,(cutA' D (zl pre base zu) (q.2:Nat)).1),l++[q.1],(cutA' D (zl pre base zu) (q.2:Nat)).2)
def z1z (pre:ByteArray):List Int->List SegA->DiskA->Int × List SegA × DiskA
 | [],l,D=>(0,l,D)
 | b::bs,l,D=>if b<zt l then (if (z10 D (zl pre b zu)).1≠0 then ((z10 D (zl pre b zu)).1,l,(z10 D (zl pre b zu)).2) else z1z pre bs l (z10 D (zl pre b zu)).2) else
  if (z1o pre l D b).1.2≠0 then ((z1o pre l D b).1.2,(z1o pre l D b).2) else
  if (z1o pre l D b).1.1=true then z1z pre bs (z1o pre l D b).2.1 (z1o pre l D b).2.2 else ((z69 pre bs (z1o pre l D b).2.2).1,(z1o pre l D b).2.1,(z69 pre bs (z1o pre l D b).2.2).2)
def z4f (pre:ByteArray) (D:DiskA):Int × List SegA × DiskA :=
 if (z0u pre (z0y (z15 pre) D.fs) D).1≠0 then ((z0u pre (z0y (z15 pre) D.fs) D).1,[],(z0u pre (z0y (z15 pre) D.fs) D).2.2) else
  z1z pre (z0u pre (z0y (z15 pre) D.fs) D).2.1 [] (z0u pre (z0y (z15 pre) D.fs) D).2.2
theorem z02r (pre:ByteArray):pre++ByteArray.mk #[45]=z15 pre:=by
 apply zc7
 rw [zgw]
 unfold bl
 simp
theorem zx8 {pre n:ByteArray} {x:List UInt8} {v:Nat} (h:z1d pre n x=some v):v<17592186044416:=by
 unfold z1d at h
 split at h
 ·have:=zh2 (k:=0) h (by omega)
  have h2:16 ^ (0+(((bl n).drop ((bl pre).length+1)).take 11).length)<=16 ^ 11:=Nat.pow_le_pow_right (by omega) (by rw [List.length_take];omega)
  omega
 ·cases h
theorem zi9 {pre:ByteArray}:∀ {ns:List ByteArray} {D:DiskA},∀ b ∈ (z0u pre ns D).2.1,0<=b/\b<17592186044416
 | [],D,b,h=>by cases h
 | n::ns,D,b,h=>by
  unfold z0u at h
  split at h
  ·cases h
  ·simp only at h
   rcases List.mem_append.1 h with h|h
   ·cases hb:z1d pre n zu with
    | none=>rw [hb] at h;cases h
    | some v =>
     rw [hb] at h
     simp only [List.mem_cons,List.not_mem_nil,or_false] at h
     have:=zx8 hb
     omega
   ·exact zi9 b h
theorem zfu {pre:ByteArray}:∀ {ns:List ByteArray} {D:DiskA},(z0u pre ns D).2.1.length<=ns.length
 | [],D=>Nat.le_refl _
 | n::ns,D=>by
  unfold z0u
  split
  ·exact Nat.zero_le _
  ·simp only [List.length_append,List.length_cons]
   have:=zfu (pre:=pre) (ns:=ns) (D:=if (z1d pre n z7s).isSome then (z10 D n).2 else D)
   split <;> simp <;> omega
section
variable {w:World} {l r:List HP} {lg:Nat} {M:LogM} {A:LogA} {D:DiskA} {gap:Int} {a:Nat} {t:SegM}
def lgR (M:LogM):HP:=HP.star (slc T.a33 1 M.z ((M.SM.map Prod.fst).flatMap z1p)) (HP.all (M.SM.map λt=>z0o M.gap t.1 t.2))
theorem z9a (hs:Sat w (lgQ lg M::l)):okM M.gap M.seg M.pre/\Sat w (pt lg (.cells #[.pointer (some ⟨M.d,0,none⟩),.string M.pre,.int .i64 M.seg,.int .i64 M.gap,.slice M.z.a M.z.len M.z.cap] T.a48)::lgR M::l):=by
 obtain ⟨h,hs⟩:=hs.and
 exact ⟨h,hs.star⟩
theorem z4e (M:LogM) (h:okM M.gap M.seg M.pre) (hs:Sat w (pt lg (.cells #[.pointer (some ⟨M.d,0,none⟩),.string M.pre,.int .i64 M.seg,.int .i64 M.gap,.slice M.z.a M.z.len M.z.cap] T.a48)::lgR M::l)):Sat w (lgQ lg M::l):=.and_mk h (.star_mk hs)
theorem z02x {r1:List HP} [hf:Fo l lgQ lg M r1] [hf2:Fo r1 dk M.d D r] (hs:Sat w l) :
  Ret P F.a146 #[.pointer (some ⟨lg,0,none⟩)] w λvs w' =>
   ((z0u M.pre (z0y (z15 M.pre) D.fs) D).1≠0/\vs=[.slice none 0 0,.int .i64 (z0u M.pre (z0y (z15 M.pre) D.fs) D).1]/\Sat w' (lgQ lg M::dk M.d (z0u M.pre (z0y (z15 M.pre) D.fs) D).2.2::r)) \/
   ((z0u M.pre (z0y (z15 M.pre) D.fs) D).1=0/\∃ z:Sl,vs=[z.v,.int .i64 0]/\Sat w' (slc T.a14 1 z ((z0u M.pre (z0y (z15 M.pre) D.fs) D).2.1.flatMap z42)::lgQ lg M::dk M.d (z0u M.pre (z0y (z15 M.pre) D.fs) D).2.2::r)) :=
 znz _ <| by
  delta z01c AA AC AE AG AI AK AZ Ab Ac Ad Af Ag Ai Aj Ak Al An Aq Ay Bd Bf
  have hs:=hs.perm (hf.perm.trans (.cons _ hf2.perm))
  clear hf hf2
  obtain ⟨hokm,hs⟩:=z9a hs
  have hsz:=hokm.size
  refine zx hs λw' hs=>?_
  refine zg ?_
  refine za hs ?_
  refine zg ?_
  refine za hs ?_
  refine wp_must (by omega) ?_
  rw [z02r]
  obtain ⟨m_,FS_,-,hokD,-⟩:=z24 (hs.pick [2])
  have hok24:∀ n ∈ z0y (z15 M.pre) D.fs,n.size<=24:=λn hn=>by
   unfold z0y at hn
   obtain ⟨f,hf,rfl⟩:=List.mem_map.1 (List.mem_filter.1 hn).1
   exact hokD.names f hf
  have hnl:(z0y (z15 M.pre) D.fs).length<=128:=by
   unfold z0y
   exact Nat.le_trans (List.length_filter_le _ _) (by rw [List.length_map];exact hokD.many)
  refine z8 (zqh (d:=M.d) (A:=D) (z15 M.pre) hs) λ_ w' hs=>?_
  obtain ⟨x,rfl,hs⟩:=hs
  refine zb ?_
  refine zd ?_
  generalize z0y (z15 M.pre) D.fs=ns at *
  have hl:=hs.slen x (xs:=ns) (enc:=z27)
  refine zf (λq w'=>∃ z:Sl,q=(z,())/\(z0u M.pre ns D).1=0/\Sat w' (slc T.a14 1 z ((z0u M.pre ns D).2.1.flatMap z42)::lgQ lg M::dk M.d (z0u M.pre ns D).2.2::r)) ?_ ?_
  rotate_left
  ·rintro _ w2 ⟨z,rfl,h1,hs⟩
   exact ⟨rfl,.inr ⟨h1,z,rfl,hs⟩⟩
  have hs:Sat w' (slc T.a14 1 ⟨none,0,0⟩ (([]:List Int).flatMap z42)::dk M.d D::pt lg (.cells #[.pointer (some ⟨M.d,0,none⟩),.string M.pre,.int .i64 M.seg,.int .i64 M.gap,.slice M.z.a M.z.len M.z.cap] T.a48)::lgR M::slc T.a51 1 x (ns.flatMap z27)::r):=by
   have h1:Sat w' (slc T.a14 1 ⟨none,0,0⟩ (([]:List Int).flatMap z42)::_):=hs.slc_nil
   exact h1.sub
  refine z03 (λm v w=>∃ (i:Nat) (z:Sl) (done:List Int) (D':DiskA),v=(z,((i:Int),()))/\i<=ns.length/\ns.length-i=m/\done.length<=i /\
   ((z0u M.pre ns D).1=(z0u M.pre (ns.drop i) D').1/\(z0u M.pre ns D).2.2=(z0u M.pre (ns.drop i) D').2.2/\((z0u M.pre (ns.drop i) D').1=0->(z0u M.pre ns D).2.1=done++(z0u M.pre (ns.drop i) D').2.1)) /\
   Sat w (slc T.a14 1 z (done.flatMap z42)::dk M.d D'::pt lg (.cells #[.pointer (some ⟨M.d,0,none⟩),.string M.pre,.int .i64 M.seg,.int .i64 M.gap,.slice M.z.a M.z.len M.z.cap] T.a48)::lgR M::slc T.a51 1 x (ns.flatMap z27)::r)) ns.length
   ⟨0,⟨none,0,0⟩,[],D,rfl,by omega,rfl,by simp,⟨rfl,rfl,λ_=>rfl⟩,hs⟩ ?_
  clear hs
  rintro m _ w ⟨i,z,done,D',rfl,hi,hm,hdl,⟨hq1,hq2,hq3⟩,hs⟩
  refine zm ?_
  refine ze (λhc=>?_) λhc=>?_
  rotate_left
  ·have e:ns.drop i=[]:=List.drop_eq_nil_of_le (by omega)
   rw [e] at hq1 hq2 hq3
   have hq3:=hq3 rfl
   have e2:(z0u M.pre [] D').2.1=[]:=rfl
   rw [e2,List.append_nil] at hq3
   refine zh (zj ⟨z,rfl,hq1,?_⟩)
   have e3:(z0u M.pre [] D').2.2=D':=rfl
   rw [hq2,hq3,e3]
   have hs:=z4e M hokm (hs.pick [2,2])
   exact hs.sub
  have hil:i<ns.length:=by omega
  have hdrop:ns.drop i=ns[i]::ns.drop (i+1):=List.drop_eq_getElem_cons hil
  rw [hdrop] at hq1 hq2 hq3
  have hn24:=hok24 ns[i] (List.getElem_mem hil)
  refine z22 hs (xs:=ns) (enc:=z27) i hil ?_
  refine wp_lt ?_
  refine z8 (zpp (lg:=lg) ns[i] (ByteArray.mk #[46,108,111,103]) (by omega) (by decide) M.pre hsz hs) λ_ w' hs=>?_
  obtain ⟨rfl,hs⟩:=hs
  refine zb ?_
  refine wp_lt ?_
  refine wp_lt ?_
  have eb:z1d M.pre ns[i] (bl (ByteArray.mk #[46,108,111,103]))=z1d M.pre ns[i] zu:=rfl
  rw [eb]
  refine zf (λq w'=>∃ z':Sl,q=(z',())/\Sat w' (slc T.a14 1 z' ((done++(match z1d M.pre ns[i] zu with|some b=>[(b:Int)]|none=>[])).flatMap z42)::dk M.d D'::pt lg (.cells #[.pointer (some ⟨M.d,0,none⟩),.string M.pre,.int .i64 M.seg,.int .i64 M.gap,.slice M.z.a M.z.len M.z.cap] T.a48)::lgR M::slc T.a51 1 x (ns.flatMap z27)::r)) ?_ ?_
  ·cases hb:z1d M.pre ns[i] zu with
   | none =>
    refine zy ?_ (by simp)
    refine zj ⟨z,rfl,?_⟩
    rw [List.append_nil]
    exact hs
   | some b =>
    refine z0c ?_ (by rfl)
    refine z6m (xs:=done) (enc:=z42) (y:=(b:Int)) hs (λz' w' hs=>?_) rfl (by omega)
    exact zj ⟨z',rfl,hs⟩
  rintro _ w2 ⟨z',rfl,hs⟩
  have hdl2:(done++(match z1d M.pre ns[i] zu with|some b=>[(b:Int)]|none=>[])).length<=i+1:=by
   rw [List.length_append]
   split <;> simp <;> omega
  refine z8 (zpp (lg:=lg) ns[i] (ByteArray.mk #[46,110,101,119]) (by omega) (by decide) M.pre hsz hs) λ_ w' hs=>?_
  obtain ⟨rfl,hs⟩:=hs
  refine zb ?_
  refine wp_lt ?_
  refine wp_lt ?_
  have eb2:z1d M.pre ns[i] (bl (ByteArray.mk #[46,110,101,119]))=z1d M.pre ns[i] z7s:=rfl
  rw [eb2]
  have hun:z0u M.pre (ns[i]::ns.drop (i+1)) D'=if (z1d M.pre ns[i] z7s).isSome=true/\(z10 D' ns[i]).1≠0 then ((z10 D' ns[i]).1,[],(z10 D' ns[i]).2) else
   ((z0u M.pre (ns.drop (i+1)) (if (z1d M.pre ns[i] z7s).isSome then (z10 D' ns[i]).2 else D')).1,(match z1d M.pre ns[i] zu with|some b=>[(b:Int)]|none=>[])++(z0u M.pre (ns.drop (i+1)) (if (z1d M.pre ns[i] z7s).isSome then (z10 D' ns[i]).2 else D')).2.1,(z0u M.pre (ns.drop (i+1)) (if (z1d M.pre ns[i] z7s).isSome then (z10 D' ns[i]).2 else D')).2.2):=rfl
  refine zf (λq w'=>¬ ((z1d M.pre ns[i] z7s).isSome=true/\(z10 D' ns[i]).1≠0)/\Sat w' (slc T.a14 1 z' ((done++(match z1d M.pre ns[i] zu with|some b=>[(b:Int)]|none=>[])).flatMap z42)::dk M.d (if (z1d M.pre ns[i] z7s).isSome then (z10 D' ns[i]).2 else D')::pt lg (.cells #[.pointer (some ⟨M.d,0,none⟩),.string M.pre,.int .i64 M.seg,.int .i64 M.gap,.slice M.z.a M.z.len M.z.cap] T.a48)::lgR M::slc T.a51 1 x (ns.flatMap z27)::r)) ?_ ?_
  ·refine ze (λh=>?_) λh=>?_
   rotate_left
   ·refine zj ⟨λhh=>h hh.1,?_⟩
    rw [if_neg h]
    exact hs
   refine zg ?_
   refine za hs ?_
   refine z8 (zbk (d:=M.d) (A:=D') ns[i] hs) λ_ w' hs=>?_
   obtain ⟨rfl,hs⟩:=hs
   refine zb ?_
   refine wp_lt ?_
   refine ze (λh2=>?_) λh2=>?_
   ·refine wp_lt ?_
    rw [if_pos ⟨h,h2⟩] at hun
    rw [hun] at hq1 hq2
    have hs:=z4e M hokm (hs.pick [2,2])
    refine zh (zh (zh ⟨rfl,.inl ⟨by rw [hq1];exact h2,by rw [hq1],?_⟩⟩))
    rw [hq2]
    exact hs.sub
   ·refine zj ⟨λhh=>h2 hh.2,?_⟩
    rw [if_pos h]
    exact hs.sub
  rintro _ w3 ⟨hno,hs⟩
  rw [if_neg hno] at hun
  rw [hun] at hq1 hq2 hq3
  refine zm ?_
  rw [wS (i:=i) (by omega)]
  refine z11 (ns.length-(i+1)) ⟨i+1,z',done++(match z1d M.pre ns[i] zu with|some b=>[(b:Int)]|none=>[]),_,rfl,by omega,rfl,hdl2,⟨hq1,hq2,λh=>?_⟩,hs⟩
  rw [hq3 h,List.append_assoc]
theorem z02s (x:Sl) (bs:List Int) (hb:∀ b ∈ bs,0<=b/\b<17592186044416) {r1:List HP} [hf:Fo l lgQ lg M r1] [hf2:Fo r1 dk M.d D r] (hx:FocR r x 1 (bs.flatMap z42)) (hlen:bs.length<=1000000) (hs:Sat w l) :
  Ret P F.a145 #[.pointer (some ⟨lg,0,none⟩),x.v] w λvs w'=>vs=[.int .i64 (z69 M.pre bs D).1]/\Sat w' (lgQ lg M::dk M.d (z69 M.pre bs D).2::r) :=
 zny _ x <| by
  delta z01b AA AG AI AK AL AP AT Aa Ac Ad Af Ai Aj Al An Ap Aq
  have hs:=hs.perm (hf.perm.trans (.cons _ hf2.perm))
  clear hf hf2
  obtain ⟨hokm,hs⟩:=z9a hs
  have hsz:=hokm.size
  have hl:=hs.slen x (xs:=bs) (enc:=z42)
  refine zf (λ_ w'=>(z69 M.pre bs D).1=0/\Sat w' (lgQ lg M::dk M.d (z69 M.pre bs D).2::r)) ?_ ?_
  rotate_left
  ·rintro _ w2 ⟨h1,hs⟩
   rw [h1]
   exact ⟨rfl,rfl,hs⟩
  refine z03 (λm v w=>∃ (i:Nat) (D':DiskA),v=((i:Int),())/\i<=bs.length/\bs.length-i=m/\z69 M.pre bs D=z69 M.pre (bs.drop i) D' /\
   Sat w (pt lg (.cells #[.pointer (some ⟨M.d,0,none⟩),.string M.pre,.int .i64 M.seg,.int .i64 M.gap,.slice M.z.a M.z.len M.z.cap] T.a48)::lgR M::dk M.d D'::r)) bs.length ⟨0,D,rfl,by omega,rfl,rfl,hs⟩ ?_
  clear hs
  rintro m _ w ⟨i,D',rfl,hi,hm,hq,hs⟩
  refine zm ?_
  refine ze (λhc=>?_) λhc=>?_
  rotate_left
  ·have e:bs.drop i=[]:=List.drop_eq_nil_of_le (by omega)
   rw [e] at hq
   refine zh (zj ⟨by rw [hq];rfl,?_⟩)
   rw [hq]
   exact z4e M hokm hs
  have hil:i<bs.length:=by omega
  rw [List.drop_eq_getElem_cons hil] at hq
  have hbb:=hb bs[i] (List.getElem_mem hil)
  refine z22 hs (xs:=bs) (enc:=z42) i hil ?_
  refine wp_lt ?_
  have hun:z69 M.pre (bs[i]::bs.drop (i+1)) D'=if (z10 D' (zl M.pre bs[i] zu)).1≠0 then z10 D' (zl M.pre bs[i] zu) else z69 M.pre (bs.drop (i+1)) (z10 D' (zl M.pre bs[i] zu)).2:=rfl
  refine zf (λv w'=>v=((z10 D' (zl M.pre bs[i] zu)).1,())/\Sat w' (pt lg (.cells #[.pointer (some ⟨M.d,0,none⟩),.string M.pre,.int .i64 M.seg,.int .i64 M.gap,.slice M.z.a M.z.len M.z.cap] T.a48)::lgR M::dk M.d (z10 D' (zl M.pre bs[i] zu)).2::r)) ?_ ?_
  ·refine zx hs λw' hs=>?_
   refine zg ?_
   refine z18 hs ?_
   refine z8 (z7r (lg:=lg) bs[i] hbb (ByteArray.mk #[46,108,111,103]) (by decide) M.pre hsz hs) λ_ w' hs=>?_
   obtain ⟨rfl,hs⟩:=hs
   refine zb ?_ (by first|trivial|(repeat (first|exact trivial|exact λ_=>z09 hs|exact λ_=>z0m hs|refine And.intro ?_ ?_)))
   refine zd ?_
   refine z8 (zbk (d:=M.d) (A:=D') (zl M.pre bs[i] (bl (ByteArray.mk #[46,108,111,103]))) hs) λ_ w' hs=>?_
   obtain ⟨rfl,hs⟩:=hs
   refine zb ?_
   refine wp_lt ?_
   refine zd ?_
   have hs:Sat w' (dk M.d (z10 D' (zl M.pre bs[i] zu)).2::_):=hs
   exact zj ⟨rfl,hs.sub⟩
  rintro _ w2 ⟨rfl,hs⟩
  refine ze (λh=>?_) λh=>?_
  ·refine wp_lt ?_
   rw [if_pos h] at hun
   rw [hun] at hq
   rw [hq]
   exact zh (zh ⟨rfl,rfl,z4e M hokm hs⟩)
  ·rw [if_neg h] at hun
   rw [hun] at hq
   rw [wS (i:=i) (by omega)]
   exact z11 (bs.length-(i+1)) ⟨i+1,_,rfl,by omega,rfl,hq,hs⟩
end
theorem zgf (k:Nat) (n:Int) (raw:List UInt8):z2b (k+1) n raw=match z0x raw with
  | none=>([],0)
  | some (body,m)=>match z5s body with
   | none=>([],0)
   | some b=>if b.base<n then ([],0) else (b::(z2b k (b.base+zo b) (raw.drop m)).1,m+(z2b k (b.base+zo b) (raw.drop m)).2):=rfl
theorem zd5 {fs:List FileA} {n:ByteArray} {p:List UInt8 × Nat} (h:z02 fs n=some p):p.1.length<=used fs:=z7z (zru h)
section
variable {w:World} {l r:List HP} {lg:Nat} {M:LogM} {A:LogA} {D:DiskA} {gap:Int} {a:Nat} {t:SegM}
theorem zz6 (b:BatM) (z:Sl) (hv:z05 b=0) (hp:b.p=b) [hf:Fo l (z0o gap) a t r] [hb:FocR r z 4 (b.rs.flatMap z04)] (hlen:t.s.file.length+(frL b).length<=1000000000) (hs:Sat w l) :
  Ret P F.a164 #[.pointer (some ⟨a,0,none⟩),.agg (zv (b.at z)).toArray,.int .i64 ((frL b).length:Nat)] w λvs w'=>vs=[]/\Sat w' (z0o gap a ⟨t.ix,t.s.add [b]⟩::r):=by
 have hb':FocR r (b.at z).x 4 ((b.at z).rs.flatMap z04):=hb
 have h:=zwr (gap:=gap) (a:=a) (b.at z) hv hlen hs
 have e:t.s.add [b.at z]=t.s.add [b]:=by
  unfold SegA.add
  have:(b.at z).p=b.p:=rfl
  simp only [List.map_cons,List.map_nil,this]
 rw [e] at h
 exact h
set_option maxHeartbeats 1000000 in
theorem z061 (base:Int) (hb:0<=base/\base<17592186044416) {r1:List HP} [hf:Fo l lgQ lg M r1] [hf2:Fo r1 dk M.d D r] (hlen:M.SM.length<=1000000) (hs:Sat w l) :
  Ret P F.a153 #[.pointer (some ⟨lg,0,none⟩),.int .i64 base] w λvs w'=>vs=[.bool (z1o M.pre M.l D base).1.1,.int .i64 (z1o M.pre M.l D base).1.2] /\
   ∃ M':LogM,(M'.d=M.d/\M'.pre=M.pre/\M'.seg=M.seg/\M'.gap=M.gap)/\M'.l=(z1o M.pre M.l D base).2.1/\M'.SM.length<=M.SM.length+1/\Sat w' (lgQ lg M'::dk M.d (z1o M.pre M.l D base).2.2::r) :=
 zo5 _ base <| by
  delta z01i AA AF AH AM AP AQ AU AV Aa Ab Ac Ad Af Ag Ai Aj Al An Ao Ap Aq Ar Ax Ay Bd Cb
  have hs:=hs.perm (hf.perm.trans (.cons _ hf2.perm))
  clear hf hf2
  obtain ⟨hokm,hs⟩:=z9a hs
  have hsz:=hokm.size
  obtain ⟨m_,FS_,-,hokD,-⟩:=z24 (hs.pick [2])
  refine z8 (z7r (lg:=lg) base hb (ByteArray.mk #[46,108,111,103]) (by decide) M.pre hsz hs) λ_ w' hs=>?_
  obtain ⟨rfl,hs⟩:=hs
  refine zb ?_
  have en:zl M.pre base (bl (ByteArray.mk #[46,108,111,103]))=zl M.pre base zu:=rfl
  rw [en]
  generalize hnm:zl M.pre base zu=nm at *
  refine wp_lt ?_
  refine zg ?_
  refine za hs ?_
  have hsame:∀ {w:World} {D':DiskA},Sat w (pt lg (.cells #[.pointer (some ⟨M.d,0,none⟩),.string M.pre,.int .i64 M.seg,.int .i64 M.gap,.slice M.z.a M.z.len M.z.cap] T.a48)::lgR M::dk M.d D'::r)->∃ M':LogM,(M'.d=M.d/\M'.pre=M.pre/\M'.seg=M.seg/\M'.gap=M.gap)/\M'.l=M.l/\M'.SM.length<=M.SM.length+1/\Sat w (lgQ lg M'::dk M.d D'::r):=λhs=>⟨M,⟨rfl,rfl,rfl,rfl⟩,rfl,by omega,z4e M hokm hs⟩
  unfold z1o
  rw [hnm]
  refine z8 (zg9 (d:=M.d) (A:=D) nm hs) λ_ w' hs=>?_
  rcases hs with ⟨f,hff,hfn,x,rfl,hs⟩|⟨hno,rfl,hs⟩
  rotate_left
  ·refine zb ?_
   refine wp_lt ?_
   refine z0c ?_ (by decide)
   refine wp_lt ?_
   rw [zb7.2 hno]
   exact ⟨rfl,rfl,hsame hs.sub⟩
  refine zb ?_
  refine wp_lt ?_
  refine zy ?_ (by simp)
  have hfd:z02 D.fs nm=some (f.b,f.kept):=by rw [<- hfn];exact zcd (z2q hokD.sorted) hff
  have hrl:f.b.length<=4194304:=Nat.le_trans (z7z hff) hokD.used
  rw [hfd]
  simp only
  generalize f.b=raw at *
  have hl:=hs.slen x (xs:=raw) (enc:=zi)
  have hcap:=hs.slc_cap
  refine z8 (zb6 x raw hcap (by omega) hs) λ_ w' hs=>?_
  obtain ⟨y,rfl,hs⟩:=hs
  refine zb ?_
  refine wp_lt ?_
  refine wp_lt ?_
  refine zf (λq w'=>∃ v:Int,q=(v,(z4k base raw).isSome,())/\(∀ s,z4k base raw=some s->v=s.1.fin)/\Sat w' (slc T.a52 1 x (raw.flatMap zi)::pt lg (.cells #[.pointer (some ⟨M.d,0,none⟩),.string M.pre,.int .i64 M.seg,.int .i64 M.gap,.slice M.z.a M.z.len M.z.cap] T.a48)::lgR M::dk M.d D::r)) ?_ ?_
  ·cases hfr:z0x raw with
   | none =>
    rw [hfr] at hs
    have e:z4k base raw=none:=by unfold z4k;rw [hfr]
    rw [e]
    refine zy ?_ (by simp)
    exact zj ⟨0,rfl,(λs h=>by cases h),hs.sub⟩
   | some q =>
    obtain ⟨body,m⟩:=q
    rw [hfr] at hs
    have hs:Sat w' (slc T.a52 1 y (body.flatMap zi)::_):=hs
    obtain ⟨-,-,hbd,-⟩:=z5v hfr
    refine z0c ?_ (by rfl)
    refine z8 (zxr y body base (by omega) (by omega) hs) λ_ w' hs=>?_
    obtain ⟨v,rfl,hv,hs⟩:=hs
    refine zb ?_
    refine wp_lt ?_
    refine wp_lt ?_
    have e:z4k base raw=match z5l base body with
      | none=>none
      | some fin=>some (⟨base,fin,(z2b raw.length base (raw.drop m)).1⟩,m+(z2b raw.length base (raw.drop m)).2):=by simp only [z4k,hfr];cases z5l base body <;> rfl
    rw [e]
    cases hh:z5l base body with
    | none=>exact zj ⟨v,rfl,(λs h=>by cases h),hs.sub⟩
    | some fin =>
     have:=hv fin hh
     subst this
     exact zj ⟨v,rfl,(λs h=>by simp only [Option.some.injEq] at h;subst h;rfl),hs.sub⟩
  rintro _ w2 ⟨v,rfl,hv,hs⟩
  cases hsc:z4k base raw with
  | none =>
   refine z0c ?_ (by simp)
   refine zg ?_
   refine za hs ?_
   refine z8 (zbk (d:=M.d) (A:=D) nm hs) λ_ w' hs=>?_
   obtain ⟨rfl,hs⟩:=hs
   refine zb ?_
   refine wp_lt ?_
   exact ⟨rfl,rfl,hsame hs.sub⟩
  | some q =>
   obtain ⟨s,mm⟩:=q
   dsimp only
   have hv:=hv _ hsc
   have hv:v=s.fin:=hv
   subst hv
   obtain ⟨hsok,hsb,hst,hsm,hsml⟩:=zlq hsc
   refine zy ?_ (by simp)
   obtain ⟨m0,hm0,htk⟩:∃ m0,((z0x raw).getD ([],0)).2=m0/\m0<=raw.length/\m0=(shL s.base s.fin).length/\s.bs=(z2b raw.length base (raw.drop m0)).1/\mm=m0+(z2b raw.length base (raw.drop m0)).2:=by
    unfold z4k at hsc
    cases hfr:z0x raw with
    | none=>rw [hfr] at hsc;cases hsc
    | some q =>
     obtain ⟨body,m⟩:=q
     rw [hfr] at hsc
     simp only at hsc
     cases hh:z5l base body with
     | none=>rw [hh] at hsc;cases hsc
     | some fin =>
      rw [hh] at hsc
      simp only [Option.some.injEq,Prod.mk.injEq] at hsc
      obtain ⟨e1,e2⟩:=hsc
      obtain ⟨f1,f2,f3,f4⟩:=z5v hfr
      obtain ⟨-,-,hb3⟩:=zif hh
      refine ⟨m,rfl,f2,?_,by rw [<- e1],e2.symm⟩
      rw [<- e1]
      show m=(shL base fin).length
      unfold shL
      rw [z7x (by have:=zdg base fin;omega),<- hb3,f1]
   obtain ⟨h1,h2,h3,h4⟩:=htk
   rw [hm0]
   have hbase0:=hsok.base
   have hfin0:0<=s.fin/\s.fin<9223372036854775808:=by have:=hsok.fin;omega
   have hs:=z4e M hokm (hs.pick [1,1])
   refine z8 (zl1 (lg:=lg) base s.fin (by omega) hfin0 hs) λ_ w' hs=>?_
   obtain ⟨a,ix,rfl,hs⟩:=hs
   refine zb ?_
   refine wp_lt ?_
   refine zf (λq w'=>q=((mm:Int),())/\Sat w' (z0o M.gap a ⟨ix,s⟩::lgQ lg M::slc T.a52 1 x (raw.flatMap zi)::dk M.d D::r)) ?_ ?_
   ·refine z03 (λk q w=>∃ (at_:Nat) (n:Int) (done:List BatM),q=((at_:Int),(n,()))/\at_<=raw.length/\raw.length-at_<=k /\
     s.bs=done++(z2b k n (raw.drop at_)).1/\mm=at_+(z2b k n (raw.drop at_)).2/\at_=((⟨base,s.fin,[]⟩:SegA).add done).file.length /\
     Sat w (z0o M.gap a ⟨ix,(⟨base,s.fin,[]⟩:SegA).add done⟩::lgQ lg M::slc T.a52 1 x (raw.flatMap zi)::dk M.d D::r)) raw.length
     ⟨m0,base,[],rfl,h1,by omega,by rw [List.nil_append];exact h3,h4,by rw [zgv,z2k];simp only [List.flatMap_nil,List.length_nil];rw [h2,hsb];omega,by rw [zgv];exact hs⟩ ?_
    clear hs
    rintro k _ w ⟨at_,n,done,rfl,ha1,ha2,ha3,ha4,ha5,hs⟩
    have hend:z2b k n (raw.drop at_)=([],0)->∀ {w:World},Sat w (z0o M.gap a ⟨ix,(⟨base,s.fin,[]⟩:SegA).add done⟩::lgQ lg M::slc T.a52 1 x (raw.flatMap zi)::dk M.d D::r)->at_=mm/\Sat w (z0o M.gap a ⟨ix,s⟩::lgQ lg M::slc T.a52 1 x (raw.flatMap zi)::dk M.d D::r):=by
     intro he w hs
     rw [he] at ha3 ha4
     simp only [List.append_nil] at ha3
     have hpp:done.map BatM.p=done:=by
      rw [List.map_congr_left (g:=id) λb hb=>((hsok.bs.valid b (by rw [ha3];exact hb)).2),List.map_id]
     have es:(⟨base,s.fin,[]⟩:SegA).add done=s:=by
      unfold SegA.add
      rw [hpp,<- ha3,<- hsb]
      rfl
     rw [es] at hs
     exact ⟨ha4.symm,hs⟩
    refine zm ?_
    refine wp_must (by omega) ?_
    rw [Int.toNat_natCast]
    have hxc:FocR (z0o M.gap a ⟨ix,(⟨base,s.fin,[]⟩:SegA).add done⟩::lgQ lg M::slc T.a52 1 x (raw.flatMap zi)::dk M.d D::r) ⟨z14 x.a 1 at_ x.cap,x.len-at_,x.cap-at_⟩ 1 ((raw.drop at_).flatMap zi):=FocR.post hcap
    refine z8 (zb6 ⟨z14 x.a 1 at_ x.cap,x.len-at_,x.cap-at_⟩ (raw.drop at_) (by show x.len-at_<=x.cap-at_;omega) (by rw [List.length_drop];omega) hs) λ_ w' hs=>?_
    obtain ⟨y,rfl,hs⟩:=hs
    refine zb ?_
    refine wp_lt ?_
    refine wp_lt ?_
    cases hfr:z0x (raw.drop at_) with
    | none =>
     rw [hfr] at hs
     refine z0c ?_ (by simp)
     have he:z2b k n (raw.drop at_)=([],0):=by
      cases k with
      | zero=>rfl
      | succ k=>rw [zgf,hfr]
     obtain ⟨e1,hs⟩:=hend he hs.tail
     refine zh (zj ⟨by rw [e1],hs⟩)
    | some q =>
     obtain ⟨body,m⟩:=q
     rw [hfr] at hs
     have hs:Sat w' (slc T.a52 1 y (body.flatMap zi)::_):=hs
     obtain ⟨f1,f2,hbd,f4⟩:=z5v hfr
     rw [List.length_drop] at f2
     dsimp only [Option.getD,Option.isSome]
     refine zy ?_ (by simp)
     obtain ⟨k,rfl⟩:∃ k',k=k'+1:=⟨k-1,by omega⟩
     rw [zgf,hfr] at ha3 ha4 hend
     refine z8 (zkd y body (by omega) hs) λ_ w' hs=>?_
     rcases hs with ⟨b,z,hdec,rfl,hs⟩|⟨hdec,rfl,hs⟩
     rotate_left
     ·refine ⟨(0,0,0,0,0,0,z7t,6,()),rfl,trivial,zdm _ _ _ _ _ _ _ _ ?_⟩
      refine zq hs λc w' hs=>?_
      refine zr hs λw' hs=>?_
      refine wp_lt ?_
      refine za hs ?_
      refine z0c ?_ (.inl (by decide))
      obtain ⟨e1,hs⟩:=hend (by simp only [hdec]) hs.tail.tail
      exact zh (zj ⟨by show ((at_:Int),())=_;rw [e1],hs⟩)
     ·obtain ⟨d1,d2,d3⟩:=zkc hdec
      have hfrb:(frL b).length=m:=by rw [(z4v d1).2,d2,f1]
      refine ⟨(b.base,b.pid,b.epoch,b.seq,b.kind,b.time,z,0,()),rfl,trivial,zdm _ _ _ _ _ _ _ _ ?_⟩
      refine zq hs λc w' hs=>?_
      refine zr hs λw' hs=>?_
      refine wp_lt ?_
      refine za hs ?_
      simp only [hdec] at ha3 ha4 hend
      refine ze (λhc=>?_) λhc=>?_
      ·have hc:b.base<n:=by
        rcases hc with hc|hc
        ·exact absurd rfl hc
        ·exact hc
       obtain ⟨e1,hs⟩:=hend (by rw [if_pos hc]) hs.tail.tail.tail
       exact zh (zj ⟨by show ((at_:Int),())=_;rw [e1],hs⟩)
      have hc:¬ b.base<n:=λh=>hc (.inr h)
      rw [if_neg hc] at ha3 ha4
      simp only at ha3 ha4
      refine zk hs ?_
      have hz:FocR (pt c (.cells #[.int .i64 b.base,.int .i64 b.pid,.int .i64 b.epoch,.int .i64 b.seq,.int .i64 b.kind,.int .i64 b.time,.slice z.a z.len z.cap] T.a0)::slc T.a2 4 z (b.rs.flatMap z04)::slc T.a52 1 y (body.flatMap zi)::lgQ lg M::slc T.a52 1 x (raw.flatMap zi)::dk M.d D::r) z 4 (b.rs.flatMap z04):=inferInstance
      have hs:Sat w' (pt c (.cells #[.int .i64 b.base,.int .i64 b.pid,.int .i64 b.epoch,.int .i64 b.seq,.int .i64 b.kind,.int .i64 b.time,.slice z.a z.len z.cap] T.a0)::slc T.a2 4 z (b.rs.flatMap z04)::slc T.a52 1 y (body.flatMap zi)::z0o M.gap a ⟨ix,(⟨base,s.fin,[]⟩:SegA).add done⟩::lgQ lg M::slc T.a52 1 x (raw.flatMap zi)::dk M.d D::r):=hs
      have hml:((m:Nat):Int)=((frL b).length:Nat):=by rw [hfrb]
      show (Prog.call F.a164 [_,.agg _,.int .i64 ((m:Nat):Int)] _ _).wp P _ _ _
      rw [hml]
      refine z8 (zz6 (gap:=M.gap) (a:=a) (t:=⟨ix,(⟨base,s.fin,[]⟩:SegA).add done⟩) b z d1 d3 (by show ((⟨base,s.fin,[]⟩:SegA).add done).file.length+_<=_;rw [<- ha5];omega) hs) λ_ w' hs=>?_
      obtain ⟨rfl,hs⟩:=hs
      refine zb ?_
      have e6:((⟨base,s.fin,[]⟩:SegA).add done).add [b]=(⟨base,s.fin,[]⟩:SegA).add (done++[b]):=zpm _ _ _
      have hs:Sat w' (z0o M.gap a ⟨ix,((⟨base,s.fin,[]⟩:SegA).add done).add [b]⟩::_):=hs
      rw [e6] at hs
      have hs:=z3v hs
      refine zg ?_
      refine za hs ?_
      refine wp_lt ?_
      rw [w64 (by omega) (by omega)]
      refine wp_lt ?_
      have en2:z0d ((⟨base,s.fin,[]⟩:SegA).add (done++[b])).bs=b.base+zo b:=by
       show z0d ([]++(done++[b]).map BatM.p)=_
       rw [List.nil_append,List.map_append]
       exact z3m _ _
      rw [show z0d (SegM.s ⟨ix,(⟨base,s.fin,[]⟩:SegA).add (done++[b])⟩).bs=b.base+zo b from en2]
      have hs:=z2p ⟨ix,(⟨base,s.fin,[]⟩:SegA).add (done++[b])⟩ hs
      have ec:(at_:Int)+((frL b).length:Nat)=((at_+m:Nat):Int):=by rw [hfrb];omega
      rw [ec]
      refine z11 k ⟨at_+m,b.base+zo b,done++[b],rfl,by omega,by omega,?_,?_,?_,hs.sub⟩
      ·rw [ha3,List.append_assoc,List.drop_drop];rfl
      ·rw [ha4,List.drop_drop];omega
      ·rw [<- e6,z6u,List.length_append,<- ha5]
       simp only [List.flatMap_cons,List.flatMap_nil,List.append_nil]
       omega
   clear hs
   rintro _ w3 ⟨rfl,hs⟩
   refine zm ?_
   have hs:=hs.pick [1]
   refine z8 (z001 (lg:=lg) a ⟨ix,s⟩ (by omega) hs) λ_ w' hs=>?_
   obtain ⟨z,rfl,hs⟩:=hs
   refine zb ?_
   have hfin2:∀ {w:World} {D':DiskA},Sat w (lgQ lg { M with z:=z,SM:=M.SM++[(a,⟨ix,s⟩)] }::dk M.d D'::r)->∃ M':LogM,(M'.d=M.d/\M'.pre=M.pre/\M'.seg=M.seg/\M'.gap=M.gap)/\M'.l=M.l++[s]/\M'.SM.length<=M.SM.length+1/\Sat w (lgQ lg M'::dk M.d D'::r):=λhs =>
    ⟨{ M with z:=z,SM:=M.SM++[(a,⟨ix,s⟩)] },⟨rfl,rfl,rfl,rfl⟩,by unfold LogM.l;simp,by simp,hs⟩
   refine ze (λhc=>?_) λhc=>?_
   ·have hc:mm=raw.length:=by omega
    rw [if_pos hc]
    exact ⟨rfl,rfl,hfin2 hs.sub⟩
   ·rw [if_neg (show ¬ mm=raw.length by omega)]
    refine zg ?_
    obtain ⟨hokm2,hs⟩:=z9a hs
    refine za hs ?_
    refine z8 (z083 (d:=M.d) (A:=D) nm ((mm:Nat):Int) hs) λ_ w' hs=>?_
    obtain ⟨rfl,hs⟩:=hs
    refine zb ?_
    refine wp_lt ?_
    have hs:=z4e { M with z:=z,SM:=M.SM++[(a,⟨ix,s⟩)] } hokm2 (hs.pick [1,1])
    exact ⟨rfl,rfl,hfin2 hs.sub⟩
end
def z4n (a:Nat) (outs:List BatM):HP:=HP.ex λz:Sl=>HP.star (pt a (.cells #[.slice z.a z.len z.cap] T.a37)) (HP.star (slc T.a0 7 z (outs.flatMap zv)) (z1j outs))
section
variable {w:World} {l r r1 r2:List HP} {lg ao:Nat} {M:LogM} {A:LogA} {D:DiskA} {gap:Int} {a:Nat} {t:SegM} {outs:List BatM}
theorem zla (hs:Sat w (z4n ao outs::l)):∃ z:Sl,Sat w (pt ao (.cells #[.slice z.a z.len z.cap] T.a37)::slc T.a0 7 z (outs.flatMap zv)::z1j outs::l):=by
 obtain ⟨z,hs⟩:=hs.ex
 have hs:=hs.star
 exact ⟨z,((hs.pick [1]).star).pick [2]⟩
theorem zcv {z:Sl} (hs:Sat w (pt ao (.cells #[.slice z.a z.len z.cap] T.a37)::slc T.a0 7 z (outs.flatMap zv)::z1j outs::l)):Sat w (z4n ao outs::l) :=
 .ex_mk z (.star_mk (((hs.pick [1,1]).star_mk).pick [1]))
theorem zx9 {b:BatM} (hs:Sat w (slc T.a2 4 b.x (b.rs.flatMap z04)::z1j outs::l)):Sat w (z1j (outs++[b])::l):=by
 have h1:Sat w (HP.all ((b::outs).map rsP)::l):=by
  have h2:Sat w (rsP b::HP.all (outs.map rsP)::l):=hs
  exact h2.all_put
 exact h1.all_perm ((List.perm_append_comm (l₁:=[b]) (l₂:=outs)).map rsP)
theorem zk4 (hs:Sat w l):Sat w (z1j []::l):=hs.all_nil
theorem zai {b:BatM} (hb:b ∈ outs):FocR (z1j outs::l) b.x 4 (b.rs.flatMap z04):=⟨λw hs=>by
 obtain ⟨L,hs⟩:=hs.all_mem (f:=rsP) hb
 exact Sat.rd hs⟩
theorem z067 (b:BatM) (off most:Int) (a1 a2:Nat) (ho : -9223372036854775808<=off/\off<9223372036854775808) (hcap:b.x.len<=b.x.cap) (hol:outs.length<=2000000) [hf:Fo l z4n ao outs r] [h1:FocB r a1 (.cells [.int .i64 off].toArray T.a14) r1] [h2:FocB r a2 (.cells [.int .i64 most].toArray T.a13) r2] [hb:FocR r b.x 4 (b.rs.flatMap z04)] (hs:Sat w l) :
  Ret P F.a140 #[.agg (zv b).toArray,.pointer (some ⟨a1,0,none⟩),.pointer (some ⟨ao,0,none⟩),.pointer (some ⟨a2,0,none⟩)] w λvs w'=>∃ outs':List BatM,vs=[.bool (decide ((outs'.length:Int)<most))]/\outs'.map BatM.p=outs.map BatM.p++(z0q off b).toList.map BatM.p/\Sat w' (z4n ao outs'::r) :=
 znv b.base b.pid b.epoch b.seq b.kind b.time b.x _ _ _ <| by
  delta z018 AE AF AH AK Ac Ad Ag Ai Al An Ao Ar Av B5 Ca Cc
  obtain ⟨z,hs⟩:=zla (hs.perm hf.perm)
  have hl:=hs.slen z (xs:=outs) (enc:=zv)
  refine zn hs λa0 w' hs=>?_
  refine zk hs ?_
  refine za hs ?_
  refine z8 (z032 b off ho hcap hs) λ_ w' hs=>?_
  rcases hs with ⟨hn,rfl,hs⟩|⟨c,zc,hc,rfl,hs⟩
  ·refine ⟨(0,0,0,0,0,0,z7t,false,()),rfl,trivial,zdm _ _ _ _ _ _ _ _ ?_⟩
   refine zq hs λa3 w' hs=>?_
   refine zr hs λw' hs=>?_
   refine wp_lt ?_
   refine z50 ?_
   refine zy ?_ (by simp)
   refine z4s ?_
   refine za hs ?_
   refine za hs ?_
   refine wp_lt ?_
   refine ⟨rfl,outs,by rw [hl],by rw [hn];simp,zcv (z:=z) hs.sub⟩
  ·refine ⟨(c.base,c.pid,c.epoch,c.seq,c.kind,c.time,zc,true,()),rfl,trivial,zdm _ _ _ _ _ _ _ _ ?_⟩
   refine zq hs λa3 w' hs=>?_
   refine zr hs λw' hs=>?_
   refine wp_lt ?_
   refine z50 ?_
   refine z0c ?_ (by trivial)
   refine za hs ?_
   refine zk hs ?_
   refine z6m (xs:=outs) (enc:=zv) (y:=c.at zc) hs (λz' w' hs=>?_) rfl (by omega)
   refine z07 hs λw' hs=>?_
   refine z4s ?_
   refine za hs ?_
   refine za hs ?_
   refine wp_lt ?_
   have hs:Sat w' (pt ao (.cells #[.slice z'.a z'.len z'.cap] T.a37)::slc T.a0 7 z' ((outs++[c.at zc]).flatMap zv)::pt a3 _::slc T.a2 4 (c.at zc).x ((c.at zc).rs.flatMap z04)::pt a0 _::z1j outs::r):=hs
   have hl':=hs.slen z' (xs:=outs++[c.at zc]) (enc:=zv)
   refine ⟨rfl,outs++[c.at zc],by rw [hl'],by rw [hc];simp;rfl,?_⟩
   have hs:=zx9 (hs.pick [3,4])
   exact zcv (z:=z') (hs.pick [1,1,0]).sub
theorem z046 (off:Int) (hok:SegOk t.s) (hfl:t.s.file.length<=4194304) [hf:Fo l (z0o gap) a t r] (hs:Sat w l):Ret P F.a162 #[.pointer (some ⟨a,0,none⟩),.int .i64 off] w λvs w'=>vs=[.int .i64 (zw9 t.s (z33 (t.s.idx gap).l off))]/\Sat w' (z0o gap a t::r) :=
 zoe _ off <| by
  delta z01r AA AG AI AP Ac Ad Af Ak Al An Ao Ar Au Ay Ba
  have hi:IdxOk gap (shL t.s.base t.s.fin).length t.s.bs (t.s.idx gap):=zkr gap t.s.bs.length (n:=t.s.base) (q:=(shL t.s.base t.s.fin).length) rfl hok.base.1 (by omega) hok.bs (by have:=z2k t.s;omega)
  have hs:=z3v (hs.perm hf.perm)
  refine zg ?_
  refine za hs ?_
  refine z8 (z04z (b:=t.ix) off hi.offs hs) λ_ w' hs=>?_
  obtain ⟨rfl,hs⟩:=hs
  refine ⟨((orE (z33 (t.s.idx gap).l off)).offset,(orE (z33 (t.s.idx gap).l off)).place,(orE (z33 (t.s.idx gap).l off)).before,(z33 (t.s.idx gap).l off).isSome,()),rfl,trivial,z004 _ _ _ _ ?_⟩
  refine zq hs λc w' hs=>?_
  refine zr hs λw' hs=>?_
  refine wp_lt ?_
  cases hfe:z33 (t.s.idx gap).l off with
  | some e =>
   refine z0c ?_ (by rfl)
   rw [hfe] at hs
   refine za hs ?_
   refine wp_lt ?_
   exact ⟨rfl,rfl,z2p t hs.sub⟩
  | none =>
   refine zy ?_ (by simp)
   refine zx hs λw' hs=>?_
   refine zg ?_
   refine za hs ?_
   refine zg ?_
   refine za hs ?_
   have hb:=hok.base
   have hfn:0<=t.s.fin/\t.s.fin<9223372036854775808:=by have:=hok.fin;omega
   refine z8 (zkq t.s.base t.s.fin (by omega) hfn hs) λ_ w' hs=>?_
   obtain ⟨y,rfl,hs⟩:=hs
   refine zb ?_
   have hl:=hs.slen y (xs:=shL t.s.base t.s.fin) (enc:=zi)
   refine wp_lt ?_
   refine zd ?_
   refine ⟨rfl,?_,z2p t hs.sub⟩
   rw [hl]
   rfl
set_option maxHeartbeats 1000000 in
theorem z06a (off:Int) (most:Nat) (a1 a2:Nat) (ho : -9223372036854775808<=off/\off<9223372036854775808) {i k kp:Nat} (hsi:i<M.SM.length) (hok:SegOk M.SM[i].2.s) (hfile:z02 D.fs (zl M.pre M.SM[i].2.s.base zu)=some (M.SM[i].2.s.file,kp)) (hk:k<=M.SM[i].2.s.bs.length) (hout:outs.length<most) (hol:outs.length+M.SM[i].2.s.bs.length<=2000000)
  (hs:Sat w (z4n ao outs::lgQ lg M::dk M.d D::pt a1 (.cells [.int .i64 off].toArray T.a14)::pt a2 (.cells [.int .i64 (most:Int)].toArray T.a13)::r)) :
  Ret P F.a155 #[.pointer (some ⟨lg,0,none⟩),.pointer (some ⟨M.SM[i].1,0,none⟩),.int .i64 (z2y M.SM[i].2.s k:Nat),.func (.func F.a140) #[] #[.pointer (some ⟨a1,0,none⟩),.pointer (some ⟨ao,0,none⟩),.pointer (some ⟨a2,0,none⟩)]] w λvs w' =>
   ∃ outs':List BatM,vs=[.bool (decide (outs.length+((M.SM[i].2.s.bs.drop k).filterMap (z0q off)).length<most))]/\outs'.map BatM.p=(outs.map BatM.p++(M.SM[i].2.s.bs.drop k).filterMap (z0q off)).take most/\outs'.length<=outs.length+M.SM[i].2.s.bs.length /\
    Sat w' (z4n ao outs'::lgQ lg M::dk M.d D::pt a1 (.cells [.int .i64 off].toArray T.a14)::pt a2 (.cells [.int .i64 (most:Int)].toArray T.a13)::r) :=
 zo7 _ _ _ _ <| by
  delta z01k AA AF AG AI AK AL AP AQ AT AV AX AY AZ Aa Ac Ad Af Ag Ah Ai Al An Ao Aq Ar BK Cb
  obtain ⟨m_,FS_,-,hokD,-⟩:=z24 (hs.pick [2])
  obtain ⟨hokm,hs⟩:=z2t (hs.pick [1])
  have hs:=z3v (z9g (hs.pick [2]) hsi)
  generalize hT:M.SM[i]=T0 at *
  obtain ⟨a,t⟩:=T0
  dsimp only at hok hfile hk hol hs ⊢
  have hrl:t.s.file.length<=4194304:=Nat.le_trans (zd5 hfile) hokD.used
  have hbl:=zgz hok
  have hb0:=hok.base
  refine zf (λq w'=>∃ x:Sl,q=(x,())/\x.len<=x.cap/\Sat w' (slc T.a52 1 x (t.s.file.flatMap zi)::pt a (.cells #[.pointer (some ⟨t.ix,0,none⟩),.int .i64 t.s.base,.int .i64 t.s.fin,.int .i64 (z0d t.s.bs),.int .i64 (z1e (-1) t.s.bs),.int .i64 (t.s.file.length:Nat)] T.a49)::z2d t.ix (t.s.idx M.gap)::HP.all ((M.SM.eraseIdx i).map λt=>z0o M.gap t.1 t.2)::pt lg (.cells #[.pointer (some ⟨M.d,0,none⟩),.string M.pre,.int .i64 M.seg,.int .i64 M.gap,.slice M.z.a M.z.len M.z.cap] T.a48)::slc T.a33 1 M.z ((M.SM.map Prod.fst).flatMap z1p)::z4n ao outs::dk M.d D::pt a1 (.cells [.int .i64 off].toArray T.a14)::pt a2 (.cells [.int .i64 (most:Int)].toArray T.a13)::r)) ?_ ?_
  ·refine zx hs λw' hs=>?_
   refine zg ?_
   refine z18 hs ?_
   refine zg ?_
   refine za hs ?_
   refine z8 (z7r (lg:=lg) t.s.base (by omega) (ByteArray.mk #[46,108,111,103]) (by decide) M.pre hokm.size hs) λ_ w' hs=>?_
   obtain ⟨rfl,hs⟩:=hs
   refine zb ?_ (by first|trivial|(repeat (first|exact trivial|exact λ_=>z09 hs|exact λ_=>z0m hs|refine And.intro ?_ ?_)))
   refine zd ?_
   have en:zl M.pre t.s.base (bl (ByteArray.mk #[46,108,111,103]))=zl M.pre t.s.base zu:=rfl
   rw [en]
   refine z8 (zg9 (d:=M.d) (A:=D) (zl M.pre t.s.base zu) hs) λ_ w' hs=>?_
   rcases hs with ⟨f,hff,hfn,x,rfl,hs⟩|⟨hno,rfl,hs⟩
   ·refine zb ?_
    refine wp_lt ?_
    refine zd ?_
    have hfd:z02 D.fs f.name=some (f.b,f.kept):=zcd (z2q hokD.sorted) hff
    rw [hfn,hfile] at hfd
    simp only [Option.some.injEq,Prod.mk.injEq] at hfd
    rw [<- hfd.1] at hs
    have hcap:=hs.slc_cap
    exact zj ⟨x,rfl,hcap,hs.sub⟩
   ·rw [zb7.2 hno] at hfile
    cases hfile
  clear hs
  rintro _ w ⟨x,rfl,hcap,hs⟩
  refine zm ?_
  refine wp_lt ?_
  have hl:=hs.slen x (xs:=t.s.file) (enc:=zi)
  have hfin:∀ {w:World} {outs':List BatM},Sat w (slc T.a52 1 x (t.s.file.flatMap zi)::pt a (.cells #[.pointer (some ⟨t.ix,0,none⟩),.int .i64 t.s.base,.int .i64 t.s.fin,.int .i64 (z0d t.s.bs),.int .i64 (z1e (-1) t.s.bs),.int .i64 (t.s.file.length:Nat)] T.a49)::z2d t.ix (t.s.idx M.gap)::HP.all ((M.SM.eraseIdx i).map λt=>z0o M.gap t.1 t.2)::pt lg (.cells #[.pointer (some ⟨M.d,0,none⟩),.string M.pre,.int .i64 M.seg,.int .i64 M.gap,.slice M.z.a M.z.len M.z.cap] T.a48)::slc T.a33 1 M.z ((M.SM.map Prod.fst).flatMap z1p)::z4n ao outs'::dk M.d D::pt a1 (.cells [.int .i64 off].toArray T.a14)::pt a2 (.cells [.int .i64 (most:Int)].toArray T.a13)::r) ->
    Sat w (z4n ao outs'::lgQ lg M::dk M.d D::pt a1 (.cells [.int .i64 off].toArray T.a14)::pt a2 (.cells [.int .i64 (most:Int)].toArray T.a13)::r):=by
   intro w outs' hs
   have h1:Sat w (z0o M.gap M.SM[i].1 M.SM[i].2::HP.all ((M.SM.eraseIdx i).map λt=>z0o M.gap t.1 t.2)::pt lg (.cells #[.pointer (some ⟨M.d,0,none⟩),.string M.pre,.int .i64 M.seg,.int .i64 M.gap,.slice M.z.a M.z.len M.z.cap] T.a48)::slc T.a33 1 M.z ((M.SM.map Prod.fst).flatMap z1p)::z4n ao outs'::dk M.d D::pt a1 (.cells [.int .i64 off].toArray T.a14)::pt a2 (.cells [.int .i64 (most:Int)].toArray T.a13)::r):=by
    rw [hT]
    exact z2p t hs.tail
   have h2:=z6z hsi h1
   exact (z1n M hokm (h2.pick [1,1])).sub
  have hfull:∀ {outs':List BatM} {j:Nat},outs'.map BatM.p=outs.map BatM.p++((t.s.bs.drop k).take j).filterMap (z0q off)->outs'.length=outs.length+(((t.s.bs.drop k).take j).filterMap (z0q off)).length:=λh=>by
   have:=congrArg List.length h
   simpa using this
  refine zf (λ_ w'=>∃ outs':List BatM,outs'.map BatM.p=outs.map BatM.p++(t.s.bs.drop k).filterMap (z0q off)/\outs'.length<most/\outs'.length<=outs.length+t.s.bs.length/\Sat w' (slc T.a52 1 x (t.s.file.flatMap zi)::pt a (.cells #[.pointer (some ⟨t.ix,0,none⟩),.int .i64 t.s.base,.int .i64 t.s.fin,.int .i64 (z0d t.s.bs),.int .i64 (z1e (-1) t.s.bs),.int .i64 (t.s.file.length:Nat)] T.a49)::z2d t.ix (t.s.idx M.gap)::HP.all ((M.SM.eraseIdx i).map λt=>z0o M.gap t.1 t.2)::pt lg (.cells #[.pointer (some ⟨M.d,0,none⟩),.string M.pre,.int .i64 M.seg,.int .i64 M.gap,.slice M.z.a M.z.len M.z.cap] T.a48)::slc T.a33 1 M.z ((M.SM.map Prod.fst).flatMap z1p)::z4n ao outs'::dk M.d D::pt a1 (.cells [.int .i64 off].toArray T.a14)::pt a2 (.cells [.int .i64 (most:Int)].toArray T.a13)::r)) ?_ ?_
  rotate_left
  ·rintro _ w2 ⟨outs',h1,h2,h3,hs⟩
   have h4:=congrArg List.length h1
   simp only [List.length_map,List.length_append] at h4
   refine ⟨rfl,outs',by rw [decide_eq_true (by omega)],?_,h3,hfin hs⟩
   rw [<- h1,List.take_of_length_le]
   rw [List.length_map];omega
  refine z03 (λm v w=>∃ (j:Nat) (outs':List BatM),v=(((z2y t.s (k+j):Nat):Int),())/\k+j<=t.s.bs.length/\t.s.bs.length-(k+j)=m/\outs'.map BatM.p=outs.map BatM.p++((t.s.bs.drop k).take j).filterMap (z0q off)/\outs'.length<most/\outs'.length<=outs.length+j/\Sat w (slc T.a52 1 x (t.s.file.flatMap zi)::pt a (.cells #[.pointer (some ⟨t.ix,0,none⟩),.int .i64 t.s.base,.int .i64 t.s.fin,.int .i64 (z0d t.s.bs),.int .i64 (z1e (-1) t.s.bs),.int .i64 (t.s.file.length:Nat)] T.a49)::z2d t.ix (t.s.idx M.gap)::HP.all ((M.SM.eraseIdx i).map λt=>z0o M.gap t.1 t.2)::pt lg (.cells #[.pointer (some ⟨M.d,0,none⟩),.string M.pre,.int .i64 M.seg,.int .i64 M.gap,.slice M.z.a M.z.len M.z.cap] T.a48)::slc T.a33 1 M.z ((M.SM.map Prod.fst).flatMap z1p)::z4n ao outs'::dk M.d D::pt a1 (.cells [.int .i64 off].toArray T.a14)::pt a2 (.cells [.int .i64 (most:Int)].toArray T.a13)::r)) (t.s.bs.length-k)
   ⟨0,outs,rfl,by omega,by omega,by simp,hout,by omega,hs⟩ ?_
  clear hs
  rintro m _ w ⟨j,outs',rfl,hj,hm,hmap,hlt,hol',hs⟩
  refine zm ?_
  refine z0k ?_
  refine za hs ?_
  have hple:=zhe t.s (k+j)
  refine ze (λhc=>?_) λhc=>?_
  rotate_left
  ·have hend:k+j=t.s.bs.length:=by
    apply Decidable.byContradiction
    intro hne
    have hlt2:k+j<t.s.bs.length:=by omega
    have h1:=zix t.s hlt2
    have h2:=zhe t.s (k+j+1)
    have h3:=z4v (hok.bs.valid _ (List.getElem_mem hlt2)).1
    exact hc ⟨by omega,by omega⟩
   refine zh (zj ⟨outs',?_,hlt,by omega,hs⟩)
   rw [hmap,List.take_of_length_le (by rw [List.length_drop];omega)]
  have hjl:k+j<t.s.bs.length:=by
   apply Decidable.byContradiction
   intro hne
   have he:k+j=t.s.bs.length:=by omega
   have h1:=zyj t.s
   rw [he] at hc
   have hc1:((z2y t.s t.s.bs.length:Nat):Int)<(x.len:Nat):=hc.1
   omega
  obtain ⟨hfst,hdec⟩:=zrw hok hjl
  obtain ⟨hvb,hpb⟩:=hok.bs.valid _ (List.getElem_mem hjl)
  have hblen:=z5r hvb
  have hxl:z2y t.s (k+j)<=x.len:=by omega
  refine wp_must (by omega) ?_
  rw [Int.toNat_natCast]
  have hxc:FocR (slc T.a52 1 x (t.s.file.flatMap zi)::pt a (.cells #[.pointer (some ⟨t.ix,0,none⟩),.int .i64 t.s.base,.int .i64 t.s.fin,.int .i64 (z0d t.s.bs),.int .i64 (z1e (-1) t.s.bs),.int .i64 (t.s.file.length:Nat)] T.a49)::z2d t.ix (t.s.idx M.gap)::HP.all ((M.SM.eraseIdx i).map λt=>z0o M.gap t.1 t.2)::pt lg (.cells #[.pointer (some ⟨M.d,0,none⟩),.string M.pre,.int .i64 M.seg,.int .i64 M.gap,.slice M.z.a M.z.len M.z.cap] T.a48)::slc T.a33 1 M.z ((M.SM.map Prod.fst).flatMap z1p)::z4n ao outs'::dk M.d D::pt a1 (.cells [.int .i64 off].toArray T.a14)::pt a2 (.cells [.int .i64 (most:Int)].toArray T.a13)::r) ⟨z14 x.a 1 (z2y t.s (k+j)) x.cap,x.len-z2y t.s (k+j),x.cap-z2y t.s (k+j)⟩ 1 ((t.s.file.drop (z2y t.s (k+j))).flatMap zi):=FocR.post hcap
  refine z8 (zb6 ⟨z14 x.a 1 (z2y t.s (k+j)) x.cap,x.len-z2y t.s (k+j),x.cap-z2y t.s (k+j)⟩ (t.s.file.drop (z2y t.s (k+j))) (by show x.len-_<=x.cap-_;omega) (by rw [List.length_drop];omega) hs) λ_ w' hs=>?_
  obtain ⟨y,rfl,hs⟩:=hs
  rw [hfst] at hs ⊢
  refine zb ?_
  refine wp_lt ?_
  refine wp_lt ?_
  dsimp only [Option.getD,Option.isSome]
  have hs:Sat w' (slc T.a52 1 y ((z2j t.s.bs[k+j]).flatMap zi)::_):=hs
  refine zy ?_ (by simp)
  refine z8 (zkd y (z2j t.s.bs[k+j]) (by omega) hs) λ_ w' hs=>?_
  rcases hs with ⟨b,z,hdec2,rfl,hs⟩|⟨hdec2,rfl,hs⟩
  rotate_left
  ·rw [hdec] at hdec2;cases hdec2
  rw [hdec] at hdec2
  simp only [Option.some.injEq] at hdec2
  subst hdec2
  generalize hbb:t.s.bs[k+j]=b at *
  refine ⟨(b.base,b.pid,b.epoch,b.seq,b.kind,b.time,z,0,()),rfl,trivial,zdm _ _ _ _ _ _ _ _ ?_⟩
  refine zq hs λc w' hs=>?_
  refine zr hs λw' hs=>?_
  refine wp_lt ?_
  have hzc:z.len<=z.cap:=(hs.pick [1]).slc_cap
  have htk:(t.s.bs.drop k).take (j+1)=(t.s.bs.drop k).take j++[b]:=by
   rw [List.take_succ_eq_append_getElem (by rw [List.length_drop];omega),List.getElem_drop,hbb]
  have hfp:(z0q off b).toList.map BatM.p=(z0q off b).toList:=by
   cases hfb:z0q off b with
   | none=>rfl
   | some c=>simp [zpz hpb hfb]
  have hfm:((t.s.bs.drop k).take (j+1)).filterMap (z0q off)=((t.s.bs.drop k).take j).filterMap (z0q off)++(z0q off b).toList:=by
   rw [htk,List.filterMap_append]
   congr 1
  have hpos:=zix t.s hjl
  rw [hbb] at hpos
  have hple2:=zhe t.s (k+j+1)
  refine z50 ?_
  refine zk hs ?_
  refine zy ?_ (by simp)
  have hzb:FocR (pt c (.cells #[.int .i64 b.base,.int .i64 b.pid,.int .i64 b.epoch,.int .i64 b.seq,.int .i64 b.kind,.int .i64 b.time,.slice z.a z.len z.cap] T.a0)::slc T.a2 4 z (b.rs.flatMap z04)::slc T.a52 1 y ((z2j b).flatMap zi)::slc T.a52 1 x (t.s.file.flatMap zi)::pt a (.cells #[.pointer (some ⟨t.ix,0,none⟩),.int .i64 t.s.base,.int .i64 t.s.fin,.int .i64 (z0d t.s.bs),.int .i64 (z1e (-1) t.s.bs),.int .i64 (t.s.file.length:Nat)] T.a49)::z2d t.ix (t.s.idx M.gap)::HP.all ((M.SM.eraseIdx i).map λt=>z0o M.gap t.1 t.2)::pt lg (.cells #[.pointer (some ⟨M.d,0,none⟩),.string M.pre,.int .i64 M.seg,.int .i64 M.gap,.slice M.z.a M.z.len M.z.cap] T.a48)::slc T.a33 1 M.z ((M.SM.map Prod.fst).flatMap z1p)::dk M.d D::pt a1 (.cells [.int .i64 off].toArray T.a14)::pt a2 (.cells [.int .i64 (most:Int)].toArray T.a13)::r) (b.at z).x 4 ((b.at z).rs.flatMap z04):=(inferInstance:FocR (pt c (.cells #[.int .i64 b.base,.int .i64 b.pid,.int .i64 b.epoch,.int .i64 b.seq,.int .i64 b.kind,.int .i64 b.time,.slice z.a z.len z.cap] T.a0)::slc T.a2 4 z (b.rs.flatMap z04)::_) z 4 (b.rs.flatMap z04))
  have hs:Sat w' (z4n ao outs'::pt c (.cells #[.int .i64 b.base,.int .i64 b.pid,.int .i64 b.epoch,.int .i64 b.seq,.int .i64 b.kind,.int .i64 b.time,.slice z.a z.len z.cap] T.a0)::slc T.a2 4 z (b.rs.flatMap z04)::slc T.a52 1 y ((z2j b).flatMap zi)::slc T.a52 1 x (t.s.file.flatMap zi)::pt a (.cells #[.pointer (some ⟨t.ix,0,none⟩),.int .i64 t.s.base,.int .i64 t.s.fin,.int .i64 (z0d t.s.bs),.int .i64 (z1e (-1) t.s.bs),.int .i64 (t.s.file.length:Nat)] T.a49)::z2d t.ix (t.s.idx M.gap)::HP.all ((M.SM.eraseIdx i).map λt=>z0o M.gap t.1 t.2)::pt lg (.cells #[.pointer (some ⟨M.d,0,none⟩),.string M.pre,.int .i64 M.seg,.int .i64 M.gap,.slice M.z.a M.z.len M.z.cap] T.a48)::slc T.a33 1 M.z ((M.SM.map Prod.fst).flatMap z1p)::dk M.d D::pt a1 (.cells [.int .i64 off].toArray T.a14)::pt a2 (.cells [.int .i64 (most:Int)].toArray T.a13)::r):=hs.sub
  have htold:=z067 (ao:=ao) (outs:=outs') (b.at z) off (most:Int) a1 a2 ho hzc (by omega) hs
  refine ⟨F.a140,#[],#[.pointer (some ⟨a1,0,none⟩),.pointer (some ⟨ao,0,none⟩),.pointer (some ⟨a2,0,none⟩)],rfl,by kernel_rfl,?_⟩
  refine Calls.mono htold λe w' ⟨vs,he,outs2,hvs,hmap2,hs⟩=>⟨(decide ((outs2.length:Int)<(most:Int)),()),by rw [he,hvs];rfl,trivial,?_⟩
  refine z4s ?_
  have hfe:(z0q off (b.at z)).toList.map BatM.p=(z0q off b).toList:=by
   have hpz:b={ (b.at z) with x:=z7t }:=by rw [<- hpb];rfl
   have e2:z0q off (b.at z)=(z0q off b).map λc=>c.at z:=by
    unfold z0q
    have ev:z05 (b.at z)=z05 b:=rfl
    have en:z1r (b.at z)=z1r b:=rfl
    have em:z0i (b.at z)=z0i b:=rfl
    rw [ev,en,em]
    split
    ·rfl
    ·show (if z0i b=true\/off<=b.base then _ else _)=_
     split <;> rfl
   rw [e2]
   cases hfb:z0q off b with
   | none=>rfl
   | some c =>
    have:=zpz hpb hfb
    show [(c.at z).p]=[c]
    have e3:(c.at z).p=c.p:=rfl
    rw [e3,this]
  rw [hfe,hmap,List.append_assoc,<- hfm] at hmap2
  have hlen2:=hfull hmap2
  have hfl1:(z0q off b).toList.length<=1:=by cases z0q off b <;> simp
  have hlen1:=hfull hmap
  rw [hfm,List.length_append] at hlen2
  have hback:∀ {w:World},Sat w (z4n ao outs2::pt c (.cells #[.int .i64 b.base,.int .i64 b.pid,.int .i64 b.epoch,.int .i64 b.seq,.int .i64 b.kind,.int .i64 b.time,.slice z.a z.len z.cap] T.a0)::slc T.a2 4 z (b.rs.flatMap z04)::slc T.a52 1 y ((z2j b).flatMap zi)::slc T.a52 1 x (t.s.file.flatMap zi)::pt a (.cells #[.pointer (some ⟨t.ix,0,none⟩),.int .i64 t.s.base,.int .i64 t.s.fin,.int .i64 (z0d t.s.bs),.int .i64 (z1e (-1) t.s.bs),.int .i64 (t.s.file.length:Nat)] T.a49)::z2d t.ix (t.s.idx M.gap)::HP.all ((M.SM.eraseIdx i).map λt=>z0o M.gap t.1 t.2)::pt lg (.cells #[.pointer (some ⟨M.d,0,none⟩),.string M.pre,.int .i64 M.seg,.int .i64 M.gap,.slice M.z.a M.z.len M.z.cap] T.a48)::slc T.a33 1 M.z ((M.SM.map Prod.fst).flatMap z1p)::dk M.d D::pt a1 (.cells [.int .i64 off].toArray T.a14)::pt a2 (.cells [.int .i64 (most:Int)].toArray T.a13)::r) ->
    Sat w (slc T.a52 1 x (t.s.file.flatMap zi)::pt a (.cells #[.pointer (some ⟨t.ix,0,none⟩),.int .i64 t.s.base,.int .i64 t.s.fin,.int .i64 (z0d t.s.bs),.int .i64 (z1e (-1) t.s.bs),.int .i64 (t.s.file.length:Nat)] T.a49)::z2d t.ix (t.s.idx M.gap)::HP.all ((M.SM.eraseIdx i).map λt=>z0o M.gap t.1 t.2)::pt lg (.cells #[.pointer (some ⟨M.d,0,none⟩),.string M.pre,.int .i64 M.seg,.int .i64 M.gap,.slice M.z.a M.z.len M.z.cap] T.a48)::slc T.a33 1 M.z ((M.SM.map Prod.fst).flatMap z1p)::z4n ao outs2::dk M.d D::pt a1 (.cells [.int .i64 off].toArray T.a14)::pt a2 (.cells [.int .i64 (most:Int)].toArray T.a13)::r):=λhs=>hs.sub
  have hs:=hback hs
  refine ze (λh5=>?_) λh5=>?_
  ·have h5:most<=outs2.length:=by
    have:¬ ((outs2.length:Int)<(most:Int)):=by simpa using h5
    omega
   have h6:outs2.length=most:=by omega
   have h7:((t.s.bs.drop k).filterMap (z0q off))=((t.s.bs.drop k).take (j+1)).filterMap (z0q off)++((t.s.bs.drop k).drop (j+1)).filterMap (z0q off):=by
    rw [<- List.filterMap_append,List.take_append_drop]
   have h8:=congrArg List.length hmap2
   simp only [List.length_map,List.length_append] at h8
   refine zh (zh ⟨rfl,outs2,?_,?_,by omega,hfin hs⟩)
   ·rw [decide_eq_false]
    rw [h7,List.length_append]
    omega
   ·rw [h7,<- List.append_assoc,<- hmap2]
    rw [List.take_append_of_le_length (by rw [List.length_map];omega),List.take_of_length_le (by rw [List.length_map];omega)]
  ·have h5:outs2.length<most:=by
    have:((outs2.length:Int)<(most:Int)):=by simpa using h5
    omega
   have ew:IntKind.wrap .i64 (((z2y t.s (k+j):Nat):Int)+((frL b).length:Nat))=((z2y t.s (k+(j+1)):Nat):Int):=by
    rw [show k+(j+1)=k+j+1 by omega,hpos,w64 (by omega) (by omega)];omega
   refine z23 (y:=((z2y t.s (k+(j+1)):Nat):Int)) ?_ ew
   exact z11 (t.s.bs.length-(k+(j+1))) ⟨j+1,outs2,rfl,by omega,rfl,hmap2,h5,by omega,hs⟩
end
def zjw (pre:ByteArray) (l:List SegA) (D:DiskA):Prop:=∀ s ∈ l,∃ k,z02 D.fs (zl pre s.base zu)=some (s.file,k)
theorem zib {l:List SegA} (hok:z0b 0 l):∀ s ∈ l,z1b l<=s.base:=by
 cases l with
 | nil=>intro s hs;cases hs
 | cons a l =>
  intro s hs
  show a.base<=s.base
  rcases List.mem_cons.1 hs with rfl|hs
  ·exact Int.le_refl _
  ·have:=(hok.2.2.mem s hs).2
   omega
theorem zfv {l:List SegA} (hok:z0b 0 l):z1b l<=zt l:=by
 by_cases h:l=[]
 ·subst h;decide
 ·obtain ⟨l0,s,rfl⟩:=z3d h
  have h1:=zib hok s (by simp)
  have h2:=(z5c (hok.mem s (by simp)).1).1
  unfold zt
  rw [z1t]
  simp only
  omega
theorem z02m {n:Int} {bs:List BatM} (h:z1m n bs):∀ b ∈ bs,n<=b.base:=by
 intro b hb
 obtain ⟨j,hj,rfl⟩:=List.mem_iff_getElem.1 hb
 cases j with
 | zero =>
  cases bs with
  | nil=>simp at hj
  | cons c cs=>exact h.2.2.1
 | succ j =>
  have h1:=h.lt 0 (j+1) hj (by omega)
  obtain ⟨s1,-,-,-,-⟩:=z16 _ (h.valid _ (List.getElem_mem (show 0<bs.length by omega))).1
  omega
theorem zvj {off:Int} {b:BatM} (hv:z05 b=0) (h:off<=b.base):z0q off b=some b:=by
 obtain ⟨s1,-,-,-,-⟩:=z16 b hv
 unfold z0q
 rw [if_neg,if_pos (.inr h)]
 rintro (hh|hh)
 ·exact hh hv
 ·unfold z1r at hh;rw [if_neg (by rw [hv];simp)] at hh;omega
theorem zkh {α:Type} {f:α->Option α} {l:List α} (h:∀ x ∈ l,f x=some x):l.filterMap f=l:=by
 induction l with
 | nil=>rfl
 | cons a l ih=>rw [List.filterMap_cons,h a (List.mem_cons_self ..)];simp only;rw [ih λx hx=>h x (List.mem_cons_of_mem _ hx)]
theorem zyr {l:List SegA} (hok:z0b 0 l) {n:Int} (hn:(z06 l).length<=n) (h1:1<=n):z5d l (z1b l) n=(0,z06 l):=by
 have:=zfv hok
 unfold z5d
 rw [if_neg (by omega),if_neg (by omega),zkh,List.take_of_length_le (by omega)]
 intro b hb
 obtain ⟨s,hs,hbs⟩:=List.mem_flatMap.1 hb
 have h2:=hok.mem s hs
 exact zvj (h2.1.bs.valid b hbs).1 (by have:=zib hok s hs;have:=z02m h2.1.bs b hbs;omega)
section
variable {w:World} {l r r1 r2:List HP} {lg ao:Nat} {M:LogM} {A:LogA} {D:DiskA} {gap:Int} {a:Nat} {t:SegM} {outs:List BatM}
theorem zyp (i:Nat) (a0 a1:Nat) (off:Int) (hi:i<M.SM.length)
  (hs:Sat w (pt a0 (.cells [.pointer (some ⟨lg,0,none⟩)].toArray T.a32)::pt a1 (.cells [.int .i64 off].toArray T.a14)::lgQ lg M::r)) :
  Ret P F.a139 #[.int .i64 (i:Int),.pointer (some ⟨a0,0,none⟩),.pointer (some ⟨a1,0,none⟩)] w λvs w'=>vs=[.bool (decide (M.SM[i].2.s.base>off))]/\Sat w' (pt a0 (.cells [.pointer (some ⟨lg,0,none⟩)].toArray T.a32)::pt a1 (.cells [.int .i64 off].toArray T.a14)::lgQ lg M::r) :=
 znu _ _ _ <| by
  delta z017 AA AG AI AO AP Ag Al An Ay BA Cc
  obtain ⟨hokm,hs⟩:=z2t (hs.pick [2])
  refine zx hs λw' hs=>?_
  refine za hs ?_
  refine zg ?_
  refine za hs ?_
  refine z22 hs (xs:=M.SM.map Prod.fst) (enc:=z1p) i (by rw [List.length_map];exact hi) ?_
  have e0:(M.SM.map Prod.fst)[i]'(by rw [List.length_map];exact hi)=M.SM[i].1:=by simp
  rw [e0]
  refine zg ?_
  have hs:=z3v (z9g (hs.pick [2]) hi)
  refine za hs ?_
  refine za hs ?_
  refine wp_lt ?_
  refine zd ?_
  have hs:=z6z hi (z2p M.SM[i].2 hs)
  have hs:=z1n M hokm (hs.pick [1,1])
  exact ⟨rfl,rfl,hs.sub⟩
set_option maxHeartbeats 1000000 in
theorem zqd (off most:Int) (ho : -9223372036854775808<=off/\off<9223372036854775808) (hmo:most<9223372036854775808) {r1:List HP} [hf:Fo l lgP lg A r1] [hf2:Fo r1 dk A.d D r] (hok:z0b 0 A.l) (hhas:zjw A.pre A.l D) (hlen:A.l.length<=1000000) (hall:(z06 A.l).length<=1000000) (hs:Sat w l) :
  Ret P F.a138 #[.pointer (some ⟨lg,0,none⟩),.int .i64 off,.int .i64 most] w λvs w'=>∃ (z:Sl) (outs:List BatM),vs=[z.v,.int .i64 (z5d A.l off most).1]/\outs.map BatM.p=(z5d A.l off most).2/\Sat w' (slc T.a0 7 z (outs.flatMap zv)::z1j outs::lgP lg A::dk A.d D::r) :=
 znt _ off most <| by
  clear hmo
  delta z016 AA AG AI AK AO AT Ac Ad Af Ag Ah Ai Aj Al Am An Ao Aq Av Ay Az B0 BX Ba Ca
  have hs:=hs.perm (hf.perm.trans (.cons _ hf2.perm))
  clear hf hf2
  obtain ⟨M,rfl,hs⟩:=z7o hs
  have hMl:M.A.l=M.l:=rfl
  have hMpre:M.A.pre=M.pre:=rfl
  have hMd:M.A.d=M.d:=rfl
  rw [hMl] at hlen hok hhas hall ⊢
  rw [hMpre] at hhas
  rw [hMd] at hs ⊢
  have hll:M.l.length=M.SM.length:=List.length_map ..
  have z59:∀ (i:Nat) (h:i<M.SM.length),M.SM[i].2.s=M.l[i]'(by omega):=λi h=>by unfold LogM.l;simp
  obtain ⟨m_,FS_,-,hokD,-⟩:=z24 (hs.pick [1])
  refine zn hs λa0 w' hs=>?_
  refine zn hs λa1 w' hs=>?_
  refine zn hs λa2 w' hs=>?_
  refine za hs ?_
  refine wp_lt ?_
  refine zy ?_ (by simp)
  refine za hs ?_
  refine wp_lt ?_
  have hfin0:∀ {w:World} {L:List HP},Sat w (lgQ lg M::dk M.d D::r)->Sat w (slc T.a0 7 ⟨none,0,0⟩ (([]:List BatM).flatMap zv)::z1j []::lgP lg M.A::dk M.d D::r):=λhs=>(zk4 (z4d M hs)).slc_nil
  unfold z5d
  refine ze (λh=>?_) λh=>?_
  ·rw [if_pos (show most<1 by omega)]
   have hs:Sat w' (lgQ lg M::dk M.d D::r):=hs.sub
   exact ⟨rfl,⟨none,0,0⟩,[],rfl,rfl,hfin0 (L:=[]) hs⟩
  rw [if_neg (show ¬ most<1 by omega)]
  refine zf (λq w'=>q=(decide (off<z1b M.l\/off>zt M.l),())/\Sat w' (pt a2 (.cells [.int .i64 most].toArray T.a13)::pt a1 (.cells [.int .i64 off].toArray T.a14)::pt a0 (.cells [.pointer (some ⟨lg,0,none⟩)].toArray T.a32)::lgQ lg M::dk M.d D::r)) ?_ ?_
  ·refine zx hs λw' hs=>?_
   refine z18 hs ?_
   refine za hs ?_
   refine z8 (zh0 (lg:=lg) hs) λ_ w' hs=>?_
   obtain ⟨rfl,hs⟩:=hs
   refine zb ?_ (by first|trivial|(repeat (first|exact trivial|exact λ_=>z09 hs|exact λ_=>z0m hs|refine And.intro ?_ ?_)))
   refine z18 hs ?_
   refine za hs ?_
   refine ze (λh1=>?_) λh1=>?_
   ·refine zd ?_
    exact zj ⟨by rw [decide_eq_true (.inl h1)],hs.sub⟩
   ·refine z8 (zat (lg:=lg) (by omega) hs) λ_ w' hs=>?_
    obtain ⟨rfl,hs⟩:=hs
    refine zb ?_ (by first|trivial|(repeat (first|exact trivial|exact λ_=>z09 hs|exact λ_=>z0m hs|refine And.intro ?_ ?_)))
    refine wp_lt ?_
    refine zd ?_
    refine zj ⟨?_,hs.sub⟩
    rw [decide_eq_decide.2 (show (off<z1b M.l\/off>zt M.l)↔off>zt M.l from ⟨λhh=>hh.resolve_left h1,.inr⟩)]
  rintro _ w2 ⟨rfl,hs⟩
  refine ze (λh1=>?_) λh1=>?_
  ·have h1:off<z1b M.l\/off>zt M.l:=by simpa using h1
   rw [if_pos h1]
   have hs:Sat w2 (lgQ lg M::dk M.d D::r):=hs.sub
   exact ⟨rfl,⟨none,0,0⟩,[],rfl,rfl,hfin0 (L:=[]) hs⟩
  have h1:¬ (off<z1b M.l\/off>zt M.l):=by simpa using h1
  rw [if_neg h1]
  obtain ⟨mN,rfl⟩:∃ mN:Nat,most=(mN:Int):=⟨most.toNat,by omega⟩
  rw [Int.toNat_natCast]
  refine zq hs λao w' hs=>?_
  refine za hs ?_
  refine zg ?_
  obtain ⟨hokm,hs⟩:=z2t (hs.pick [4])
  refine za hs ?_
  have hl:=hs.slen M.z (xs:=M.SM.map Prod.fst) (enc:=z1p)
  rw [List.length_map] at hl
  have hs:=z1n M hokm hs
  have hs:Sat w' (pt a0 (.cells [.pointer (some ⟨lg,0,none⟩)].toArray T.a32)::pt a1 (.cells [.int .i64 off].toArray T.a14)::lgQ lg M::pt ao (.cells #[.slice none 0 0] T.a37)::pt a2 (.cells [.int .i64 (mN:Int)].toArray T.a13)::dk M.d D::r):=hs.sub
  rw [hl]
  refine z8 (zfa M.SM.length (by omega) F.a139 #[.pointer (some ⟨a0,0,none⟩),.pointer (some ⟨a1,0,none⟩)] (λi=>decide (((M.l.map SegA.base).getD i 0)>off)) (by kernel_rfl) (λi w hi hs=>?_) hs) λ_ w' hs=>?_
  ·have e:(M.l.map SegA.base).getD i 0=M.SM[i].2.s.base:=by
    rw [List.getD_eq_getElem?_getD,List.getElem?_map,List.getElem?_eq_getElem (by omega),z59 i hi];rfl
   simp only [e]
   exact zyp (M:=M) i a0 a1 off hi hs
  obtain ⟨i0,hi0,hs1,hs2,rfl,hs⟩:=hs
  refine zb ?_
  refine z23 (y:=(i0:Int)-1) ?_ (by rw [w64 (by omega) (by omega)])
  refine z23 (y:=((i0-1:Nat):Int)) ?_ (by split <;> omega)
  have hskip:i0-1<M.SM.length->(z06 M.l).filterMap (z0q off)=(z06 (M.l.drop (i0-1))).filterMap (z0q off):=λhlt=>by
   refine zz2 hok (i:=i0-1) (by omega) ?_
   by_cases h0:i0=0
   ·right;omega
   ·left
    have h2:=hs1 (by omega)
    rw [List.getD_eq_getElem?_getD,List.getElem?_map,List.getElem?_eq_getElem (by omega)] at h2
    have h2:decide ((M.l[i0-1]'(by omega)).base>off)=false:=h2
    simpa using h2
  have hs:Sat w' (z4n ao []::lgQ lg M::dk M.d D::pt a1 (.cells [.int .i64 off].toArray T.a14)::pt a2 (.cells [.int .i64 (mN:Int)].toArray T.a13)::pt a0 (.cells [.pointer (some ⟨lg,0,none⟩)].toArray T.a32)::r):=by
   have h3:Sat w' (slc T.a0 7 ⟨none,0,0⟩ (([]:List BatM).flatMap zv)::z1j []::_):=(zk4 hs).slc_nil
   have h4:Sat w' (pt ao (.cells #[.slice none 0 0] T.a37)::slc T.a0 7 ⟨none,0,0⟩ (([]:List BatM).flatMap zv)::z1j []::lgQ lg M::dk M.d D::pt a1 (.cells [.int .i64 off].toArray T.a14)::pt a2 (.cells [.int .i64 (mN:Int)].toArray T.a13)::pt a0 (.cells [.pointer (some ⟨lg,0,none⟩)].toArray T.a32)::r):=h3.sub
   exact zcv (z:=⟨none,0,0⟩) h4
  refine zf (λ_ w'=>∃ outs:List BatM,outs.map BatM.p=((z06 M.l).filterMap (z0q off)).take mN/\Sat w' (z4n ao outs::lgQ lg M::dk M.d D::pt a1 (.cells [.int .i64 off].toArray T.a14)::pt a2 (.cells [.int .i64 (mN:Int)].toArray T.a13)::pt a0 (.cells [.pointer (some ⟨lg,0,none⟩)].toArray T.a32)::r)) ?_ ?_
  rotate_left
  ·rintro _ w3 ⟨outs,h4,hs⟩
   obtain ⟨z,hs⟩:=zla hs
   refine za hs ?_
   refine ⟨rfl,z,outs,rfl,h4,?_⟩
   have hs:Sat w3 (lgQ lg M::slc T.a0 7 z (outs.flatMap zv)::z1j outs::dk M.d D::r):=hs.sub
   have hs:=z4d M hs
   exact hs.sub
  have hpre:∀ (j:Nat),i0-1<=j->j<=M.l.length->(z06 ((M.l.drop (i0-1)).take (j-(i0-1)))).length<=1000000:=λj h1 h2=>by
   refine Nat.le_trans ?_ hall
   have:∀ (a b:List SegA),a.Sublist b->(z06 a).length<=(z06 b).length:=λa b h=>by
    induction h with
    | slnil=>exact Nat.le_refl _
    | cons x _ ih=>unfold z06 at *;rw [List.flatMap_cons,List.length_append];omega
    | cons_cons x _ ih=>unfold z06 at *;rw [List.flatMap_cons,List.flatMap_cons,List.length_append,List.length_append];omega
   exact this _ _ ((List.take_sublist _ _).trans (List.drop_sublist _ _))
  refine z03 (λm v w=>∃ (j:Nat) (outs:List BatM),v=((j:Int),())/\i0-1<=j/\(j<=M.SM.length\/j=i0-1)/\M.SM.length-j=m/\outs.map BatM.p=(z06 ((M.l.drop (i0-1)).take (j-(i0-1)))).filterMap (z0q off)/\outs.length<mN /\
   Sat w (z4n ao outs::lgQ lg M::dk M.d D::pt a1 (.cells [.int .i64 off].toArray T.a14)::pt a2 (.cells [.int .i64 (mN:Int)].toArray T.a13)::pt a0 (.cells [.pointer (some ⟨lg,0,none⟩)].toArray T.a32)::r)) (M.SM.length-(i0-1))
   ⟨i0-1,[],rfl,Nat.le_refl _,.inr rfl,rfl,by simp [z06],by show 0<mN;omega,hs⟩ ?_
  clear hs
  rintro m _ w ⟨j,outs,rfl,hj1,hj2,hm,hmap,hlt,hs⟩
  refine zm ?_
  refine za hs ?_
  refine zg ?_
  obtain ⟨hokm,hs⟩:=z2t (hs.pick [1])
  refine za hs ?_
  refine ze (λhc=>?_) λhc=>?_
  rotate_left
  ·have hs:=z1n M hokm hs
   refine zh (zj ⟨outs,?_,hs.sub⟩)
   by_cases hlt2:i0-1<M.SM.length
   ·have hje:j=M.SM.length:=by omega
    rw [hskip hlt2,hmap,hje]
    rw [List.take_of_length_le (l:=M.l.drop (i0-1)) (by rw [List.length_drop];omega)] at hmap ⊢
    have:=congrArg List.length hmap
    rw [List.length_map] at this
    rw [List.take_of_length_le (by omega)]
   ·have h0:M.l=[]:=List.length_eq_zero_iff.1 (by omega)
    rw [hmap,h0]
    simp [z06]
  have hjl:j<M.SM.length:=by omega
  refine za hs ?_
  refine zg ?_
  refine za hs ?_
  refine z22 hs (xs:=M.SM.map Prod.fst) (enc:=z1p) j (by rw [List.length_map];exact hjl) ?_
  have e0:(M.SM.map Prod.fst)[j]'(by rw [List.length_map];exact hjl)=M.SM[j].1:=by simp
  rw [e0]
  have hmem:M.SM[j].2.s ∈ M.l:=List.mem_map.2 ⟨_,List.getElem_mem hjl,rfl⟩
  have hsok:=(hok.mem _ hmem).1
  obtain ⟨kp,hfile⟩:=hhas _ hmem
  have hrl:M.SM[j].2.s.file.length<=4194304:=Nat.le_trans (zd5 hfile) hokD.used
  have hbl:=zgz hsok
  obtain ⟨k,hk,hpl,hskp⟩:=zvd hsok hrl M.gap off
  have hlt2:i0-1<M.SM.length:=by omega
  have hstep:(M.l.drop (i0-1)).take (j+1-(i0-1))=(M.l.drop (i0-1)).take (j-(i0-1))++[M.SM[j].2.s]:=by
   rw [show j+1-(i0-1)=(j-(i0-1))+1 by omega,List.take_succ_eq_append_getElem (by rw [List.length_drop];omega),List.getElem_drop,z59 j hjl]
   congr 3
   omega
  have hnone:(M.SM[j].2.s.bs).filterMap (z0q off)=(M.SM[j].2.s.bs.drop k).filterMap (z0q off):=by
   have e:M.SM[j].2.s.bs=M.SM[j].2.s.bs.take k++M.SM[j].2.s.bs.drop k:=(List.take_append_drop _ _).symm
   calc (M.SM[j].2.s.bs).filterMap (z0q off)=(M.SM[j].2.s.bs.take k++M.SM[j].2.s.bs.drop k).filterMap (z0q off):=by rw [<- e]
    _=(M.SM[j].2.s.bs.drop k).filterMap (z0q off):=by
     rw [List.filterMap_append,zam (l:=M.SM[j].2.s.bs.take k),List.nil_append]
     intro b hb
     exact zfw (hsok.bs.valid b (List.mem_of_mem_take hb)).1 (hskp b hb)
  have hall2:(z06 ((M.l.drop (i0-1)).take (j+1-(i0-1)))).filterMap (z0q off)=(z06 ((M.l.drop (i0-1)).take (j-(i0-1)))).filterMap (z0q off)++(M.SM[j].2.s.bs.drop k).filterMap (z0q off):=by
   rw [hstep]
   unfold z06
   rw [List.flatMap_append,List.filterMap_append,<- hnone]
   simp
  have hol:outs.length<=1000000:=by
   have:=congrArg List.length hmap
   rw [List.length_map] at this
   rw [this]
   exact Nat.le_trans (List.length_filterMap_le _ _) (hpre j hj1 (by omega))
  refine zf (λq w'=>∃ outs':List BatM,q=(decide (outs.length+((M.SM[j].2.s.bs.drop k).filterMap (z0q off)).length<mN),())/\outs'.map BatM.p=(outs.map BatM.p++(M.SM[j].2.s.bs.drop k).filterMap (z0q off)).take mN /\
    Sat w' (z4n ao outs'::lgQ lg M::dk M.d D::pt a1 (.cells [.int .i64 off].toArray T.a14)::pt a2 (.cells [.int .i64 (mN:Int)].toArray T.a13)::pt a0 (.cells [.pointer (some ⟨lg,0,none⟩)].toArray T.a32)::r)) ?_ ?_
  ·refine zx hs λw' hs=>?_
   refine z18 hs ?_
   refine za hs ?_
   have hs:=z9g (hs.pick [2]) hjl
   refine z8 (z046 (gap:=M.gap) (a:=M.SM[j].1) (t:=M.SM[j].2) off hsok hrl hs) λ_ w' hs=>?_
   obtain ⟨rfl,hs⟩:=hs
   refine zb ?_ (by first|trivial|(repeat (first|exact trivial|exact λ_=>z09 hs|exact λ_=>z0m hs|refine And.intro ?_ ?_)))
   refine zd ?_
   have hs:=z6z hjl hs
   have hs:=z1n M hokm (hs.pick [1,1])
   have hs:Sat w' (z4n ao outs::lgQ lg M::dk M.d D::pt a1 (.cells [.int .i64 off].toArray T.a14)::pt a2 (.cells [.int .i64 (mN:Int)].toArray T.a13)::pt a0 (.cells [.pointer (some ⟨lg,0,none⟩)].toArray T.a32)::r):=hs.sub
   rw [hpl]
   refine z8 (z06a off mN a1 a2 ho hjl hsok hfile hk hlt (by omega) hs) λ_ w' hs=>?_
   obtain ⟨outs',rfl,hm2,-,hs⟩:=hs
   refine zb ?_
   refine wp_lt ?_
   refine zd ?_
   exact zj ⟨outs',rfl,hm2,hs⟩
  clear hs
  rintro _ w3 ⟨outs',rfl,hm2,hs⟩
  rw [hmap,<- hall2] at hm2
  have hlm:=congrArg List.length hmap
  rw [List.length_map] at hlm
  refine ze (λh5=>?_) λh5=>?_
  ·have h5:¬ (outs.length+((M.SM[j].2.s.bs.drop k).filterMap (z0q off)).length<mN):=by simpa using h5
   refine zh (zj ⟨outs',?_,hs⟩)
   rw [hm2,hskip hlt2]
   have e:z06 (M.l.drop (i0-1))=z06 ((M.l.drop (i0-1)).take (j+1-(i0-1)))++z06 ((M.l.drop (i0-1)).drop (j+1-(i0-1))):=by
    unfold z06;rw [<- List.flatMap_append,List.take_append_drop]
   rw [e,List.filterMap_append,List.take_append_of_le_length]
   rw [hall2,List.length_append]
   omega
  ·have h5:(outs.length+((M.SM[j].2.s.bs.drop k).filterMap (z0q off)).length<mN):=by simpa using h5
   refine z23 (y:=((j+1:Nat):Int)) ?_ (by rw [w64 (by omega) (by omega)];omega)
   have hll2:((z06 ((M.l.drop (i0-1)).take (j+1-(i0-1)))).filterMap (z0q off)).length<mN:=by rw [hall2,List.length_append];omega
   rw [List.take_of_length_le (by omega)] at hm2
   have hl3:=congrArg List.length hm2
   rw [List.length_map] at hl3
   exact z11 (M.SM.length-(j+1)) ⟨j+1,outs',rfl,by omega,.inl (by omega),rfl,hm2,by omega,hs⟩
theorem zvo {r1:List HP} [hf:Fo l lgP lg A r1] [hf2:Fo r1 dk A.d D r] (hok:z0b 0 A.l) (hhas:zjw A.pre A.l D) (hlen:A.l.length<=1000000) (hall:(z06 A.l).length<=1000000) (hs:Sat w l) :
  Ret P F.a134 #[.pointer (some ⟨lg,0,none⟩)] w λvs w'=>∃ (z:Sl) (outs:List BatM),vs=[z.v]/\outs.map BatM.p=z06 A.l/\Sat w' (slc T.a0 7 z (outs.flatMap zv)::z1j outs::lgP lg A::dk A.d D::r) :=
 znq _ <| by
  delta z013 AV Ac Ad Af Ai Aj An
  have hs:=hs.perm (hf.perm.trans (.cons _ hf2.perm))
  clear hf hf2
  have hfn:=zfv hok
  have hnx:=hok.next (Int.le_refl 0)
  have hf0:0<=z1b A.l:=by
   cases hq:A.l with
   | nil=>decide
   | cons s l0=>rw [hq] at hok;have:=hok.1;exact this
  refine zy ?_ (by simp)
  obtain ⟨M,hM,hs⟩:=z7o hs
  subst hM
  refine z8 (zh0 (lg:=lg) hs) λ_ w' hs=>?_
  obtain ⟨rfl,hs⟩:=hs
  refine zb ?_
  have hs:=z4d M hs
  have hfn:z1b M.l<=zt M.l:=hfn
  have hnx:0<=zt M.l/\zt M.l<=1099511627777:=hnx
  have hf0:0<=z1b M.l:=hf0
  refine z8 (zqd (lg:=lg) (A:=M.A) (D:=D) (z1b M.l) 1099511627776 (by omega) (by omega) hok hhas hlen hall hs) λ_ w' hs=>?_
  obtain ⟨z,outs,rfl,hmap,hs⟩:=hs
  refine zb ?_
  refine wp_lt ?_
  have hra:z5d M.A.l (z1b M.l) 1099511627776=(0,z06 M.A.l):=zyr hok (by omega) (by omega)
  rw [hra] at hmap
  exact ⟨rfl,z,outs,rfl,hmap,hs⟩
end
def zdb (seg gap:Int):Prop:=(64<=seg/\seg<=4194304)/\(1<=gap/\gap<=4194304)
instance (seg gap:Int):Decidable (zdb seg gap):=by unfold zdb;infer_instance
section
variable {w:World} {l r:List HP} {lg d:Nat} {M:LogM} {A:LogA} {D:DiskA}
set_option maxHeartbeats 1000000 in
theorem z03h (pre:ByteArray) (seg gap:Int) (hp:z3o pre=true) (hc:zdb seg gap) (hg:D.gone=false) [hf:Fo l dk d D r] (hs:Sat w l):Ret P F.a156 #[.pointer (some ⟨d,0,none⟩),.string pre,.agg #[.int .i64 seg,.int .i64 gap]] w λvs w' =>
  ((z4f pre D).1≠0/\vs=[.pointer none,.int .i64 (z4f pre D).1]/\Sat w' (dk d (z4f pre D).2.2::r)) \/
  ((z4f pre D).1=0/\∃ lg,vs=[.pointer (some ⟨lg,0,none⟩),.int .i64 0]/\Sat w' (lgP lg ⟨d,pre,seg,gap,(z4f pre D).2.1⟩::dk d (z4f pre D).2.2::r)) :=
 zo8 _ pre seg gap <| by
  delta z01l AM AP AS AV Aa Ac Ad Af Ag Ah Ai Aj Al Am An Ap Aq Av Az BC BL Ba
  have hs:=hs.perm hf.perm
  obtain ⟨m_,FS_,-,hokD,-⟩:=z24 hs
  refine zn hs λa0 w' hs=>?_
  refine wp_lt ?_
  refine zy ?_ (by simp)
  refine zf (λq w'=>q=(false,())/\Sat w' (dk d D::pt a0 (.cells #[.int .i64 seg,.int .i64 gap] T.a47)::r)) ?_ ?_
  ·refine z8 (zyn pre hs) λ_ w' hs=>?_
   obtain ⟨rfl,hs⟩:=hs
   refine zb ?_
   refine zk hs ?_
   refine zy ?_ (by rw [hp];simp)
   refine z8 (z05e seg gap hs) λ_ w' hs=>?_
   obtain ⟨rfl,hs⟩:=hs
   refine zb ?_
   refine wp_lt ?_
   refine zj ⟨?_,hs.sub⟩
   have:((64<=seg/\seg<=4194304)/\(1<=gap/\gap<=4194304)):=hc
   rw [decide_eq_true this]
   rfl
  rintro _ w2 ⟨rfl,hs⟩
  refine zy ?_ (by simp)
  refine z8 (z054 (d:=d) hs) λ_ w' hs=>?_
  obtain ⟨rfl,hs⟩:=hs
  refine zb ?_
  refine wp_lt ?_
  refine zy ?_ (by rw [hg];simp)
  refine zk hs ?_
  refine zn hs λlg w' hs=>?_
  have hokm:okM gap seg pre:=⟨hc.2,hc.1,hp⟩
  have hs:Sat w' (lgQ lg ⟨d,pre,seg,gap,⟨none,0,0⟩,[]⟩::dk d D::r):=by
   refine z1n ⟨d,pre,seg,gap,⟨none,0,0⟩,[]⟩ hokm ?_
   have h1:Sat w' (HP.all (([]:List (Nat × SegM)).map λt=>z0o gap t.1 t.2)::pt lg (.cells #[.pointer (some ⟨d,0,none⟩),.string pre,.int .i64 seg,.int .i64 gap,.slice none 0 0] T.a48)::dk d D::r):=by
    have hs:Sat w' (pt lg (.cells #[.pointer (some ⟨d,0,none⟩),.string pre,.int .i64 seg,.int .i64 gap,.slice none 0 0] T.a48)::dk d D::r):=hs.sub
    exact Sat.all_nil hs
   have h2:Sat w' (slc T.a33 1 ⟨none,0,0⟩ (((([]:List (Nat × SegM))).map Prod.fst).flatMap z1p)::_):=h1.slc_nil
   exact h2.pick [2]
  unfold z4f
  refine z8 (z02x (lg:=lg) (M:=⟨d,pre,seg,gap,⟨none,0,0⟩,[]⟩) (D:=D) hs) λ_ w' hs=>?_
  have hnl:(z0u pre (z0y (z15 pre) D.fs) D).2.1.length<=128:=by
   refine Nat.le_trans zfu ?_
   unfold z0y
   exact Nat.le_trans (List.length_filter_le _ _) (by rw [List.length_map];exact hokD.many)
  have hlt:=zi9 (pre:=pre) (ns:=z0y (z15 pre) D.fs) (D:=D)
  rcases hs with ⟨he,rfl,hs⟩|⟨he,x,rfl,hs⟩
  ·have he:(z0u pre (z0y (z15 pre) D.fs) D).1≠0:=he
   refine zb ?_
   refine wp_lt ?_
   refine z0c ?_ he
   refine wp_lt ?_
   rw [if_pos he]
   exact ⟨rfl,.inl ⟨he,rfl,hs.tail⟩⟩
  have he:(z0u pre (z0y (z15 pre) D.fs) D).1=0:=he
  refine ⟨(x,0,()),rfl,trivial,z39 _ _ ?_⟩
  refine wp_lt ?_
  refine zy ?_ (by simp)
  rw [if_neg (by rw [he];simp)]
  have hs:Sat w' (slc T.a14 1 x ((z0u pre (z0y (z15 pre) D.fs) D).2.1.flatMap z42)::lgQ lg ⟨d,pre,seg,gap,⟨none,0,0⟩,[]⟩::dk d (z0u pre (z0y (z15 pre) D.fs) D).2.2::r):=hs
  generalize (z0u pre (z0y (z15 pre) D.fs) D).2.2=D1 at *
  generalize (z0u pre (z0y (z15 pre) D.fs) D).2.1=bs at *
  have hl:=hs.slen x (xs:=bs) (enc:=z42)
  have hcap:=hs.slc_cap
  refine zf (λq w'=>∃ M:LogM,q=((z1z pre bs [] D1).1,())/\(M.d=d/\M.pre=pre/\M.seg=seg/\M.gap=gap)/\M.l=(z1z pre bs [] D1).2.1/\Sat w' (lgQ lg M::dk d (z1z pre bs [] D1).2.2::r)) ?_ ?_
  rotate_left
  ·rintro _ w3 ⟨M,rfl,⟨rfl,rfl,rfl,rfl⟩,h2,hs⟩
   refine ze (λh=>?_) λh=>?_
   ·refine wp_lt ?_
    exact ⟨rfl,.inl ⟨h,rfl,hs.tail⟩⟩
   ·have h:(z1z M.pre bs [] D1).1=0:=Decidable.not_not.1 h
    refine ⟨rfl,.inr ⟨h,lg,rfl,?_⟩⟩
    have:=z4d M hs
    have e:M.A=⟨M.d,M.pre,M.seg,M.gap,(z1z M.pre bs [] D1).2.1⟩:=by rw [<- h2];rfl
    rw [<- e]
    exact this
  refine z03 (λm v w=>∃ (i:Nat) (M:LogM) (D':DiskA),v=((0:Int),((i:Int),()))/\i<=bs.length/\bs.length-i=m/\M.SM.length<=i/\z1z pre bs [] D1=z1z pre (bs.drop i) M.l D'/\(M.d=d/\M.pre=pre/\M.seg=seg/\M.gap=gap) /\
   Sat w (slc T.a14 1 x (bs.flatMap z42)::lgQ lg M::dk d D'::r)) bs.length ⟨0,⟨d,pre,seg,gap,⟨none,0,0⟩,[]⟩,D1,rfl,by omega,rfl,by simp,rfl,⟨rfl,rfl,rfl,rfl⟩,hs⟩ ?_
  clear hs
  rintro m _ w ⟨i,M,D',rfl,hi,hm,hsm,hq,⟨rfl,rfl,rfl,rfl⟩,hsn⟩
  have hs:=hsn
  refine zm ?_
  refine ze (λhcc=>?_) λhcc=>?_
  rotate_left
  ·have e:bs.drop i=[]:=List.drop_eq_nil_of_le (by omega)
   rw [e] at hq
   have hq:z1z M.pre bs [] D1=(0,M.l,D'):=hq
   rw [hq]
   exact zh (zj ⟨M,rfl,⟨rfl,rfl,rfl,rfl⟩,rfl,hs.sub⟩)
  have hil:i<bs.length:=by omega
  rw [List.drop_eq_getElem_cons hil] at hq
  have hbb:=hlt bs[i] (List.getElem_mem hil)
  have hun:z1z M.pre (bs[i]::bs.drop (i+1)) M.l D'=if bs[i]<zt M.l then (if (z10 D' (zl M.pre bs[i] zu)).1≠0 then ((z10 D' (zl M.pre bs[i] zu)).1,M.l,(z10 D' (zl M.pre bs[i] zu)).2) else z1z M.pre (bs.drop (i+1)) M.l (z10 D' (zl M.pre bs[i] zu)).2) else
   if (z1o M.pre M.l D' bs[i]).1.2≠0 then ((z1o M.pre M.l D' bs[i]).1.2,(z1o M.pre M.l D' bs[i]).2) else
   if (z1o M.pre M.l D' bs[i]).1.1=true then z1z M.pre (bs.drop (i+1)) (z1o M.pre M.l D' bs[i]).2.1 (z1o M.pre M.l D' bs[i]).2.2 else ((z69 M.pre (bs.drop (i+1)) (z1o M.pre M.l D' bs[i]).2.2).1,(z1o M.pre M.l D' bs[i]).2.1,(z69 M.pre (bs.drop (i+1)) (z1o M.pre M.l D' bs[i]).2.2).2):=rfl
  have ei:IntKind.wrap .i64 ((i:Int)+1)=((i+1:Nat):Int):=by rw [w64 (by omega) (by omega)];omega
  refine zf (λq w'=>∃ (M2:LogM) (D2:DiskA),q=((0:Int),())/\M2.SM.length<=i+1/\z1z M.pre bs [] D1=z1z M.pre (bs.drop (i+1)) M2.l D2/\(M2.d=M.d/\M2.pre=M.pre/\M2.seg=M.seg/\M2.gap=M.gap) /\
   Sat w' (slc T.a14 1 x (bs.flatMap z42)::lgQ lg M2::dk M.d D2::r)) ?_ ?_
  rotate_left
  ·rintro _ w3 ⟨M2,D2,rfl,h1,h2,h3,hs⟩
   rw [ei]
   exact z11 (bs.length-(i+1)) ⟨i+1,M2,D2,rfl,by omega,rfl,h1,h2,h3,hs⟩
  refine z22 hs (xs:=bs) (enc:=z42) i hil ?_
  refine wp_lt ?_
  refine wp_lt ?_
  refine z8 (zat (lg:=lg) (by omega) hs) λ_ w' hs=>?_
  obtain ⟨rfl,hs⟩:=hs
  refine zb ?_
  refine ze (λh1=>?_) λh1=>?_
  ·rw [if_pos h1] at hun
   obtain ⟨hokm,hs⟩:=z9a hs
   refine z8 (z7r (lg:=lg) bs[i] hbb (ByteArray.mk #[46,108,111,103]) (by decide) M.pre hokm.size hs) λ_ w' hs=>?_
   obtain ⟨rfl,hs⟩:=hs
   refine zb ?_
   refine z8 (zbk (d:=M.d) (A:=D') (zl M.pre bs[i] (bl (ByteArray.mk #[46,108,111,103]))) hs) λ_ w' hs=>?_
   obtain ⟨rfl,hs⟩:=hs
   refine zb ?_
   refine wp_lt ?_
   have en:zl M.pre bs[i] (bl (ByteArray.mk #[46,108,111,103]))=zl M.pre bs[i] zu:=rfl
   rw [en] at hs ⊢
   have hs:=z4e M hokm (hs.pick [1,1])
   refine ze (λh2=>?_) λh2=>?_
   ·rw [if_pos h2] at hun
    rw [hun] at hq
    rw [hq]
    exact zh (zh (zj ⟨M,rfl,⟨rfl,rfl,rfl,rfl⟩,rfl,hs.sub⟩))
   ·rw [if_neg h2] at hun
    rw [hun] at hq
    have h2:=Decidable.not_not.1 h2
    rw [h2]
    exact zj ⟨M,_,rfl,by omega,hq,⟨rfl,rfl,rfl,rfl⟩,hs.sub⟩
  ·rw [if_neg h1] at hun
   refine z8 (z061 (lg:=lg) (D:=D') bs[i] hbb (by omega) hs) λ_ w' hs=>?_
   obtain ⟨rfl,M2,⟨e1,e2,e3,e4⟩,hMl,hMs,hs⟩:=hs
   refine zb ?_
   refine wp_lt ?_
   refine wp_lt ?_
   have hs:Sat w' (lgQ lg M2::dk M.d (z1o M.pre M.l D' bs[i]).2.2::slc T.a14 1 x (bs.flatMap z42)::r):=hs
   generalize z1o M.pre M.l D' bs[i]=SC at *
   obtain ⟨⟨b0,e0⟩,l0,D0⟩:=SC
   dsimp only at hun hMl hs ⊢
   refine ze (λh2=>?_) λh2=>?_
   ·obtain ⟨h2a,h2b⟩:=h2
    have h2a:e0=0:=h2a
    have h2b:b0=false:=by simpa using h2b
    rw [if_neg (by rw [h2a];simp),if_neg (by rw [h2b];simp)] at hun
    rw [ei]
    refine wp_must (by omega) ?_
    rw [Int.toNat_natCast]
    rw [<- e1] at hs
    have hx:FocR (slc T.a14 1 x (bs.flatMap z42)::r) ⟨z14 x.a 1 (i+1) x.cap,x.len-(i+1),x.cap-(i+1)⟩ 1 ((bs.drop (i+1)).flatMap z42):=FocR.post hcap
    refine z8 (z02s (lg:=lg) (M:=M2) (D:=D0) ⟨z14 x.a 1 (i+1) x.cap,x.len-(i+1),x.cap-(i+1)⟩ (bs.drop (i+1)) (λb hb=>hlt b (List.mem_of_mem_drop hb)) hx (by rw [List.length_drop];omega) hs) λ_ w' hs=>?_
    obtain ⟨rfl,hs⟩:=hs
    refine zb ?_
    refine wp_lt ?_
    rw [e2,e1] at hs
    rw [e2]
    rw [hun] at hq
    rw [hq]
    refine zh (zh (zj ⟨M2,rfl,⟨e1,e2,e3,e4⟩,hMl,hs.sub⟩))
   ·refine ze (λh3=>?_) λh3=>?_
    ·rw [if_pos h3] at hun
     rw [hun] at hq
     rw [hq]
     refine zh (zh (zj ⟨M2,rfl,⟨e1,e2,e3,e4⟩,hMl,hs.sub⟩))
    ·have h3:e0=0:=Decidable.not_not.1 h3
     have h4:b0=true:=by
      cases hb0:b0 with
      | true=>rfl
      | false=>exact absurd ⟨h3,by rw [hb0];simp⟩ h2
     rw [if_neg (by rw [h3];simp),if_pos h4,<- hMl] at hun
     rw [hun] at hq
     rw [h3]
     exact zj ⟨M2,D0,rfl,by omega,hq,⟨e1,e2,e3,e4⟩,hs.sub⟩
end
theorem z9z:∀ {bs:List BatM} {n:Int},0<=n->(zw n bs).1=0->z1m n ((zw n bs).2.map BatM.p)/\(∀ b ∈ (zw n bs).2,n<=b.base)
 | [],n,_,_=>⟨trivial,λ_ h=>by cases h⟩
 | b::bs,n,hn,h=>by
  unfold zw at h ⊢
  by_cases h1:z05 (b.to n)≠0
  ·rw [if_pos h1] at h;exact absurd h h1
  rw [if_neg h1] at h ⊢
  by_cases h2:(zw (n+zo b) bs).1≠0
  ·rw [if_pos h2] at h;exact absurd h h2
  rw [if_neg h2]
  have hv:=Decidable.not_not.1 h1
  obtain ⟨s1,-,-,-,-⟩:=z16 _ hv
  have s1:1<=zo b:=s1
  obtain ⟨i1,i2⟩:=z9z (n:=n+zo b) (by omega) (Decidable.not_not.1 h2)
  refine ⟨⟨hv,rfl,Int.le_refl _,i1⟩,λc hc=>?_⟩
  rcases List.mem_cons.1 hc with rfl|hc
  ·exact Int.le_refl _
  ·have:=i2 c hc;omega
theorem z1m.append:∀ {n:Int} {cs bs:List BatM},0<=n->z1m n cs->z1m (max n (z0d cs)) bs->z1m n (cs++bs)
 | n,[],bs,hn,_,h2=>h2.mono (by show n<=max n 0;omega)
 | n,a::cs,bs,hn,⟨h1,h2,h3,h4⟩,hb=>by
  obtain ⟨s1,-,⟨-,hba,-⟩,-,-⟩:=z16 a h1
  refine ⟨h1,h2,h3,h4.append (by omega) (hb.mono ?_)⟩
  have h5:a.base+zo a<=z0d (a::cs):=z1m.le_next (n:=n) (bs:=a::cs) ⟨h1,h2,h3,h4⟩ (List.mem_cons_self ..)
  have h6:z0d cs<=z0d (a::cs):=by
   cases cs with
   | nil=>show (0:Int)<=_;omega
   | cons c ds=>exact Int.le_refl _
  omega
theorem z0b.mono {m n:Int} {l:List SegA} (h:z0b n l) (hm:m<=n):z0b m l:=by
 cases l with
 | nil=>trivial
 | cons s l=>exact ⟨by have:=h.1;omega,h.2.1,h.2.2⟩
theorem z37 (l:List SegA) (s:SegA):zt (l++[s])=s.reach:=by unfold zt;rw [z1t]
theorem zfk (l:List SegA) (s:SegA):z56 (l++[s])=s.base:=by unfold z56;rw [z1t]
theorem z3s (l:List SegA) (s:SegA) (bs:List BatM):z4t (l++[s]) bs=l++[s.add bs]:=by unfold z4t;rw [z1t];simp
theorem z0b.snoc:∀ {n:Int} {l:List SegA} {s:SegA},z0b n l->SegOk s->n<=s.base->(∀ t ∈ l,t.reach<=s.base/\t.base<s.base)->z0b n (l++[s])
 | n,[],s,_,hs,hn,_=>⟨hn,hs,trivial⟩
 | n,a::l,s,⟨h1,h2,h3⟩,hs,hn,ht=>by
  have:=ht a (List.mem_cons_self ..)
  exact ⟨h1,h2,h3.snoc hs (by omega) λt h=>ht t (List.mem_cons_of_mem _ h)⟩
theorem z0b.front:∀ {n:Int} {l:List SegA} {s:SegA},z0b n (l++[s])->z0b n l/\SegOk s/\n<=s.base/\∀ t ∈ l,t.reach<=s.base/\t.base<s.base
 | n,[],s,h=>⟨trivial,h.2.1,h.1,λ_ h=>by cases h⟩
 | n,a::l,s,⟨h1,h2,h3⟩=>by
  obtain ⟨i1,i2,i3,i4⟩:=h3.front
  have:=(z5c h2).1
  refine ⟨⟨h1,h2,i1⟩,i2,by omega,λt ht=>?_⟩
  rcases List.mem_cons.1 ht with rfl|ht
  ·omega
  ·exact i4 t ht
theorem zus {s:SegA} (hs:SegOk s) {bs:List BatM} {n:Int} (h:(zw n bs).1=0) (hn:n=s.reach):SegOk (s.add (zw n bs).2):=by
 have hr:=z5c hs
 have hb:=hs.base
 refine ⟨hs.base,hs.fin,?_⟩
 subst hn
 have hm:max s.base (z0d s.bs)<=s.reach:=by omega
 exact hs.bs.append hb.1 ((z9z (by omega) h).1.mono hm)
theorem zmo {bs:List BatM} {n:Int} (h:(zw n bs).1=0) (hb:bs≠[]):0<=n/\n<=1099511627776:=by
 cases bs with
 | nil=>exact absurd rfl hb
 | cons b bs =>
  unfold zw at h
  by_cases h1:z05 (b.to n)≠0
  ·rw [if_pos h1] at h;exact absurd h h1
  ·obtain ⟨-,-,⟨-,hba,-⟩,-,-⟩:=z16 _ (Decidable.not_not.1 h1)
   exact hba
def z1f (seg:Int) (l:List SegA) (bs:List BatM):(Int × Int) × List SegA :=
 if bs=[] then ((0,3),l) else if (zw (zt l) bs).1≠0 then ((0,(zw (zt l) bs).1),l) else
 ((zt l,0),if z6s seg l ((zw (zt l) bs).2.flatMap frL).length then z4t l (zw (zt l) bs).2 else l++[(⟨zt l,0,[]⟩:SegA).add (zw (zt l) bs).2])
theorem za0 {seg:Int} {l:List SegA} {bs:List BatM} (h:z0b 0 l):z0b 0 (z1f seg l bs).2:=by
 unfold z1f
 split
 ·exact h
 rename_i hb
 split
 ·exact h
 rename_i hp
 have hp:=Decidable.not_not.1 hp
 have hv:=zmo hp hb
 simp only
 split
 ·rename_i hr
  have hne:l≠[]:=by rintro rfl;cases hr
  obtain ⟨l0,s,rfl⟩:=z3d hne
  rw [z3s]
  obtain ⟨h1,h2,h3,h4⟩:=h.front
  exact h1.snoc (zus h2 hp (z37 _ _)) h3 h4
 ·rename_i hr
  have hs:SegOk ((⟨zt l,0,[]⟩:SegA).add (zw (zt l) bs).2):=by
   refine ⟨hv,.inl rfl,?_⟩
   show z1m _ ([]++_)
   rw [List.nil_append]
   exact (z9z hv.1 hp).1
  refine h.snoc hs hv.1 λt ht=>?_
  show t.reach<=zt l/\t.base<zt l
  have hne:l≠[]:=List.ne_nil_of_mem ht
  obtain ⟨l0,s,rfl⟩:=z3d hne
  obtain ⟨h1,h2,h3,h4⟩:=h.front
  rw [z37]
  have hsr:=z5c h2
  have hlast:s.base<s.reach:=by
   have hr2:z6s seg (l0++[s]) ((zw (zt (l0++[s])) bs).2.flatMap frL).length=false:=by simpa using hr
   unfold z6s at hr2
   rw [z1t] at hr2
   simp only [Bool.or_eq_false_iff,decide_eq_false_iff_not] at hr2
   have hbs:s.bs≠[]:=by rintro hbs;rw [hbs] at hr2;exact hr2.1 rfl
   have:=hsr.2.2.2.2 hbs
   omega
  rcases List.mem_append.1 ht with ht|ht
  ·have:=h4 t ht;omega
  ·simp only [List.mem_cons,List.not_mem_nil,or_false] at ht
   subst ht
   exact ⟨Int.le_refl _,hlast⟩
theorem zs3 (pre:ByteArray) (seg:Int) (l:List SegA) (D:DiskA) (bs:List BatM):((z0w pre seg l D bs).1=(z1f seg l bs).1/\(z0w pre seg l D bs).2.1=(z1f seg l bs).2)\/((z0w pre seg l D bs).1.1=0/\(z0w pre seg l D bs).1.2≠0/\(z0w pre seg l D bs).2.1=l/\(z1f seg l bs).1.2=0):=by
 unfold z0w z1f
 split
 ·exact .inl ⟨rfl,rfl⟩
 split
 ·exact .inl ⟨rfl,rfl⟩
 split
 ·split
  ·rename_i h;exact .inr ⟨rfl,h,rfl,rfl⟩
  ·exact .inl ⟨rfl,rfl⟩
 ·split
  ·rename_i h;exact .inr ⟨rfl,h,rfl,rfl⟩
  split
  ·rename_i h;exact .inr ⟨rfl,h,rfl,rfl⟩
  ·exact .inl ⟨rfl,rfl⟩
theorem zvp {pre:ByteArray} {seg:Int} {l:List SegA} {D:DiskA} {bs:List BatM} (h:z0b 0 l):z0b 0 (z0w pre seg l D bs).2.1:=by
 rcases zs3 pre seg l D bs with ⟨-,h2⟩|⟨-,-,h2,-⟩
 ·rw [h2];exact za0 h
 ·rw [h2];exact h
def aP:ByteArray:=ByteArray.mk #[112]
theorem zqn:∀ (bs:List BatM) (n:Int),(zw n (bs.map BatM.p)).1=(zw n bs).1/\(zw n (bs.map BatM.p)).2.map BatM.p=(zw n bs).2.map BatM.p
 | [],n=>⟨rfl,rfl⟩
 | b::bs,n=>by
  rw [List.map_cons]
  unfold zw
  have e1:z05 (b.p.to n)=z05 (b.to n):=rfl
  have e2:zo b.p=zo b:=rfl
  obtain ⟨i1,i2⟩:=zqn bs (n+zo b)
  rw [e1,e2,i1]
  split
  ·exact ⟨rfl,rfl⟩
  split
  ·exact ⟨rfl,rfl⟩
  ·exact ⟨rfl,by rw [List.map_cons,List.map_cons,i2];rfl⟩
theorem zvi {a b:List BatM} (h:a.map BatM.p=b.map BatM.p):a.flatMap frL=b.flatMap frL:=by
 rw [<- zkm a,h,zkm]
theorem zzu {a b:List BatM} (h:a.map BatM.p=b.map BatM.p) (s:SegA):s.add a=s.add b:=by unfold SegA.add;rw [h]
theorem zur {a b:List BatM} (h:a.map BatM.p=b.map BatM.p) (l:List SegA):z4t l a=z4t l b:=by
 unfold z4t
 split
 ·rfl
 ·rw [zzu h]
theorem zle (seg:Int) (l:List SegA) (bs:List BatM):z1f seg l (bs.map BatM.p)=z1f seg l bs:=by
 obtain ⟨h1,h2⟩:=zqn bs (zt l)
 unfold z1f
 rw [h1,zvi h2,zur h2,zzu h2]
 by_cases hb:bs=[]
 ·subst hb;rfl
 ·rw [if_neg hb,if_neg (by intro h;exact hb (List.map_eq_nil_iff.1 h))]
structure Calm (D:DiskA):Prop where
 gone:D.gone=false
 left:D.left = -1
theorem z9t {D:DiskA} (h:D.left = -1):z2e D=D:=by unfold z2e;rw [if_neg (by omega)]
theorem zk0 {D:DiskA} (h:Calm D) (n:ByteArray) (bs:List UInt8):Calm (z08 D n bs).2:=by
 unfold z08
 split
 ·exact h
 split
 ·exact h
 split
 ·exact h
 ·show Calm (z2e _)
  rw [z9t (by exact h.left)]
  exact ⟨h.gone,h.left⟩
theorem zwq {D:DiskA} (h:Calm D) (ns:List ByteArray):Calm (z1s D ns).2:=by
 unfold z1s
 split
 ·exact h
 split
 ·exact h
 ·show Calm (z2e _)
  rw [z9t (by exact h.left)]
  exact ⟨h.gone,h.left⟩
theorem zyu {D:DiskA} (h:Calm D) (n:ByteArray):Calm (z10 D n).2:=by
 unfold z10
 split
 ·exact h
 split
 ·exact h
 ·show Calm (z2e _)
  rw [z9t (by exact h.left)]
  exact ⟨h.gone,h.left⟩
theorem zs9 {D:DiskA} (h:Calm D) (pre:ByteArray) (l:List SegA):Calm (z0j pre l D).2:=by
 unfold z0j
 split
 ·exact h
 ·exact zwq h _
theorem z7c {A:DiskA} {n:ByteArray} {bs:List UInt8}:(z08 A n bs).2.fs.length<=A.fs.length+1/\((z02 A.fs n).isSome=true->(z08 A n bs).2.fs.length=A.fs.length):=by
 unfold z08
 split
 ·exact ⟨by show A.fs.length<=_;omega,λ_=>rfl⟩
 split
 ·exact ⟨by show A.fs.length<=_;omega,λ_=>rfl⟩
 split
 ·exact ⟨by show A.fs.length<=_;omega,λ_=>rfl⟩
 ·show (z2e _).fs.length<=_/\(_->(z2e _).fs.length=_)
  rw [z3e]
  show (if z1y A.fs n=true then _ else _:List FileA).length<=_/\(_->(if z1y A.fs n=true then _ else _:List FileA).length=_)
  rw [<- z4c]
  split
  ·rw [List.length_map];exact ⟨by omega,λ_=>rfl⟩
  ·rename_i h
   rw [(z61 _ _).length_eq]
   exact ⟨by simp,λh2=>absurd h2 h⟩
structure Cpl (pre:ByteArray) (l:List SegA) (D:DiskA):Prop where
 ok:okA D
 segs:z0b 0 l
 has:zjw pre l D
 only:∀ n,(z02 D.fs n).isSome=true->(bl (z15 pre)).isPrefixOf (bl n)=true->∃ s ∈ l,n=zl pre s.base zu
def z5j (l:List SegA):Nat:=(l.map λs=>s.file.length).sum
theorem z77 (l:List SegA) (s:SegA):z5j (l++[s])=z5j l+s.file.length:=by simp [z5j]
theorem z73 {pre:ByteArray} {s t:SegA} (hs:SegOk s) (ht:SegOk t) (h:s.base≠t.base):zl pre s.base zu≠zl pre t.base zu:=λe=>by
 have h1:=hs.base
 have h2:=ht.base
 exact h (zw1 (by omega) (by omega) e).1
structure Fr (pre:ByteArray) (D D':DiskA):Prop where
 room:D'.room=D.room
 other:∀ m,(bl (z15 pre)).isPrefixOf (bl m)=false->z02 D'.fs m=z02 D.fs m
theorem Fr.refl (pre:ByteArray) (D:DiskA):Fr pre D D:=⟨rfl,λ_ _=>rfl⟩
theorem Fr.trans {pre:ByteArray} {D D' D'':DiskA} (h1:Fr pre D D') (h2:Fr pre D' D''):Fr pre D D'':=⟨h2.room.trans h1.room,λm hm=>(h2.other m hm).trans (h1.other m hm)⟩
theorem zm0 {D:DiskA} (hok:okA D) (n:ByteArray):okA (z1s D [n]).2/\(z1s D [n]).2.room=D.room/\used (z1s D [n]).2.fs=used D.fs/\(z1s D [n]).2.fs.length=D.fs.length /\
  ∀ m,z02 (z1s D [n]).2.fs m=z02 D.fs m\/(m=n/\(z1s D [n]).1=0/\z02 (z1s D [n]).2.fs m=(z02 D.fs m).map λp=>(p.1,p.1.length)):=by
 by_cases h:(z1s D [n]).1=0
 ·obtain ⟨-,h1,h2,h3,h4,h5⟩:=zr2 hok h
  refine ⟨h1,h2,h3,h4,λm=>?_⟩
  by_cases hm:n=m
  ·subst hm
   refine .inr ⟨rfl,h,?_⟩
   rw [h5]
   simp
  ·refine .inl ?_
   rw [h5]
   simp [hm]
 ·rcases zfc (A:=D) (n:=n) with ⟨h1,-,-,-⟩|⟨-,-,h4⟩|⟨-,-,-,h4⟩
  ·exact absurd h1 h
  ·rw [h4];exact ⟨hok,rfl,rfl,rfl,λm=>.inl rfl⟩
  ·rw [h4];exact ⟨hok,rfl,rfl,rfl,λm=>.inl rfl⟩
theorem Cpl.same {pre:ByteArray} {l:List SegA} {D D':DiskA} (h:Cpl pre l D) (hok:okA D') (hf:∀ m,(bl (z15 pre)).isPrefixOf (bl m)=true->(z02 D'.fs m).map Prod.fst=(z02 D.fs m).map Prod.fst):Cpl pre l D':=by
 refine ⟨hok,h.segs,λs hs=>?_,λn hn hp=>?_⟩
 ·obtain ⟨k,hk⟩:=h.has s hs
  have:=hf _ (z4h pre s.base zu)
  rw [hk] at this
  cases hq:z02 D'.fs (zl pre s.base zu) with
  | none=>rw [hq] at this;cases this
  | some q =>
   rw [hq] at this
   simp only [Option.map_some,Option.some.injEq] at this
   exact ⟨q.2,by rw [<- this]⟩
 ·refine h.only n ?_ hp
  have:=hf n hp
  cases hq:z02 D.fs n with
  | none =>
   rw [hq] at this
   cases hq2:z02 D'.fs n with
   | none=>rw [hq2] at hn;cases hn
   | some q=>rw [hq2] at this;cases this
  | some q=>rfl
theorem z8c {pre:ByteArray} {l:List SegA} {D:DiskA} (h:Cpl pre l D):Cpl pre l (z0j pre l D).2/\Fr pre D (z0j pre l D).2/\used (z0j pre l D).2.fs=used D.fs/\(z0j pre l D).2.fs.length=D.fs.length/\(Calm D->(z0j pre l D).1=0):=by
 unfold z0j
 cases hl:l.getLast? with
 | none=>exact ⟨h,.refl _ _,rfl,rfl,λ_=>rfl⟩
 | some s =>
  simp only
  obtain ⟨h1,h2,h3,h4,h5⟩:=zm0 h.ok (zl pre s.base zu)
  refine ⟨h.same h1 λm hm=>?_,⟨h2,λm hm=>?_⟩,h3,h4,λhc=>?_⟩
  ·rcases h5 m with h6|⟨-,-,h6⟩
   ·rw [h6]
   ·rw [h6,Option.map_map];rfl
  ·rcases h5 m with h6|⟨h6,-,-⟩
   ·exact h6
   ·rw [h6,z4h] at hm;cases hm
  ·rcases zfc (A:=D) (n:=zl pre s.base zu) with ⟨h6,-,-,-⟩|⟨-,h6,-⟩|⟨-,-,h6,-⟩
   ·exact h6
   ·rw [hc.gone] at h6;cases h6
   ·obtain ⟨k,hk⟩:=h.has s (List.mem_of_getLast? hl)
    rw [hk] at h6;cases h6
theorem Cpl.grow {pre:ByteArray} {l0:List SegA} {s s':SegA} {D:DiskA} {x:List UInt8} (hp:z3o pre=true) (h:Cpl pre (l0++[s]) D) (hsegs:z0b 0 (l0++[s'])) (hb:s'.base=s.base) (hx:s'.file=s.file++x) (ha:(z08 D (zl pre s.base zu) x).1=0) :
  Cpl pre (l0++[s']) (z08 D (zl pre s.base zu) x).2/\Fr pre D (z08 D (zl pre s.base zu) x).2/\used (z08 D (zl pre s.base zu) x).2.fs+z5j (l0++[s])=used D.fs+z5j (l0++[s'])/\(z08 D (zl pre s.base zu) x).2.fs.length=D.fs.length:=by
 obtain ⟨h1,h2,h3,h4,h5,h6,h7⟩:=z9s h.ok ha
 obtain ⟨k,hk⟩:=h.has s (by simp)
 obtain ⟨f1,f2,f3,f4⟩:=h.segs.front
 refine ⟨⟨h4,hsegs,λt ht=>?_,λn hn hpn=>?_⟩,⟨h5,λm hm=>?_⟩,?_,(z7c.2 (by rw [hk];rfl))⟩
 ·rcases List.mem_append.1 ht with ht|ht
  ·have hto:=(f1.mem t ht).1
   have hne:zl pre t.base zu≠zl pre s.base zu:=z73 hto f2 (by have:=(f4 t ht).2;omega)
   rw [h7,if_neg hne]
   exact h.has t (by simp [ht])
  ·simp only [List.mem_cons,List.not_mem_nil,or_false] at ht
   subst ht
   rw [hb,h7,if_pos rfl,hk,hx]
   exact ⟨k,rfl⟩
 ·rw [h7] at hn
  by_cases hm:n=zl pre s.base zu
  ·exact ⟨s',by simp,by rw [hb];exact hm⟩
  ·rw [if_neg hm] at hn
   obtain ⟨t,ht,rfl⟩:=h.only n hn hpn
   rcases List.mem_append.1 ht with ht|ht
   ·exact ⟨t,by simp [ht],rfl⟩
   ·simp only [List.mem_cons,List.not_mem_nil,or_false] at ht
    subst ht
    exact absurd rfl hm
 ·rw [h7,if_neg]
  rintro rfl
  rw [z4h] at hm;cases hm
 ·rw [h6,z77,z77,hx,List.length_append];omega
theorem Cpl.begin {pre:ByteArray} {l:List SegA} {s:SegA} {D:DiskA} (h:Cpl pre l D) (hsegs:z0b 0 (l++[s])) (ha:(z08 D (zl pre s.base zu) s.file).1=0) :
  Cpl pre (l++[s]) (z08 D (zl pre s.base zu) s.file).2/\Fr pre D (z08 D (zl pre s.base zu) s.file).2/\used (z08 D (zl pre s.base zu) s.file).2.fs+z5j l=used D.fs+z5j (l++[s])/\(z08 D (zl pre s.base zu) s.file).2.fs.length<=D.fs.length+1:=by
 obtain ⟨h1,h2,h3,h4,h5,h6,h7⟩:=z9s h.ok ha
 obtain ⟨f1,f2,f3,f4⟩:=hsegs.front
 have hnone:z02 D.fs (zl pre s.base zu)=none:=by
  cases hq:z02 D.fs (zl pre s.base zu) with
  | none=>rfl
  | some q =>
   obtain ⟨t,ht,e⟩:=h.only _ (by rw [hq];rfl) (z4h pre s.base zu)
   exact absurd e (z73 f2 (f1.mem t ht).1 (by have:=(f4 t ht).2;omega))
 refine ⟨⟨h4,hsegs,λt ht=>?_,λn hn hpn=>?_⟩,⟨h5,λm hm=>?_⟩,?_,z7c.1⟩
 ·rcases List.mem_append.1 ht with ht|ht
  ·have hto:=(f1.mem t ht).1
   have hne:zl pre t.base zu≠zl pre s.base zu:=z73 hto f2 (by have:=(f4 t ht).2;omega)
   rw [h7,if_neg hne]
   exact h.has t ht
  ·simp only [List.mem_cons,List.not_mem_nil,or_false] at ht
   subst ht
   rw [h7,if_pos rfl,hnone]
   exact ⟨0,rfl⟩
 ·rw [h7] at hn
  by_cases hm:n=zl pre s.base zu
  ·exact ⟨s,by simp,hm⟩
  ·rw [if_neg hm] at hn
   obtain ⟨t,ht,rfl⟩:=h.only n hn hpn
   exact ⟨t,by simp [ht],rfl⟩
 ·rw [h7,if_neg]
  rintro rfl
  rw [z4h] at hm;cases hm
 ·rw [h6,z77];omega
def Stp (pre:ByteArray) (l:List SegA) (D:DiskA) (l':List SegA) (D':DiskA):Prop :=
 Cpl pre l' D'/\Fr pre D D'/\used D'.fs+z5j l=used D.fs+z5j l'/\D'.fs.length+l.length<=D.fs.length+l'.length/\(Calm D->Calm D')
theorem Stp.same {pre:ByteArray} {l:List SegA} {D:DiskA} (h:Cpl pre l D):Stp pre l D l D:=⟨h,.refl _ _,rfl,Nat.le_refl _,id⟩
theorem Stp.trans {pre:ByteArray} {l l' l'':List SegA} {D D' D'':DiskA} (h1:Stp pre l D l' D') (h2:Stp pre l' D' l'' D''):Stp pre l D l'' D'' :=
 ⟨h2.1,h1.2.1.trans h2.2.1,by have:=h1.2.2.1;have:=h2.2.2.1;omega,by have:=h1.2.2.2.1;have:=h2.2.2.2.1;omega,λh=>h2.2.2.2.2 (h1.2.2.2.2 h)⟩
theorem zvw {pre:ByteArray} {l:List SegA} {D:DiskA} (h:Cpl pre l D):Stp pre l D l (z0j pre l D).2:=by
 obtain ⟨h1,h2,h3,h4,-⟩:=z8c h
 exact ⟨h1,h2,by omega,by omega,λhc=>zs9 hc _ _⟩
theorem zfb (n:Int) (bs:List BatM):(SegA.add ⟨n,0,[]⟩ bs).file=shL n 0++bs.flatMap frL:=by
 rw [z6u];simp [SegA.file]
theorem zeq {pre:ByteArray} (seg:Int) {l:List SegA} {D:DiskA} (bs:List BatM) (hp:z3o pre=true) (h:Cpl pre l D):Stp pre l D (z0w pre seg l D bs).2.1 (z0w pre seg l D bs).2.2:=by
 have hsegs:=za0 (seg:=seg) (bs:=bs) h.segs
 unfold z0w
 unfold z1f at hsegs
 split
 ·exact .same h
 rename_i hb
 rw [if_neg hb] at hsegs
 split
 ·exact .same h
 rename_i hpl
 rw [if_neg hpl] at hsegs
 simp only at hsegs
 split
 ·rename_i hr
  rw [if_pos hr] at hsegs
  have hne:l≠[]:=by rintro rfl;cases hr
  obtain ⟨l0,s,rfl⟩:=z3d hne
  rw [zfk]
  rw [z3s] at hsegs
  split
  ·rename_i he
   simp only
   rw [z8m he]
   exact .same h
  ·rename_i he
   have he:=Decidable.not_not.1 he
   simp only
   rw [z3s]
   obtain ⟨c1,c2,c3,c4⟩:=h.grow hp hsegs rfl (z6u _ _) he
   exact ⟨c1,c2,c3,by rw [List.length_append,List.length_append];simp;omega,λhc=>zk0 hc _ _⟩
 ·rename_i hr
  rw [if_neg hr] at hsegs
  have hst:=zvw h
  split
  ·exact hst
  split
  ·rename_i he
   simp only
   rw [z8m he]
   exact hst
  ·rename_i he
   have he:=Decidable.not_not.1 he
   simp only
   rw [<- zfb] at he ⊢
   obtain ⟨c1,c2,c3,c4⟩:=hst.1.begin (s:=SegA.add ⟨zt l,0,[]⟩ (zw (zt l) bs).2) hsegs he
   refine hst.trans ⟨c1,c2,c3,?_,λhc=>zk0 hc _ _⟩
   rw [List.length_append,List.length_singleton]
   have c4:(z08 (z0j pre l D).2 (zl pre (zt l) zu) _).2.fs.length<=_:=c4
   omega
theorem zd3:∀ {xs ys:List ByteArray},xs.Pairwise (λa b=>ltS a b=true)->ys.Pairwise (λa b=>ltS a b=true)->(∀ n,n ∈ xs↔n ∈ ys)->xs=ys
 | [],[],_,_,_=>rfl
 | [],y::ys,_,_,h=>absurd ((h y).2 (List.mem_cons_self ..)) (by simp)
 | x::xs,[],_,_,h=>absurd ((h x).1 (List.mem_cons_self ..)) (by simp)
 | x::xs,y::ys,hx,hy,h=>by
  rw [List.pairwise_cons] at hx hy
  have hxy:x=y:=by
   rcases List.mem_cons.1 ((h x).1 (List.mem_cons_self ..)) with h1|h1
   ·exact h1
   ·rcases List.mem_cons.1 ((h y).2 (List.mem_cons_self ..)) with h2|h2
    ·exact h2.symm
    ·have h3:=hy.1 x h1
     have h4:=hx.1 y h2
     rw [zvx h3] at h4
     cases h4
  subst hxy
  congr 1
  refine zd3 hx.2 hy.2 λn=>?_
  constructor
  ·intro hn
   rcases List.mem_cons.1 ((h n).1 (List.mem_cons_of_mem _ hn)) with h1|h1
   ·subst h1
    have:=hx.1 n hn
    rw [z8q] at this;cases this
   ·exact h1
  ·intro hn
   rcases List.mem_cons.1 ((h n).2 (List.mem_cons_of_mem _ hn)) with h1|h1
   ·subst h1
    have:=hy.1 n hn
    rw [z8q] at this;cases this
   ·exact h1
theorem zqp (p s:ByteArray):Go.Proofs.YtgpcickgjngglaaGreat.preF p s=(bl p).isPrefixOf (bl s):=by
 unfold Go.Proofs.YtgpcickgjngglaaGreat.preF
 rw [ByteArray.toList_eq,ByteArray.toList_eq]
theorem zip {D:DiskA} {pre n:ByteArray}:n ∈ z0y (z15 pre) D.fs↔(z02 D.fs n).isSome=true/\(bl (z15 pre)).isPrefixOf (bl n)=true:=by
 unfold z0y
 rw [List.mem_filter,<- z4c,z5x,zqp]
 constructor
 ·rintro ⟨h1,h2⟩
  obtain ⟨f,hf,rfl⟩:=List.mem_map.1 h1
  exact ⟨⟨f,hf,rfl⟩,h2⟩
 ·rintro ⟨⟨f,hf,rfl⟩,h2⟩
  exact ⟨List.mem_map.2 ⟨f,hf,rfl⟩,h2⟩
theorem zcu {D:DiskA} (hok:okA D) (p:ByteArray):(z0y p D.fs).Pairwise λa b=>ltS a b=true:=by
 unfold z0y
 exact ((List.pairwise_map.2 hok.sorted).filter _)
theorem zad (pre:ByteArray):∀ {n:Int} {l:List SegA},z0b n l->(l.map λs=>zl pre s.base zu).Pairwise λa b=>ltS a b=true
 | _,[],_=>List.Pairwise.nil
 | n,s::l,⟨h1,h2,h3⟩=>by
  rw [List.map_cons,List.pairwise_cons]
  refine ⟨λm hm=>?_,zad pre h3⟩
  obtain ⟨t,ht,rfl⟩:=List.mem_map.1 hm
  have h4:=h3.mem t ht
  have:=h2.base
  have:=h4.1.base
  exact (zvy pre (by omega) (by omega) zu).2 (by omega)
theorem Cpl.names {pre:ByteArray} {l:List SegA} {D:DiskA} (h:Cpl pre l D):z0y (z15 pre) D.fs=l.map λs=>zl pre s.base zu:=by
 refine zd3 (zcu h.ok _) (zad pre h.segs) λn=>?_
 rw [zip]
 constructor
 ·rintro ⟨h1,h2⟩
  obtain ⟨s,hs,rfl⟩:=h.only n h1 h2
  exact List.mem_map.2 ⟨s,hs,rfl⟩
 ·intro hn
  obtain ⟨s,hs,rfl⟩:=List.mem_map.1 hn
  obtain ⟨k,hk⟩:=h.has s hs
  exact ⟨by rw [hk];rfl,z4h pre s.base zu⟩
theorem zb8 (pre:ByteArray) (D:DiskA):∀ {l:List SegA},(∀ s ∈ l,SegOk s)->z0u pre (l.map λs=>zl pre s.base zu) D=(0,l.map SegA.base,D)
 | [],_=>rfl
 | s::l,h=>by
  have hb:=(h s (List.mem_cons_self ..)).base
  have h1:z1d pre (zl pre s.base zu) zu=some s.base.toNat:=zdr pre (by omega) zu
  have h2:z1d pre (zl pre s.base zu) z7s=none:=zhw h1 (by decide)
  rw [List.map_cons]
  unfold z0u
  rw [h2]
  rw [if_neg (by rintro ⟨h3,-⟩;cases h3)]
  simp only [Option.isSome_none,Bool.false_eq_true,if_false]
  rw [zb8 pre D λt ht=>h t (List.mem_cons_of_mem _ ht),h1]
  simp only [List.map_cons]
  have e:((s.base.toNat:Nat):Int)=s.base:=by omega
  rw [e]
  rfl
theorem zg6 {pre:ByteArray} {D:DiskA}:∀ {l l1:List SegA},z0b 0 (l1++l)->(∀ s ∈ l,∃ k,z02 D.fs (zl pre s.base zu)=some (s.file,k))->z1z pre (l.map SegA.base) l1 D=(0,l1++l,D)
 | [],l1,_,_=>by unfold z1z;simp
 | s::l,l1,hok,hh=>by
  rw [List.map_cons]
  unfold z1z
  have hok2:z0b 0 ((l1++[s])++l):=by rwa [List.append_assoc]
  have hs:SegOk s:=(hok.mem s (by simp)).1
  obtain ⟨k,hk⟩:=hh s (List.mem_cons_self ..)
  have hb:¬ s.base<zt l1:=by
   have:=hs.base
   by_cases h0:l1=[]
   ·subst h0;show ¬ s.base<0;omega
   ·obtain ⟨l0,t,rfl⟩:=z3d h0
    rw [z37]
    have h1:=hok.skip l0.length (l0.length+1) (by simp) (by omega)
    have e1:(l0++[t]++s::l)[l0.length]'(by simp)=t:=by simp
    have e2:(l0++[t]++s::l)[l0.length+1]'(by simp)=s:=by
     rw [List.getElem_append_right (by simp)];simp
    rw [e1,e2] at h1
    omega
  have hsc:z1o pre l1 D s.base=((true,0),l1++[s],D):=by
   unfold z1o
   rw [hk]
   simp only
   rw [zj2 hs]
   simp only
   rw [if_pos trivial]
  rw [if_neg hb,hsc,if_neg (by simp),if_pos rfl]
  simp only
  rw [zg6 hok2 λt ht=>hh t (List.mem_cons_of_mem _ ht),List.append_assoc]
  rfl
theorem Cpl.opened {pre:ByteArray} {l:List SegA} {D:DiskA} (h:Cpl pre l D):z4f pre D=(0,l,D):=by
 unfold z4f
 rw [h.names,zb8 pre D λs hs=>(h.segs.mem s hs).1]
 rw [if_neg (by simp)]
 simp only
 have:=zg6 (pre:=pre) (D:=D) (l:=l) (l1:=[]) h.segs h.has
 rw [this]
 rfl
theorem Cpl.frame {pre q:ByteArray} {l:List SegA} {D D':DiskA} (h:Cpl q l D) (hok:okA D') (hp:z3o pre=true) (hq:z3o q=true) (hne:pre≠q) (hf:Fr pre D D'):Cpl q l D' :=
 h.same hok λm hm=>by
  rw [hf.other m ?_]
  cases hx:(bl (z15 pre)).isPrefixOf (bl m) with
  | false=>rfl
  | true=>exact absurd (zxg hp hq hx hm) hne
theorem zv2 (pre:ByteArray) (n:Nat) (hn:n<=4194304):Cpl pre [] ⟨n,-1,false,[]⟩ :=
 ⟨⟨hn,by show (0:Nat)<=_;omega,by show (0:Nat)<=_;omega,by show -1<=(-1:Int)/\(-1:Int)<=_;omega,List.Pairwise.nil,(λf h=>by cases h),λf h=>by cases h⟩,trivial,(λs h=>by cases h),λn h=>by cases h⟩
end Go.Dec
