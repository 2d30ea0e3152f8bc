/- What the claim of this folder leans on: our own texts, joined, without what it does not use. -/
import Derived.Test.YtlmaipahgknahaaGreatRows
import Derived.WalkKit
import Derived.ProofKit
import Derived.OpenShut
import Derived.RowKit3
import Derived.OrdersHeld
import Derived.Scope
import Derived.KernelRfl
import Derived.Laws.Sem
import Derived.Laws.StructEq
import Derived.Deep.AppendSrc
import Derived.Laws.BytesArg
import Derived.Laws.RangeString
import Derived.Maps.RangeRun
import Derived.Lib.ConvBytes
import Derived.Lib.SlBytesConst
import Derived.ChangeSlices
import Derived.ChangeMaps5
import Derived.ChangeSame
import Derived.Deep.Slices
import Derived.Deep.Fields
import Derived.Test.YtlmaipahgknahaaGreatProg
import Derived.WideKeyRuns
import Derived.DeepKeys3
import Derived.Laws.MakeOwn
import Derived.Sort.MapsRangeIn
import Derived.Sort.KeysCollected
import Derived.RangeFuncNested
import Derived.RangeFuncBound
import Derived.RangeFuncCalls
import Derived.RangeFuncLeaves
import Derived.RangeFuncBox
import Derived.OwnWalkIn
import Derived.TacticsInMore
import Derived.RegionIn
import Derived.LoopNIn
import Derived.LoopIn
import Derived.Maps.AppendAt
import Derived.Shelf.Abstract
import Derived.Shelf.Sort.Plain
import Derived.Shelf.Slices.In.SortNone
import Derived.Test.YtlmaipahgknahaaGreatQNews1
import Derived.Test.YtlmaipahgknahaaGreatQNews2
import Derived.Test.YtlmaipahgknahaaGreatQNews3
import Derived.Test.YtlmaipahgknahaaGreatQNews4
import Derived.Test.YtlmaipahgknahaaGreatQNews5
import Derived.Test.YtlmaipahgknahaaGreatQNews6
set_option linter.unusedVariables false
set_option linter.unusedSimpArgs false
namespace Go.Dec
def zdu (x:Sl):List Value:=[x.v]
instance:Enc1 zdu .slc (λx=>x):=⟨λ_=>rfl⟩
instance:EncN zdu 1:=⟨λ_=>rfl,by decide,by simp [zdu,Value.oneCell']⟩
def z9d (l:List HP):List Sl->List (List UInt8)->Prop
 | [],[]=>True
 | x::xs,b::bs=>(∀ w,Sat w l->Rd w 1 x (b.flatMap zi))/\z9d l xs bs
 | _,_=>False
theorem z9d.length {l:List HP}:∀ {xs:List Sl} {bs:List (List UInt8)},z9d l xs bs->xs.length=bs.length
 | [],[],_=>rfl
 | _::_,_::_,h=>by rw [List.length_cons,List.length_cons,h.2.length]
theorem z9d.get {l:List HP}:∀ {xs:List Sl} {bs:List (List UInt8)} (h:z9d l xs bs) (i:Nat) (h1:i<xs.length) (h2:i<bs.length),∀ w,Sat w l->Rd w 1 xs[i] (bs[i].flatMap zi)
 | _::_,_::_,h,0,_,_=>h.1
 | _::_,_::_,h,i+1,h1,h2=>h.2.get i (by simpa using h1) (by simpa using h2)
theorem z38 {bs:List (List UInt8)} {i:Nat} (hi:i<bs.length):(bs.take (i+1)).flatten=(bs.take i).flatten++bs[i]:=by
 rw [List.take_add_one,List.getElem?_eq_getElem hi,List.flatten_append];simp
section
variable {w:World} {l r r0:List HP} {d:Nat} {A:DiskA}
theorem zfj (hok:okA A) {n:ByteArray} (hn:z4y n=true) {bs:List UInt8} (hb:bs.length<=A.free) (hm:¬ (z1v A.fs n=false/\A.fs.length>=128)) :
  okA { A with fs:=if z1v A.fs n then A.fs.map (z1k n λf=>{ f with b:=f.b++bs }) else z3t ⟨n,bs,0⟩ A.fs }:=by
 have hr:=hok.room
 have hu:=hok.used
 unfold DiskA.free at hb
 by_cases h:z1v A.fs n=true
 ·rw [if_pos h]
  obtain ⟨f,hf,rfl⟩:=z5n.1 h
  obtain ⟨s,u,hsu⟩:=List.append_of_mem hf
  have hpm:A.fs.Perm (f::(s++u)):=by rw [hsu];exact List.perm_middle
  have hnd:=(hpm.map (·.name)).nodup_iff.1 (z2i hok.sorted)
  rw [List.map_cons,List.nodup_cons] at hnd
  have hne:∀ g ∈ s++u,g.name≠f.name:=λg hg e=>hnd.1 (List.mem_map.2 ⟨g,hg,e⟩)
  have h1:=zba (g:=λf=>{ f with b:=f.b++bs }) hpm hne
  have h2:used A.fs=f.b.length+used (s++u):=by rw [z3g hpm,z1d]
  refine ⟨hok.room,?_,by show (A.fs.map _).length<=_;rw [List.length_map];exact hok.many,hok.left,z8h (z5w λ_=>rfl) hok.sorted,λg hg=>?_,λg hg=>?_⟩
  ·show used (A.fs.map _)<=_
   rw [h1]
   show (f.b++bs).length+_<=_
   rw [List.length_append];omega
  ·obtain ⟨g,hg',rfl⟩:=List.mem_map.1 hg
   have:=hok.kept g hg'
   unfold z1k
   split
   ·show g.kept<=(g.b++bs).length;rw [List.length_append];omega
   ·exact this
  ·obtain ⟨g,hg',rfl⟩:=List.mem_map.1 hg
   rw [z5w (by intro _;rfl)];exact hok.names g hg'
 ·have h:z1v A.fs n=false:=by simpa using h
  rw [if_neg (by rw [h];simp)]
  have hne:=z5o.1 h
  have hp:=z5r ⟨n,bs,0⟩ A.fs
  refine ⟨hok.room,?_,?_,hok.left,zdm _ hne hok.sorted,λg hg=>?_,λg hg=>?_⟩
  ·show used (z3t _ _)<=_
   rw [z3g hp,z1d];show bs.length+_<=_;omega
  ·show (z3t _ _).length<=_
   rw [hp.length_eq,List.length_cons]
   have:=hok.many
   have:A.fs.length≠128:=λe=>hm ⟨h,by omega⟩
   omega
  ·rcases ze9.1 hg with rfl|hg
   ·exact Nat.zero_le _
   ·exact hok.kept g hg
  ·rcases ze9.1 hg with rfl|hg
   ·exact zr1 hn
   ·exact hok.names g hg
theorem zk1 (x:FileA) (g:FileA->FileA) (hg:(g x).name=x.name):∀ {fs:List FileA},(∀ f ∈ fs,f.name≠x.name)->(z3t x fs).map (z1k x.name g)=z3t (g x) fs
 | [],_=>by simp [z3t,z1k]
 | f::r,h=>by
  have hf:z1k x.name g f=f:=by rw [z1k,if_neg (h f (List.mem_cons_self ..))]
  have hr:r.map (z1k x.name g)=r:=by
   conv=>rhs;rw [<- List.map_id r]
   exact List.map_congr_left λy hy=>by rw [z1k,if_neg (h y (List.mem_cons_of_mem _ hy))];rfl
  rw [z3t,z3t,hg]
  split
  ·rw [List.map_cons,List.map_cons,hf,hr,z1k,if_pos rfl]
  ·rw [List.map_cons,hf,zk1 x g hg λy hy=>h y (List.mem_cons_of_mem _ hy)]
theorem zjd (n:ByteArray) (ps:Sl) (xs:List Sl) (bs:List (List UInt8)) [hps:FocR r ps 1 (xs.flatMap zdu)] (hbs:z9d r xs bs) (hlen:bs.length<=1000) (hsum:∀ b ∈ bs,b.length<=100000000) [hf:Fo l dk d A r] (hs:Sat w l) :
  Ret P F.a18 #[.pointer (some ⟨d,0,none⟩),.string n,ps.v] w λvs w'=>vs=[.int .i64 (z09 A n bs.flatten).1]/\Sat w' (dk d (z09 A n bs.flatten).2::r) :=
 zs1 _ n ps <| by
  delta z04q AA AB AF AI AR AV Aa Ac Ah Ai Ak Al Am Ao Ap Aq Av Ax Ay B1 Bg Bn Bp Br Bv;unfold z09
  have hxl:=hbs.length
  have hok0:okA A:=by obtain ⟨m,FS,hp,hok,hs⟩:=z1w (hs.perm hf.perm);exact hok
  have hfr:A.free<=4194304:=by have:=hok0.room;unfold DiskA.free;omega
  refine zfh hs (λhg w' hs=>?_) λhg w' hs=>?_
  ·rw [if_pos hg];exact ⟨rfl,hs⟩
  rw [if_neg (by rw [hg];simp)]
  have hpl:=hs.slen ps (xs:=xs) (enc:=zdu)
  refine z8 (z03i n hs) λ_ _ hs=>?_
  obtain ⟨rfl,hs⟩:=hs
  refine zb ?_
  refine ze (λh=>?_) λh=>?_
  ·have h:z4y n=false:=by simpa using h
   rw [if_pos h];exact ⟨rfl,rfl,hs⟩
  have hn:z4y n=true:=by simpa using h
  rw [if_neg (by rw [hn];simp)]
  refine zf (λv w'=>bs.flatten.length<=A.free/\v=(((bs.flatten.length:Nat):Int),())/\Sat w' (dk d A::r)) ?_ ?_
  ·refine z02 (λk v w=>∃ i:Nat,v=((((bs.take i).flatten.length:Nat):Int),(i:Int),())/\i<=xs.length/\xs.length-i=k/\(bs.take i).flatten.length<=A.free/\Sat w (dk d A::r)) xs.length ⟨0,rfl,by omega,rfl,by simp,hs⟩ ?_
   clear hs
   rintro k _ w ⟨i,rfl,hi,hk,hsm,hs⟩
   refine zm ?_
   refine ze (λhc=>?_) λhc=>?_
   ·have hil:i<xs.length:=by omega
    have hib:i<bs.length:=by omega
    refine z1y hs i hil ?_
    have hrl:xs[i].len=bs[i].length:=(hbs.get i hil hib _ hs.tail).len (enc:=zi) (λ_=>rfl) (by decide)
    have hbi:=hsum _ (List.getElem_mem hib)
    refine z8 (z035 hs) λ_ _ hs=>?_
    obtain ⟨rfl,hs⟩:=hs
    refine zb ?_
    have ew:IntKind.wrap .i64 ((A.free:Int)-((bs.take i).flatten.length:Nat))=(A.free:Int)-((bs.take i).flatten.length:Nat):=zy5
    rw [ew]
    refine ze (λh3=>?_) λh3=>?_
    ·refine zh (zh ?_)
     rw [if_pos]
     ·exact ⟨rfl,rfl,hs⟩
     ·left
      have h4:(bs.take (i+1)).flatten.length<=bs.flatten.length:=by
       have:=congrArg (λl:List (List UInt8)=>l.flatten.length) (List.take_append_drop (i+1) bs)
       simp only [List.flatten_append,List.length_append] at this
       omega
      rw [z38 hib,List.length_append] at h4
      omega
    ·refine z1z (y:=(((bs.take (i+1)).flatten.length:Nat):Int)) ?_ ?_
     ·refine z3f (us':=[.int .i64 (((bs.take (i+1)).flatten.length:Nat):Int),.int .i64 ((i+1:Nat):Int)]) (by (try simp (disch:=omega) only [w64]);first|rfl|(congr;omega)) ?_
      refine z0z (xs.length-(i+1)) ?_
      refine ⟨i+1,rfl,by omega,rfl,?_,hs⟩
      rw [z38 hib,List.length_append];omega
     ·rw [z38 hib,List.length_append,w64 (by omega) (by omega)];omega
   ·refine zh (zg ?_)
    rw [List.take_of_length_le (by omega)] at hsm ⊢
    exact ⟨hsm,rfl,hs⟩
  clear hs
  rintro _ w ⟨hfit,rfl,hs⟩
  refine zm ?_
  obtain ⟨m,FS,hp,hok,hs⟩:=z1w hs
  have hou:=hok.used
  have hor:=hok.room
  have hfit':=hfit
  unfold DiskA.free at hfit'
  (repeat (first|with_reducible (first|refine zm ?_|refine zj ?_|refine z0c ?_|refine za hs ?_|refine zk hs ?_|refine zd ?_|refine zy hs λ_ hs=>?_|refine zt hs λ_ _ hs=>?_|refine zn hs λ_ _ hs=>?_|refine z07 hs λ_ hs=>?_|refine zu hs λ_ hs=>?_)|(apply wp_must;(focus first|trivial|omega|assumption))|refine z14 ?_|refine wp_lt ?_))
  have hnot:∀ (g:Bool),z1v A.fs n=g->¬ (g=false/\A.fs.length>=128)->(if bs.flatten.length>A.free\/(z1v A.fs n=false/\A.fs.length>=128) then ((5:Int),A) else
    (0,z27 { A with fs:=if z1v A.fs n then A.fs.map (z1k n λf=>{ f with b:=f.b++bs.flatten }) else z3t ⟨n,bs.flatten,0⟩ A.fs })) =
    (0,z27 { A with fs:=if z1v A.fs n then A.fs.map (z1k n λf=>{ f with b:=f.b++bs.flatten }) else z3t ⟨n,bs.flatten,0⟩ A.fs }):=λg hg h=>by
   rw [if_neg]
   rintro (h1|⟨h1,h2⟩)
   ·omega
   ·exact h ⟨by rw [<- hg,h1],h2⟩
  refine zvz hs (λb hb=>?_) λhb=>?_
  all_goals refine wp_lt ?_
  all_goals refine zf (λv w'=>∃ (t:FileM) (FS':List FileM) (fs1:List FileA),v=(some ⟨t.at_,0,none⟩,())/\t.f.name=n/\fs1.Perm (t.f::FS'.map FileM.f)/\(∀ g ∈ FS'.map FileM.f,g.name≠t.f.name)/\used fs1=used A.fs/\¬ (z1v A.fs n=false/\A.fs.length>=128) /\
    fs1.map (z1k n λf=>{ f with b:=f.b++bs.flatten })=(if z1v A.fs n then A.fs.map (z1k n λf=>{ f with b:=f.b++bs.flatten }) else z3t ⟨n,bs.flatten,0⟩ A.fs) /\
    Sat w' (pt t.at_ (.cells #[t.x.v,.int .i64 t.f.kept] T.a8)::slc T.a59 1 t.x (t.f.b.flatMap zi)::HP.all (FS'.map z39)::pt d (.cells #[.int .i64 A.left,.bool A.gone,.int .i64 A.room,.int .i64 (used A.fs),.map (some m)] T.a7)::z18 ekS evF m ((t::FS').map λt=>(t.f.name,t.at_))::r)) ?_ ?_
  ·obtain ⟨t,ht,rfl,rfl,hA⟩:=z8b hp hb
   have hhas:z1v A.fs t.f.name=true:=z5n.2 ⟨_,hA,rfl⟩
   refine zw ?_ (by simp)
   obtain ⟨FS',hpm,hs⟩:=z6o hs ht
   obtain ⟨h1,h2,-⟩:=apart hp hok hpm
   refine zg ?_
   refine ⟨t,FS',A.fs,rfl,rfl,h1,h2,rfl,by rw [hhas];simp,by rw [if_pos hhas],?_⟩
   have hs:=(hs.pick [4]).mapPerm (hpm.map λt=>(t.f.name,t.at_))
   exact hs.sub
  rotate_left
  ·have hno:=z70 hp hb
   have hhas:=z5o.2 hno
   refine z0q ?_ (by simp)
   (repeat (first|with_reducible (first|refine zm ?_|refine zj ?_|refine z0c ?_|refine za hs ?_|refine zk hs ?_|refine zd ?_|refine zy hs λ_ hs=>?_|refine zt hs λ_ _ hs=>?_|refine zn hs λ_ _ hs=>?_|refine z07 hs λ_ hs=>?_|refine zu hs λ_ hs=>?_)|(apply wp_must;(focus first|trivial|omega|assumption))|refine z14 ?_|refine wp_lt ?_))
   refine zd2 hs ?_
   have hml:(FS.map λt=>(t.f.name,t.at_)).length=A.fs.length:=by rw [List.length_map,<- hp.length_eq,List.length_map]
   rw [hml]
   refine ze (λh3=>?_) λh3=>?_
   ·refine zh ?_
    rw [if_pos (.inr ⟨hhas,by omega⟩)]
    exact ⟨rfl,rfl,z1u m hp hok hs⟩
   refine zn hs λa w' hs=>?_
   (repeat (first|with_reducible (first|refine zm ?_|refine zj ?_|refine z0c ?_|refine za hs ?_|refine zk hs ?_|refine zd ?_|refine zy hs λ_ hs=>?_|refine zt hs λ_ _ hs=>?_|refine zn hs λ_ _ hs=>?_|refine z07 hs λ_ hs=>?_|refine zu hs λ_ hs=>?_)|(apply wp_must;(focus first|trivial|omega|assumption))|refine z14 ?_|refine wp_lt ?_))
   refine zaj hs (FS.map λt=>(t.f.name,t.at_)) (.inr ⟨hb,rfl⟩) a λw' hs=>?_
   refine zg ?_
   refine ⟨⟨a,⟨none,0,0⟩,⟨n,[],0⟩⟩,FS,z3t ⟨n,[],0⟩ A.fs,rfl,rfl,(z5r _ _).trans (.cons _ hp.symm),λg hg=>hno g (hp.mem_iff.1 hg),?_,by omega,?_,?_⟩
   ·rw [z3g (z5r _ _),z1d];exact Nat.zero_add _
   ·rw [if_neg (by rw [hhas];simp)]
    exact zk1 ⟨n,[],0⟩ (λf=>{ f with b:=f.b++bs.flatten }) rfl hno
   ·exact (hs.slc_nil (T:=T.a59) (sz:=1)).pick [2,0,2,1,0]
  all_goals clear hs
  all_goals rintro _ w ⟨t,FS',fs1,rfl,htn,h1,h2,hus,hno,hfin,hs⟩
  all_goals refine zm ?_
  all_goals rw [hnot _ rfl hno,<- hfin]
  all_goals subst htn
  all_goals refine zf (λ_ w'=>∃ x1:Sl,Sat w' (pt t.at_ (.cells #[x1.v,.int .i64 t.f.kept] T.a8)::slc T.a59 1 x1 ((t.f.b++bs.flatten).flatMap zi)::HP.all (FS'.map z39)::pt d (.cells #[.int .i64 A.left,.bool A.gone,.int .i64 A.room,.int .i64 (used A.fs),.map (some m)] T.a7)::z18 ekS evF m ((t::FS').map λt=>(t.f.name,t.at_))::r)) ?_ ?_
  ·refine z02 (λk v w=>∃ (i:Nat) (x1:Sl),v=((i:Int),())/\i<=xs.length/\xs.length-i=k/\Sat w (pt t.at_ (.cells #[x1.v,.int .i64 t.f.kept] T.a8)::slc T.a59 1 x1 ((t.f.b++(bs.take i).flatten).flatMap zi)::HP.all (FS'.map z39)::pt d (.cells #[.int .i64 A.left,.bool A.gone,.int .i64 A.room,.int .i64 (used A.fs),.map (some m)] T.a7)::z18 ekS evF m ((t::FS').map λt=>(t.f.name,t.at_))::r)) xs.length ⟨0,t.x,rfl,by omega,rfl,by simpa using hs⟩ ?_
   clear hs
   rintro k _ w ⟨i,x1,rfl,hi,hk,hs⟩
   refine zm ?_
   refine ze (λhc=>?_) λhc=>?_
   ·have hil:i<xs.length:=by omega
    have hib:i<bs.length:=by omega
    refine z1y hs i hil ?_
    have hrd:FocR r xs[i] 1 (bs[i].flatMap zi):=⟨hbs.get i hil hib⟩
    have hbi:=hsum _ (List.getElem_mem hib)
    have hsm:(bs.take i).flatten.length<=bs.flatten.length:=by
     have:=congrArg (λl:List (List UInt8)=>l.flatten.length) (List.take_append_drop i bs)
     simp only [List.flatten_append,List.length_append] at this
     omega
    have htb:t.f.b.length<=used fs1:=z7k (h1.mem_iff.2 (List.mem_cons_self ..))
    (repeat (first|with_reducible (first|refine zm ?_|refine zj ?_|refine z0c ?_|refine za hs ?_|refine zk hs ?_|refine zd ?_|refine zy hs λ_ hs=>?_|refine zt hs λ_ _ hs=>?_|refine zn hs λ_ _ hs=>?_|refine z07 hs λ_ hs=>?_|refine zu hs λ_ hs=>?_)|(apply wp_must;(focus first|trivial|omega|assumption))|refine z14 ?_|refine wp_lt ?_))
    refine wp_app' hs (xs:=t.f.b++(bs.take i).flatten) (ys:=bs[i]) (enc:=zi) (λz w' hs=>?_) (by rw [List.length_append];omega)
    (repeat (first|with_reducible (first|refine zm ?_|refine zj ?_|refine z0c ?_|refine za hs ?_|refine zk hs ?_|refine zd ?_|refine zy hs λ_ hs=>?_|refine zt hs λ_ _ hs=>?_|refine zn hs λ_ _ hs=>?_|refine z07 hs λ_ hs=>?_|refine zu hs λ_ hs=>?_)|(apply wp_must;(focus first|trivial|omega|assumption))|refine z14 ?_|refine wp_lt ?_))
    refine z3f (us':=[.int .i64 ((i+1:Nat):Int)]) (by (try simp (disch:=omega) only [w64]);first|rfl|(congr;omega)) ?_
    refine z0z (xs.length-(i+1)) ?_
    refine ⟨i+1,z,rfl,by omega,rfl,?_⟩
    rw [z38 hib,<- List.append_assoc]
    exact hs.sub
   ·refine zh (zg ⟨x1,?_⟩)
    rwa [List.take_of_length_le (l:=bs) (by omega)] at hs
  rotate_left
  ·refine z02 (λk v w=>∃ (i:Nat) (x1:Sl),v=((i:Int),())/\i<=xs.length/\xs.length-i=k/\Sat w (pt t.at_ (.cells #[x1.v,.int .i64 t.f.kept] T.a8)::slc T.a59 1 x1 ((t.f.b++(bs.take i).flatten).flatMap zi)::HP.all (FS'.map z39)::pt d (.cells #[.int .i64 A.left,.bool A.gone,.int .i64 A.room,.int .i64 (used A.fs),.map (some m)] T.a7)::z18 ekS evF m ((t::FS').map λt=>(t.f.name,t.at_))::r)) xs.length ⟨0,t.x,rfl,by omega,rfl,by simpa using hs⟩ ?_
   clear hs
   rintro k _ w ⟨i,x1,rfl,hi,hk,hs⟩
   refine zm ?_
   refine ze (λhc=>?_) λhc=>?_
   ·have hil:i<xs.length:=by omega
    have hib:i<bs.length:=by omega
    refine z1y hs i hil ?_
    have hrd:FocR r xs[i] 1 (bs[i].flatMap zi):=⟨hbs.get i hil hib⟩
    have hbi:=hsum _ (List.getElem_mem hib)
    have hsm:(bs.take i).flatten.length<=bs.flatten.length:=by
     have:=congrArg (λl:List (List UInt8)=>l.flatten.length) (List.take_append_drop i bs)
     simp only [List.flatten_append,List.length_append] at this
     omega
    have htb:t.f.b.length<=used fs1:=z7k (h1.mem_iff.2 (List.mem_cons_self ..))
    (repeat (first|with_reducible (first|refine zm ?_|refine zj ?_|refine z0c ?_|refine za hs ?_|refine zk hs ?_|refine zd ?_|refine zy hs λ_ hs=>?_|refine zt hs λ_ _ hs=>?_|refine zn hs λ_ _ hs=>?_|refine z07 hs λ_ hs=>?_|refine zu hs λ_ hs=>?_)|(apply wp_must;(focus first|trivial|omega|assumption))|refine z14 ?_|refine wp_lt ?_))
    refine wp_app' hs (xs:=t.f.b++(bs.take i).flatten) (ys:=bs[i]) (enc:=zi) (λz w' hs=>?_) (by rw [List.length_append];omega)
    (repeat (first|with_reducible (first|refine zm ?_|refine zj ?_|refine z0c ?_|refine za hs ?_|refine zk hs ?_|refine zd ?_|refine zy hs λ_ hs=>?_|refine zt hs λ_ _ hs=>?_|refine zn hs λ_ _ hs=>?_|refine z07 hs λ_ hs=>?_|refine zu hs λ_ hs=>?_)|(apply wp_must;(focus first|trivial|omega|assumption))|refine z14 ?_|refine wp_lt ?_))
    refine z3f (us':=[.int .i64 ((i+1:Nat):Int)]) (by (try simp (disch:=omega) only [w64]);first|rfl|(congr;omega)) ?_
    refine z0z (xs.length-(i+1)) ?_
    refine ⟨i+1,z,rfl,by omega,rfl,?_⟩
    rw [z38 hib,<- List.append_assoc]
    exact hs.sub
   ·refine zh (zg ⟨x1,?_⟩)
    rwa [List.take_of_length_le (l:=bs) (by omega)] at hs
  all_goals clear hs
  all_goals rintro _ w ⟨x1,hs⟩
  all_goals refine zm ?_
  all_goals have hu3:=zba (g:=λf=>{ f with b:=f.b++bs.flatten }) h1 h2
  all_goals have hu4:used fs1=t.f.b.length+used (FS'.map FileM.f):=by rw [z3g h1,z1d]
  all_goals have hu5:used (fs1.map (z1k t.f.name λf=>{ f with b:=f.b++bs.flatten }))=used A.fs+bs.flatten.length:=by (rw [hu3];show (t.f.b++bs.flatten).length+_=_;rw [List.length_append];omega)
  all_goals have ew:IntKind.wrap .i64 (((used A.fs:Nat):Int)+((bs.flatten.length:Nat):Int))=((used (fs1.map (z1k t.f.name λf=>{ f with b:=f.b++bs.flatten })):Nat):Int):=by rw [hu5,w64 (by omega) (by omega)];omega
  all_goals refine zj ?_
  all_goals refine za hs ?_
  all_goals rw [ew]
  all_goals (repeat (first|with_reducible (first|refine zm ?_|refine zj ?_|refine z0c ?_|refine za hs ?_|refine zk hs ?_|refine zd ?_|refine zy hs λ_ hs=>?_|refine zt hs λ_ _ hs=>?_|refine zn hs λ_ _ hs=>?_|refine z07 hs λ_ hs=>?_|refine zu hs λ_ hs=>?_)|(apply wp_must;(focus first|trivial|omega|assumption))|refine z14 ?_|refine wp_lt ?_))
  all_goals have hs:=z60 (FS:=FS') ⟨t.at_,x1,{ t.f with b:=t.f.b++bs.flatten }⟩ hs
  all_goals have hp':(((⟨t.at_,x1,{ t.f with b:=t.f.b++bs.flatten }⟩:FileM)::FS').map FileM.f).Perm (fs1.map (z1k t.f.name λf=>{ f with b:=f.b++bs.flatten })):=(z6e (g:=λf=>{ f with b:=f.b++bs.flatten }) h1 h2).symm
  all_goals have hok':=zfj hok hn hfit hno
  all_goals rw [<- hfin] at hok'
  all_goals have hs:Sat _ (z18 ekS evF m (((⟨t.at_,x1,{ t.f with b:=t.f.b++bs.flatten }⟩:FileM)::FS').map λt=>(t.f.name,t.at_))::_):=hs.pick [2]
  all_goals rw [hg] at hs
  all_goals refine z8 (zb7 (l':=r) hg hok' hp' hs) λ_ _ hs=>?_
  all_goals obtain ⟨rfl,hs⟩:=hs
  all_goals refine zb ?_
  all_goals exact ⟨rfl,rfl,hs⟩
end
theorem zb9 {fs:List FileA} {g:FileA->FileA} (hb:∀ f,(g f).b=f.b):used (fs.map g)=used fs:=by
 unfold used
 rw [List.map_map]
 congr 1
 exact List.map_congr_left λf _=>by show (g f).b.length=_;rw [hb]
theorem zp6 {A:DiskA} (hok:okA A) {g:FileA->FileA} (hn:∀ f,(g f).name=f.name) (hb:∀ f,(g f).b=f.b) (hk:∀ f,f.kept<=f.b.length->(g f).kept<=f.b.length):okA { A with fs:=A.fs.map g }:=by
 refine ⟨hok.room,by show used (A.fs.map g)<=_;rw [zb9 hb];exact hok.used,by show (A.fs.map g).length<=_;rw [List.length_map];exact hok.many,hok.left,z8h hn hok.sorted,λf hf=>?_,λf hf=>?_⟩
 ·obtain ⟨f,hf',rfl⟩:=List.mem_map.1 hf
  rw [hb];exact hk f (hok.kept f hf')
 ·obtain ⟨f,hf',rfl⟩:=List.mem_map.1 hf
  rw [hn];exact hok.names f hf'
def z83 (f:FileA):FileA:={ f with kept:=f.b.length }
def z2l (ns:List ByteArray) (f:FileA):FileA:=if ns.any (λm=>decide (m=f.name)) then z83 f else f
theorem zaz (ns:List ByteArray) (f:FileA):(z2l ns f).name=f.name:=by unfold z2l;split <;> rfl
theorem zgj (ns:List ByteArray) (f:FileA):(z2l ns f).b=f.b:=by unfold z2l;split <;> rfl
theorem zqx (ns:List ByteArray) (f:FileA) (h:f.kept<=f.b.length):(z2l ns f).kept<=f.b.length:=by
 unfold z2l;split
 ·exact Nat.le_refl _
 ·exact h
theorem zuw:z2l []=id:=by funext f;simp [z2l]
theorem zqy (ns:List ByteArray) (n:ByteArray) (f:FileA):z1k n z83 (z2l ns f)=z2l (ns++[n]) f:=by
 unfold z1k
 rw [zaz]
 unfold z2l
 rw [List.any_append]
 by_cases h1:f.name=n
 ·rw [if_pos h1]
  have:(ns.any (λm=>decide (m=f.name)) || [n].any (λm=>decide (m=f.name)))=true:=by simp [h1]
  rw [if_pos this]
  split <;> rfl
 ·rw [if_neg h1]
  have:(ns.any (λm=>decide (m=f.name)) || [n].any (λm=>decide (m=f.name)))=ns.any (λm=>decide (m=f.name)):=by simp [Ne.symm h1]
  rw [this]
theorem zxg (s:ByteArray):Go.Proofs.YtlmaipahgknahaaGreat.preF (ByteArray.mk #[]) s=true:=by
 unfold Go.Proofs.YtlmaipahgknahaaGreat.preF
 rw [show (ByteArray.mk #[]).toList=[] from by rw [ByteArray.toList_eq]]
 rfl
theorem zb1 (fs:List FileA):z0w (ByteArray.mk #[]) fs=fs.map (·.name):=List.filter_eq_self.2 λs _=>zxg s
theorem zww (fs:List FileA):fs.map (z2l (fs.map (·.name)))=fs.map (z3o []):=by
 refine List.map_congr_left λf hf=>?_
 unfold z2l z3o
 rw [if_pos (show ((fs.map (·.name)).any λm=>decide (m=f.name))=true by simp;exact ⟨f,hf,rfl⟩),if_pos (show zal [] f.name=true from rfl)]
 rfl
theorem zux {ns:List ByteArray} (h:ns≠[]) (fs:List FileA):fs.map (z2l ns)=fs.map (z3o ns):=by
 refine List.map_congr_left λf hf=>?_
 have e:zal ns f.name=ns.any (λm=>decide (m=f.name)):=by
  unfold zal
  cases ns with
  | nil=>exact absurd rfl h
  | cons _ _=>rfl
 unfold z2l z3o
 rw [e];rfl
theorem zwl {fs:List FileA} {g:FileA->FileA} (hn:∀ f,(g f).name=f.name) (n:ByteArray):z1v (fs.map g) n=z1v fs n:=by
 unfold z1v
 rw [List.any_map]
 congr 1
 funext f
 show decide ((g f).name=n)=_
 rw [hn]
section
variable {w:World} {l r r0:List HP} {d:Nat} {A:DiskA}
theorem z044 (nx:Sl) (ns:List ByteArray) [hns:FocR r nx 1 (ns.flatMap z22)] (hlen:ns.length<=100000) [hf:Fo l dk d A r] (hs:Sat w l) :
  Ret P F.a27 #[.pointer (some ⟨d,0,none⟩),nx.v] w λvs w'=>vs=[.int .i64 (z1n A ns).1]/\Sat w' (dk d (z1n A ns).2::r) :=
 zs9 _ nx <| by
  delta z04y AA AB AF AI AQ AT AU AV Aa Ac Ah Ai Am Ao Ax Ay Az B1 B2 Bn Bp;unfold z1n
  refine zfh hs (λhg w' hs=>?_) λhg w' hs=>?_
  ·rw [if_pos hg];exact ⟨rfl,hs⟩
  rw [if_neg (by rw [hg];simp)]
  have hpl:=hs.slen nx (xs:=ns) (enc:=z22)
  have hok0:okA A:=by obtain ⟨m,FS,hp,hok,hs⟩:=z1w hs;exact hok
  refine zf (λv w'=>ns.all (z1v A.fs)=true/\Sat w' (dk d A::r)) ?_ ?_
  ·refine z02 (λk v w=>∃ i:Nat,v=((i:Int),())/\i<=ns.length/\ns.length-i=k/\(ns.take i).all (z1v A.fs)=true/\Sat w (dk d A::r)) ns.length ⟨0,rfl,by omega,rfl,rfl,hs⟩ ?_
   clear hs
   rintro k _ w ⟨i,rfl,hi,hk,hall,hs⟩
   refine zm ?_
   refine ze (λhc=>?_) λhc=>?_
   ·have hil:i<ns.length:=by omega
    refine z1y hs i hil ?_
    have htk:(ns.take (i+1)).all (z1v A.fs)=z1v A.fs ns[i]:=by
     rw [List.take_add_one,List.getElem?_eq_getElem hil,List.all_append,hall];simp
    obtain ⟨m,FS,hp,hok,hs⟩:=z1w hs
    (repeat (first|with_reducible (first|refine zm ?_|refine zj ?_|refine z0c ?_|refine za hs ?_|refine zk hs ?_|refine zd ?_|refine zy hs λ_ hs=>?_|refine zt hs λ_ _ hs=>?_|refine zn hs λ_ _ hs=>?_|refine z07 hs λ_ hs=>?_|refine zu hs λ_ hs=>?_)|(apply wp_must;(focus first|trivial|omega|assumption))|refine z14 ?_|refine wp_lt ?_))
    refine z6w hs (λb hb=>?_) λhb=>?_
    ·obtain ⟨t,ht,rfl,hnm,hA⟩:=z8b hp hb
     refine zw ?_ (by simp)
     refine z3f (us':=[.int .i64 ((i+1:Nat):Int)]) (by (try simp (disch:=omega) only [w64]);first|rfl|(congr;omega)) ?_
     refine z0z (ns.length-(i+1)) ?_
     exact ⟨i+1,rfl,by omega,rfl,by rw [htk];exact z5n.2 ⟨_,hA,hnm⟩,z1u m hp hok hs⟩
    ·refine z0q ?_ (by rfl)
     refine zh (zh ?_)
     have:ns.all (z1v A.fs)=false:=by
      rw [<- List.take_append_drop (i+1) ns,List.all_append,htk,z5o.2 (z70 hp hb)];rfl
     rw [if_pos this]
     exact ⟨rfl,rfl,z1u m hp hok hs⟩
   ·refine zh (zg ⟨?_,hs⟩)
    rwa [List.take_of_length_le (by omega)] at hall
  clear hs
  rintro _ w ⟨hall,hs⟩
  refine zm ?_
  rw [if_neg (by rw [hall];simp)]
  refine zf (λv w'=>∃ (nx1:Sl) (ns1:List ByteArray) (r1:List HP),v=(nx1,())/\ns1.length<=100000/\ns1.all (z1v A.fs)=true/\A.fs.map (z2l ns1)=A.fs.map (z3o ns)/\(∃ h:FocR (slc T.a51 1 nx1 (ns1.flatMap z22)::r) nx1 1 (ns1.flatMap z22),True) /\
    (Sat w' (dk d A::r1))/\(r1=r/\(∃ _h:FocR r nx1 1 (ns1.flatMap z22),True)\/r1=slc T.a51 1 nx1 (ns1.flatMap z22)::r)) ?_ ?_
  ·refine ze (λh=>?_) λh=>?_
   ·have hnil:ns=[]:=List.length_eq_zero_iff.1 (by omega)
    subst hnil
    refine z8 (zp3 (ByteArray.mk #[]) hs) λ_ _ hs=>?_
    obtain ⟨x,rfl,hs⟩:=hs
    refine zb ?_
    refine zg ?_
    refine ⟨x,z0w (ByteArray.mk #[]) A.fs,_,rfl,?_,?_,?_,⟨inferInstance,trivial⟩,(hs.pick [1]),.inr rfl⟩
    ·rw [zb1,List.length_map];have:=hok0.many;omega
    ·rw [zb1,List.all_map,List.all_eq_true]
     exact λf hf=>z5n.2 ⟨f,hf,rfl⟩
    ·rw [zb1];exact zww A.fs
   ·refine zg ?_
    refine ⟨nx,ns,r,rfl,hlen,hall,zux (λe=>by subst e;simp at hpl;omega) A.fs,⟨inferInstance,trivial⟩,hs,.inl ⟨rfl,hns,trivial⟩⟩
  clear hs
  rintro _ w ⟨nx1,ns1,r1,rfl,hlen1,hall1,hmark,-,hs,hr1⟩
  refine zm ?_
  have hR1:FocR r1 nx1 1 (ns1.flatMap z22):=by
   rcases hr1 with ⟨rfl,h,-⟩|rfl
   ·exact h
   ·infer_instance
  have hsub:∀ {H:HP} {w:World},Sat w (H::r1)->Sat w (H::r):=λ{H w} h=>by
   rcases hr1 with ⟨rfl,-⟩|rfl
   ·exact h
   ·exact h.sub
  have hpl1:=hs.slen nx1 (xs:=ns1) (enc:=z22)
  refine zf (λv w'=>Sat w' (dk d { A with fs:=A.fs.map (z2l ns1) }::r1)) ?_ ?_
  ·refine z02 (λk v w=>∃ i:Nat,v=((i:Int),())/\i<=ns1.length/\ns1.length-i=k/\Sat w (dk d { A with fs:=A.fs.map (z2l (ns1.take i)) }::r1)) ns1.length ⟨0,rfl,by omega,rfl,by rw [List.take_zero,zuw,List.map_id];exact hs⟩ ?_
   clear hs
   rintro k _ w ⟨i,rfl,hi,hk,hs⟩
   refine zm ?_
   refine ze (λhc=>?_) λhc=>?_
   ·have hil:i<ns1.length:=by omega
    refine z1y hs i hil ?_
    obtain ⟨m,FS,hp,hok,hs⟩:=z1w hs
    (repeat (first|with_reducible (first|refine zm ?_|refine zj ?_|refine z0c ?_|refine za hs ?_|refine zk hs ?_|refine zd ?_|refine zy hs λ_ hs=>?_|refine zt hs λ_ _ hs=>?_|refine zn hs λ_ _ hs=>?_|refine z07 hs λ_ hs=>?_|refine zu hs λ_ hs=>?_)|(apply wp_must;(focus first|trivial|omega|assumption))|refine z14 ?_|refine wp_lt ?_))
    refine z6w hs (λb hb=>?_) λhb=>?_
    ·obtain ⟨t,ht,rfl,hnm,hA⟩:=z8b hp hb
     obtain ⟨FS',hpm,hs⟩:=z6o hs ht
     obtain ⟨h1,h2,-⟩:=apart hp hok hpm
     (repeat (first|with_reducible (first|refine zm ?_|refine zj ?_|refine z0c ?_|refine za hs ?_|refine zk hs ?_|refine zd ?_|refine zy hs λ_ hs=>?_|refine zt hs λ_ _ hs=>?_|refine zn hs λ_ _ hs=>?_|refine z07 hs λ_ hs=>?_|refine zu hs λ_ hs=>?_)|(apply wp_must;(focus first|trivial|omega|assumption))|refine z14 ?_|refine wp_lt ?_))
     rw [hs.slen t.x (xs:=t.f.b) (enc:=zi)] at hs
     have hs:=z60 (FS:=FS') ⟨t.at_,t.x,z83 t.f⟩ hs
     have hs:Sat _ (z18 ekS evF m (((⟨t.at_,t.x,z83 t.f⟩:FileM)::FS').map λt=>(t.f.name,t.at_))::_):=(hs.pick [2]).mapPerm (hpm.map λt=>(t.f.name,t.at_))
     have hstep:(A.fs.map (z2l (ns1.take i))).map (z1k t.f.name z83)=A.fs.map (z2l (ns1.take (i+1))):=by
      rw [List.map_map,List.take_add_one,List.getElem?_eq_getElem hil]
      refine List.map_congr_left λf _=>?_
      show z1k t.f.name z83 (z2l _ f)=_
      rw [zqy,hnm];rfl
     have hp':(((⟨t.at_,t.x,z83 t.f⟩:FileM)::FS').map FileM.f).Perm (A.fs.map (z2l (ns1.take (i+1)))):=by
      rw [<- hstep]
      exact (z6e (g:=z83) h1 h2).symm
     refine z3f (us':=[.int .i64 ((i+1:Nat):Int)]) (by (try simp (disch:=omega) only [w64]);first|rfl|(congr;omega)) ?_
     refine z0z (ns1.length-(i+1)) ?_
     refine ⟨i+1,rfl,by omega,rfl,?_⟩
     exact z1u m (A:={ A with fs:=A.fs.map (z2l (ns1.take (i+1))) }) hp' (zp6 hok0 (zaz _) (zgj _) (zqx _)) hs (by rw [zb9 (zgj _),zb9 (zgj _)])
    ·exfalso
     have h3:=z5o.2 (z70 hp hb)
     have h4:z1v A.fs ns1[i]=true:=List.all_eq_true.1 hall1 _ (List.getElem_mem hil)
     rw [zwl (zaz _),h4] at h3
     cases h3
   ·refine zh (zg ?_)
    rwa [List.take_of_length_le (by omega)] at hs
  clear hs
  rintro _ w hs
  refine zm ?_
  rw [hmark] at hs
  obtain ⟨m,FS,hp,hok,hs⟩:=z1w (hsub hs)
  have hs:Sat w (pt d (.cells #[.int .i64 A.left,.bool A.gone,.int .i64 A.room,.int .i64 (used (A.fs.map (z3o ns))),.map (some m)] T.a7)::_):=hs
  (repeat (first|with_reducible (first|refine zm ?_|refine zj ?_|refine z0c ?_|refine za hs ?_|refine zk hs ?_|refine zd ?_|refine zy hs λ_ hs=>?_|refine zt hs λ_ _ hs=>?_|refine zn hs λ_ _ hs=>?_|refine z07 hs λ_ hs=>?_|refine zu hs λ_ hs=>?_)|(apply wp_must;(focus first|trivial|omega|assumption))|refine z14 ?_|refine wp_lt ?_))
  rw [hg] at hs
  refine z8 (zb7 (l':=r) (A:=A) hg hok hp hs) λ_ _ hs=>?_
  obtain ⟨rfl,hs⟩:=hs
  refine zb ?_
  exact ⟨rfl,rfl,hs⟩
end
theorem zel {a b:List FileA} (h:a.Sublist b):used a<=used b:=by
 induction h with
 | slnil=>exact Nat.le_refl _
 | cons x _ ih=>rw [z1d];omega
 | cons_cons x _ ih=>rw [z1d,z1d];omega
theorem z01r {A:DiskA} (hok:okA A) {fs:List FileA} (h:fs.Sublist A.fs):okA { A with fs:=fs } :=
 ⟨hok.room,Nat.le_trans (zel h) hok.used,Nat.le_trans h.length_le hok.many,hok.left,hok.sorted.sublist h,λf hf=>hok.kept f (h.mem hf),λf hf=>hok.names f (h.mem hf)⟩
def z04 (fs:List FileA) (n:ByteArray):Option (List UInt8 × Nat):=(fs.find? λf=>decide (f.name=n)).map λf=>(f.b,f.kept)
theorem zhj (n:ByteArray):z04 [] n=none:=rfl
theorem z28 (f:FileA) (fs:List FileA) (n:ByteArray):z04 (f::fs) n=if f.name=n then some (f.b,f.kept) else z04 fs n:=by
 unfold z04
 rw [List.find?_cons]
 by_cases h:f.name=n
 ·simp [h]
 ·simp [h]
theorem zar {fs:List FileA} {n:ByteArray}:z04 fs n=none↔∀ f ∈ fs,f.name≠n:=by
 unfold z04
 rw [Option.map_eq_none_iff,List.find?_eq_none]
 simp
theorem zbw {fs:List FileA} {f:FileA} (hn:(fs.map (·.name)).Nodup) (h:f ∈ fs):z04 fs f.name=some (f.b,f.kept):=by
 unfold z04
 rw [z9i hn h rfl]
 rfl
theorem zqi {fs:List FileA} {n:ByteArray} {p:List UInt8 × Nat} (h:z04 fs n=some p):(⟨n,p.1,p.2⟩:FileA) ∈ fs:=by
 unfold z04 at h
 rw [Option.map_eq_some_iff] at h
 obtain ⟨f,hf,rfl⟩:=h
 have h1:=List.mem_of_find?_eq_some hf
 have h2:=List.find?_some hf
 have h2:f.name=n:=by simpa using h2
 subst h2
 exact h1
theorem z42 {fs:List FileA} {n:ByteArray}:z1v fs n=(z04 fs n).isSome:=by
 unfold z1v z04
 rw [Option.isSome_map,Bool.eq_iff_iff,List.any_eq_true,List.find?_isSome]
theorem zqt {fs:List FileA} {n:ByteArray} {p:List UInt8 × Nat} (h:z04 fs n=some p):zk3 fs n=p.1.length:=by
 unfold z04 at h
 unfold zk3
 cases hf:fs.find? λf=>decide (f.name=n) with
 | none=>rw [hf] at h;cases h
 | some f=>rw [hf] at h;simp only [Option.map_some,Option.some.injEq] at h;subst h;rfl
theorem zbx (n:ByteArray) (g:FileA->FileA) (hg:∀ f,(g f).name=f.name) (m:ByteArray):∀ fs:List FileA,
  z04 (fs.map (z1k n g)) m=if m=n then (z04 fs n).map λp=>((g ⟨n,p.1,p.2⟩).b,(g ⟨n,p.1,p.2⟩).kept) else z04 fs m
 | []=>by simp [zhj]
 | f::fs=>by
  rw [List.map_cons,z28,zbx n g hg m fs,z28,z28,z5w hg]
  by_cases h1:m=n
  ·subst h1
   rw [if_pos rfl,if_pos rfl]
   by_cases h2:f.name=m
   ·rw [if_pos h2,if_pos h2]
    subst h2
    unfold z1k
    rw [if_pos rfl]
    rfl
   ·rw [if_neg h2,if_neg h2]
  ·rw [if_neg h1,if_neg h1]
   by_cases h2:f.name=m
   ·rw [if_pos h2,if_pos h2]
    unfold z1k
    rw [if_neg (by rw [h2];exact h1)]
   ·rw [if_neg h2,if_neg h2]
theorem zhi (x:FileA) (m:ByteArray):∀ {fs:List FileA},(∀ f ∈ fs,f.name≠x.name)->z04 (z3t x fs) m=if m=x.name then some (x.b,x.kept) else z04 fs m
 | [],_=>by
  show z04 [x] m=_
  rw [z28]
  by_cases h:m=x.name
  ·rw [if_pos h.symm,if_pos h]
  ·rw [if_neg h,if_neg λe=>h e.symm]
 | f::fs,h=>by
  have hf:=h f (List.mem_cons_self ..)
  have ih:=zhi x m (fs:=fs) λg hg=>h g (List.mem_cons_of_mem _ hg)
  unfold z3t
  split
  ·rw [z28]
   by_cases h:m=x.name
   ·rw [if_pos h.symm,if_pos h]
   ·rw [if_neg h,if_neg λe=>h e.symm]
  ·rw [z28,ih,z28]
   by_cases h:m=x.name
   ·subst h;simp [hf]
   ·rw [if_neg h,if_neg h]
theorem zew (n m:ByteArray):∀ fs:List FileA,z04 (z3m n fs) m=if m=n then none else z04 fs m
 | []=>by simp [z3m,zhj]
 | f::fs=>by
  have ih:=zew n m fs
  unfold z3m at ih ⊢
  rw [List.filter_cons]
  by_cases h:f.name=n
  ·rw [if_neg (by simp [h]),ih,z28]
   by_cases h2:m=n
   ·rw [if_pos h2,if_pos h2]
   ·rw [if_neg h2,if_neg h2,if_neg (by rw [h];exact λe=>h2 e.symm)]
  ·rw [if_pos (by simp [h]),z28,ih,z28]
   by_cases h2:m=n
   ·subst h2;simp [h]
   ·rw [if_neg h2,if_neg h2]
theorem zex (ns:List ByteArray) (m:ByteArray):∀ fs:List FileA,z04 (fs.map (z3o ns)) m=(z04 fs m).map λp=>if zal ns m then (p.1,p.1.length) else p
 | []=>rfl
 | f::fs=>by
  have hn:(z3o ns f).name=f.name:=by unfold z3o;split <;> rfl
  rw [List.map_cons,z28,zex ns m fs,z28,hn]
  by_cases h:f.name=m
  ·subst h
   rw [if_pos rfl,if_pos rfl]
   unfold z3o
   split
   ·rename_i h;simp [h]
   ·rename_i h;simp [h]
  ·rw [if_neg h,if_neg h]
theorem z89 {A:DiskA} {n:ByteArray} {bs:List UInt8} (h:(z09 A n bs).1≠0):(z09 A n bs).2=A:=by
 unfold z09 at h ⊢
 split
 ·rfl
 ·split
  ·rfl
  ·split
   ·rfl
   ·rename_i h1 h2 h3
    rw [if_neg h1,if_neg h2,if_neg h3] at h
    exact absurd rfl h
theorem z9f {A:DiskA} {n:ByteArray} {bs:List UInt8} (hok:okA A) (h:(z09 A n bs).1=0):A.gone=false/\z4y n=true/\bs.length<=A.free/\okA (z09 A n bs).2 /\
  (z09 A n bs).2.room=A.room/\used (z09 A n bs).2.fs=used A.fs+bs.length /\
  ∀ m,z04 (z09 A n bs).2.fs m=if m=n then some (((z04 A.fs n).map Prod.fst).getD []++bs,((z04 A.fs n).map Prod.snd).getD 0) else z04 A.fs m:=by
 unfold z09 at h ⊢
 split at h
 ·cases h
 rename_i h1
 split at h
 ·cases h
 rename_i h2
 split at h
 ·cases h
 rename_i h3
 rw [if_neg h1,if_neg h2,if_neg h3]
 have hn:z4y n=true:=by simpa using h2
 have h4:=zfj hok hn (bs:=bs) (by omega) (λhh=>h3 (.inr hh))
 refine ⟨by simpa using h1,hn,by omega,z8y h4,by rw [z8a],?_,λm=>?_⟩
 ·rw [z36]
  show used (if z1v A.fs n=true then _ else _)=_
  have hnd:=z2i hok.sorted
  split
  ·rename_i hh
   obtain ⟨f,hf,rfl⟩:=z5n.1 hh
   obtain ⟨s,u,hsu⟩:=List.append_of_mem hf
   have hp:A.fs.Perm (f::(s++u)):=by rw [hsu];exact List.perm_middle
   have hne:∀ g ∈ s++u,g.name≠f.name:=λg hg e=>by
    have h5:=(hp.map (·.name)).nodup_iff.1 hnd
    rw [List.map_cons,List.nodup_cons] at h5
    exact h5.1 (List.mem_map.2 ⟨g,hg,e⟩)
   rw [zba hp hne,z3g hp,z1d,List.length_append]
   omega
  ·rw [z3g (z5r _ _),z1d]
   show bs.length+_=_
   omega
 ·rw [z36]
  show z04 (if z1v A.fs n=true then _ else _) m=_
  split
  ·rename_i hh
   rw [zbx n (λf=>{ f with b:=f.b++bs }) (λf=>rfl)]
   by_cases hm:m=n
   ·rw [if_pos hm,if_pos hm]
    rw [z42] at hh
    obtain ⟨p,hp⟩:=Option.isSome_iff_exists.1 hh
    rw [hp]
    rfl
   ·rw [if_neg hm,if_neg hm]
  ·rename_i hh
   have hh:z1v A.fs n=false:=by simpa using hh
   rw [zhi _ _ (z5o.1 hh)]
   by_cases hm:m=n
   ·rw [if_pos hm,if_pos hm,zar.2 (z5o.1 hh)]
    rfl
   ·rw [if_neg hm,if_neg hm]
theorem zei {A:DiskA} {n:ByteArray}:((z1n A [n]).1=0/\A.gone=false/\(z04 A.fs n).isSome=true/\(z1n A [n]).2=z27 { A with fs:=A.fs.map (z3o [n]) })\/((z1n A [n]).1=9/\A.gone=true/\(z1n A [n]).2=A)\/((z1n A [n]).1=3/\A.gone=false/\z04 A.fs n=none/\(z1n A [n]).2=A):=by
 unfold z1n
 split
 ·exact .inr (.inl ⟨rfl,by assumption,rfl⟩)
 ·rename_i h
  have hg:A.gone=false:=by simpa using h
  split
  ·rename_i h2
   refine .inr (.inr ⟨rfl,hg,?_,rfl⟩)
   simp only [List.all_cons,List.all_nil,Bool.and_true] at h2
   rw [z42] at h2
   cases hq:z04 A.fs n with
   | none=>rfl
   | some q=>rw [hq] at h2;cases h2
  ·rename_i h2
   refine .inl ⟨rfl,hg,?_,rfl⟩
   simp only [List.all_cons,List.all_nil,Bool.and_true] at h2
   rw [z42] at h2
   cases hq:z04 A.fs n with
   | none=>rw [hq] at h2;exact absurd rfl h2
   | some q=>rfl
theorem zx3 {A:DiskA} (hok:okA A) (ns:List ByteArray):okA { A with fs:=A.fs.map (z3o ns) } :=
 zp6 hok (λf=>by unfold z3o;split <;> rfl) (λf=>by unfold z3o;split <;> rfl) (λf h=>by unfold z3o;split;exact Nat.le_refl _;exact h)
theorem ztx (n m:ByteArray):zal [n] m=decide (n=m):=by
 unfold zal
 simp
theorem zpn {A:DiskA} {n:ByteArray} (hok:okA A) (h:(z1n A [n]).1=0):A.gone=false/\okA (z1n A [n]).2/\(z1n A [n]).2.room=A.room/\used (z1n A [n]).2.fs=used A.fs/\(z1n A [n]).2.fs.length=A.fs.length /\
  ∀ m,z04 (z1n A [n]).2.fs m=(z04 A.fs m).map λp=>if n=m then (p.1,p.1.length) else p:=by
 rcases zei (A:=A) (n:=n) with ⟨h1,h2,h3,h4⟩|⟨h1,-,-⟩|⟨h1,-,-,-⟩
 ·rw [h4]
  refine ⟨h2,z8y (zx3 hok _),by rw [z8a],?_,?_,λm=>?_⟩
  ·rw [z36]
   exact zb9 λf=>by unfold z3o;split <;> rfl
  ·rw [z36]
   exact List.length_map ..
  ·rw [z36]
   show z04 (A.fs.map (z3o [n])) m=_
   rw [zex]
   congr 1
   funext p
   rw [ztx]
   by_cases hm:n=m <;> simp [hm]
 ·rw [h1] at h;cases h
 ·rw [h1] at h;cases h
theorem z03u {A:DiskA} {n:ByteArray} (hok:okA A) (h:(z0y A n).1=0):A.gone=false/\okA (z0y A n).2/\(z0y A n).2.room=A.room/\used (z0y A n).2.fs<=used A.fs/\(z0y A n).2.fs.length<=A.fs.length/\(z04 A.fs n).isSome=true /\
  ∀ m,z04 (z0y A n).2.fs m=if m=n then none else z04 A.fs m:=by
 unfold z0y at h ⊢
 split at h
 ·cases h
 rename_i h1
 split at h
 ·cases h
 rename_i h2
 rw [if_neg h1,if_neg h2]
 refine ⟨by simpa using h1,z8y (z01r hok (List.filter_sublist ..)),by rw [z8a],?_,?_,?_,λm=>?_⟩
 ·rw [z36];exact zel (List.filter_sublist ..)
 ·rw [z36];exact zu7 _ _
 ·rw [<- z42];simpa using h2
 ·rw [z36];exact zew n m A.fs
theorem zvi {A:DiskA} {n:ByteArray} (hf:(z04 A.fs n).isSome=true):((z0y A n).1=0/\A.gone=false)\/((z0y A n).1=9/\A.gone=true/\(z0y A n).2=A):=by
 unfold z0y
 split
 ·exact .inr ⟨rfl,by assumption,rfl⟩
 ·rename_i h
  rw [if_neg (by rw [z42,hf];simp)]
  exact .inl ⟨rfl,by simpa using h⟩
theorem z02x {A:DiskA} {n:ByteArray} {k:Int} (hok:okA A) (h:(cutA' A n k).1=0):A.gone=false/\okA (cutA' A n k).2/\(cutA' A n k).2.room=A.room/\(cutA' A n k).2.fs.length=A.fs.length /\
  ∀ m,z04 (cutA' A n k).2.fs m=if m=n then (z04 A.fs n).map (λp=>(p.1.take k.toNat,min p.2 k.toNat)) else z04 A.fs m:=by
 unfold cutA' at h ⊢
 split at h
 ·cases h
 rename_i h1
 split at h
 ·cases h
 rename_i h2
 split at h
 ·cases h
 rename_i h3
 rw [if_neg h1,if_neg h2,if_neg h3]
 have hnd:=z2i hok.sorted
 have hup:okA { A with fs:=A.fs.map (z1k n λf=>{ f with b:=f.b.take k.toNat,kept:=min f.kept k.toNat }) }:=by
  refine ⟨hok.room,?_,?_,hok.left,z8h (λf=>z5w (g:=λf=>{ f with b:=f.b.take k.toNat,kept:=min f.kept k.toNat }) (λ_=>rfl) f) hok.sorted,λf hf=>?_,λf hf=>?_⟩
  ·refine Nat.le_trans ?_ hok.used
   show used (A.fs.map _)<=used A.fs
   generalize A.fs=fs
   induction fs with
   | nil=>exact Nat.le_refl _
   | cons f fs ih =>
    rw [List.map_cons,z1d,z1d]
    have:(z1k n (λf=>{ f with b:=f.b.take k.toNat,kept:=min f.kept k.toNat }) f).b.length<=f.b.length:=by
     unfold z1k
     split
     ·show (f.b.take _).length<=_;rw [List.length_take];omega
     ·exact Nat.le_refl _
    omega
  ·show (A.fs.map _).length<=_;rw [List.length_map];exact hok.many
  ·obtain ⟨g,hg,rfl⟩:=List.mem_map.1 hf
   have:=hok.kept g hg
   unfold z1k
   split
   ·show min g.kept _<=(g.b.take _).length;rw [List.length_take];omega
   ·exact this
  ·obtain ⟨g,hg,rfl⟩:=List.mem_map.1 hf
   rw [z5w (g:=λf=>{ f with b:=f.b.take k.toNat,kept:=min f.kept k.toNat }) (λ_=>rfl)]
   exact hok.names g hg
 refine ⟨by simpa using h1,z8y hup,by rw [z8a],by rw [z36];exact List.length_map ..,λm=>?_⟩
 rw [z36]
 show z04 (A.fs.map _) m=_
 rw [zbx n (λf=>{ f with b:=f.b.take k.toNat,kept:=min f.kept k.toNat }) (λf=>rfl)]
theorem zu5 {A:DiskA} {n:ByteArray} {k:Int} {p:List UInt8 × Nat} (hf:z04 A.fs n=some p) (hk:0<=k/\k<=p.1.length):((cutA' A n k).1=0/\A.gone=false)\/((cutA' A n k).1=9/\A.gone=true/\(cutA' A n k).2=A):=by
 unfold cutA'
 split
 ·exact .inr ⟨rfl,by assumption,rfl⟩
 ·rename_i h
  rw [if_neg (by rw [z42,hf];simp),if_neg (by rw [zqt hf];omega)]
  exact .inl ⟨rfl,by simpa using h⟩
def z3r (e:EntA):List Value:=[.int .i64 e.offset,.int .i64 e.place,.int .i64 e.before]
instance:EncA z3r [.int .i64,.int .i64,.int .i64] (λe=>(e.offset,e.place,e.before,())):=⟨λ_=>rfl⟩
instance:EncN z3r 3:=⟨λ_=>rfl,by decide,by simp [z3r,Value.oneCell']⟩
instance:EncF z3r 0 (.int .i64) (λe=>e.offset):=⟨λ_=>rfl⟩
instance:EncF z3r 1 (.int .i64) (λe=>e.place):=⟨λ_=>rfl⟩
instance:EncF z3r 2 (.int .i64) (λe=>e.before):=⟨λ_=>rfl⟩
structure okX (X:IdxA):Prop where
 gap:1<=X.gap/\X.gap<=4194304
 place : -1<=X.place/\X.place<=4194304
 ent:∀ e ∈ X.l,0<=e.place/\e.place<=X.place
 len:(X.l.length:Int)<=X.place+1
def z26 (b:Nat) (X:IdxA):HP:=HP.ex λz:Sl=>HP.and (okX X) (HP.star (pt b (.cells #[.int .i64 X.offset,.int .i64 X.place,.int .i64 X.late,.int .i64 X.gap,.slice z.a z.len z.cap] T.a10)) (slc T.a9 3 z (X.l.flatMap z3r)))
section
variable {w:World} {l r:List HP} {b:Nat} {X:IdxA}
theorem ze2 (hs:Sat w (z26 b X::l)):∃ z:Sl,okX X/\Sat w (pt b (.cells #[.int .i64 X.offset,.int .i64 X.place,.int .i64 X.late,.int .i64 X.gap,.slice z.a z.len z.cap] T.a10)::slc T.a9 3 z (X.l.flatMap z3r)::l):=by
 obtain ⟨z,hs⟩:=hs.ex
 obtain ⟨h,hs⟩:=hs.and
 exact ⟨z,h,hs.star⟩
theorem z7w (X:IdxA) {z:Sl} (h:okX X) (hs:Sat w (pt b (.cells #[.int .i64 X.offset,.int .i64 X.place,.int .i64 X.late,.int .i64 X.gap,.slice z.a z.len z.cap] T.a10)::slc T.a9 3 z (X.l.flatMap z3r)::l)):Sat w (z26 b X::l) :=
 .ex_mk z (.and_mk h (.star_mk hs))
theorem z07h {gap:Int} (h:1<=gap/\gap<=4194304):okX (zc7 gap):=⟨h,by show -1<=(-1:Int)/\(-1:Int)<=4194304;omega,(λ_ h=>by cases h),by show (0:Int) <= -1+1;omega⟩
theorem z03c (gap:Int) (h:1<=gap/\gap<=4194304) (hs:Sat w l):Ret P F.a45 #[.int .i64 gap] w λvs w'=>∃ b,vs=[.pointer (some ⟨b,0,none⟩),.int .i64 0]/\Sat w' (z26 b (zc7 gap)::l) :=
 zss gap <| by
  delta z05h Aa Ah Ai Am Ap Av
  refine zw ?_
  refine zn hs λa w' hs=>?_
  refine ⟨rfl,a,rfl,?_⟩
  have h0:Sat w' (slc T.a9 3 ⟨none,0,0⟩ ((zc7 gap).l.flatMap z3r)::_):=hs.slc_nil
  exact z7w (zc7 gap) (z:=⟨none,0,0⟩) (z07h h) (h0.pick [1])
theorem z03b (o p t:Int) (hs:Sat w l):Ret P F.a46 #[.int .i64 o,.int .i64 p,.int .i64 t] w λvs w'=>vs=[.bool (decide (zb0 o p t))]/\Sat w' l :=
 zst o p t <| by
  delta z05i Al Am
  refine wp_lt ?_
  refine ⟨rfl,?_,hs⟩
  congr 2
  rw [Bool.eq_iff_iff,decide_eq_true_iff (p:=zb0 o p t)]
  unfold zb0
  simp only [Bool.and_eq_true,decide_eq_true_eq]
  constructor
  ·rintro ⟨⟨⟨⟨⟨h1,h2⟩,h3⟩,h4⟩,h5⟩,h6⟩
   exact ⟨⟨h1,h2⟩,⟨h3,h4⟩,h5,h6⟩
  ·rintro ⟨⟨h1,h2⟩,⟨h3,h4⟩,h5,h6⟩
   exact ⟨⟨⟨⟨⟨h1,h2⟩,h3⟩,h4⟩,h5⟩,h6⟩
theorem zx6 {X:IdxA} (h:okX X) {o p t:Int} (hm:zb0 o p t) (h2:¬ (o<=X.offset\/p<=X.place)):okX ⟨o,p,max X.late t,X.gap,z47 X o p⟩:=by
 obtain ⟨h3,h4,h5,h6⟩:=h
 obtain ⟨-,hp,-⟩:=hm
 refine ⟨h3,by show -1<=p/\p<=4194304;omega,λe he=>?_,?_⟩
 ·show 0<=e.place/\e.place<=p
  have he:e ∈ z47 X o p:=he
  unfold z47 at he
  split at he
  ·rcases List.mem_append.1 he with he|he
   ·have:=h5 e he;omega
   ·simp at he;subst he;simp only;omega
  ·have:=h5 e he;omega
 ·show ((z47 X o p).length:Int)<=p+1
  unfold z47
  split
  ·rw [List.length_append];simp only [List.length_cons,List.length_nil];omega
  ·omega
theorem z03l (o p t:Int) (ho : -9223372036854775808<=o/\o<9223372036854775808) (hp : -9223372036854775808<=p/\p<9223372036854775808) [hf:Fo l z26 b X r] (hs:Sat w l) :
  Ret P F.a43 #[.pointer (some ⟨b,0,none⟩),.int .i64 o,.int .i64 p,.int .i64 t] w λvs w'=>vs=[.int .i64 (z9m X o p t).1]/\Sat w' (z26 b (z9m X o p t).2::r) :=
 zsq _ o p t <| by
  delta z05f AB AF AH AI AL AN AO AQ AR AV Aa Ac Af Ai Ak Am Aq Ar Ay BN Bp Bx
  have hs:=hs.perm hf.perm
  refine wp_lt ?_
  refine zw ?_ (by simp)
  refine z8 (z03b o p t hs) λ_ w' hs=>?_
  obtain ⟨rfl,hs⟩:=hs
  refine zb ?_
  refine wp_lt ?_
  unfold z9m
  refine ze (λh=>?_) λh=>?_
  ·have h:¬ zb0 o p t:=by simpa using h
   rw [if_pos h]
   exact ⟨rfl,rfl,hs⟩
  have h:zb0 o p t:=by simpa using h
  rw [if_neg (λhh=>hh h)]
  obtain ⟨z,hok,hs⟩:=ze2 hs
  have hl:=hs.slen z (xs:=X.l) (enc:=z3r)
  refine zj ?_
  refine za hs ?_
  refine z0c ?_
  refine za hs ?_
  refine wp_lt ?_
  refine ze (λh2=>?_) λh2=>?_
  ·rw [if_pos h2]
   exact ⟨rfl,rfl,z7w X hok hs⟩
  rw [if_neg h2]
  have hok2:=zx6 hok h h2
  have hlen:=hok.len
  have hpl:=hok.place
  refine zj ?_
  refine za hs ?_
  refine wp_lt ?_
  refine zy hs λw' hs=>?_
  refine z0c ?_
  refine za hs ?_
  have hgl:∀ (h0:X.l≠[]),X.l.getLast? = some (X.l[X.l.length-1]'(by have:=List.length_pos_iff.2 h0;omega)):=λh0=>by
   have:=List.length_pos_iff.2 h0
   rw [List.getLast?_eq_getElem?,List.getElem?_eq_getElem (by omega)]
  refine zy9 (xs:=X.l) (enc:=z3r) hs (match X.l.getLast? with|none=>0|some e=>e.place) (λhg=>?_) ?_
  ·have h0:X.l≠[]:=by
    rintro h0
    rw [h0] at hl
    rw [hl] at hg
    cases hg
   have:=List.length_pos_iff.2 h0
   refine ⟨X.l.length-1,by omega,?_,?_⟩
   ·rw [w64 (by omega) (by omega)];omega
   ·rw [hgl h0]
  refine z0c ?_
  refine za hs ?_
  refine zd ?_
  refine zf (λ_ w'=>∃ z':Sl,Sat w' (pt b (.cells #[.int .i64 X.offset,.int .i64 X.place,.int .i64 X.late,.int .i64 X.gap,.slice z'.a z'.len z'.cap] T.a10)::slc T.a9 3 z' ((z47 X o p).flatMap z3r)::r)) ?_ ?_
  ·have hnew:zwz X p=true↔(((z.len:Nat):Int)=0\/IntKind.wrap .i64 (p-match X.l.getLast? with|none=>0|some e=>e.place)>=X.gap):=by
    unfold zwz
    by_cases h0:X.l=[]
    ·rw [h0]
     simp only [List.getLast?_nil,true_iff]
     left
     rw [hl,h0];rfl
    ·rw [hgl h0]
     have hlp:=List.length_pos_iff.2 h0
     have hb:=hok.ent _ (List.getElem_mem (show X.l.length-1<X.l.length by omega))
     simp only [decide_eq_true_eq]
     rw [w64 (by omega) (by omega)]
     omega
   unfold z47
   refine ze (λh3=>?_) λh3=>?_
   ·rw [if_pos (hnew.2 h3)]
    refine zf (λq w'=>∃ z':Sl,q=(z',())/\Sat w' (slc T.a9 3 z' ((X.l++[(⟨o,p,X.late⟩:EntA)]).flatMap z3r)::pt b (.cells #[.int .i64 X.offset,.int .i64 X.place,.int .i64 X.late,.int .i64 X.gap,.slice z.a z.len z.cap] T.a10)::r)) ?_ ?_
    ·refine zy hs λw' hs=>?_
     refine zj ?_
     refine z0x hs ?_
     refine zj ?_
     refine za hs ?_
     refine z7m hs (enc:=z3r) [(⟨o,p,X.late⟩:EntA)] λy w' hs=>⟨(by first|trivial|(repeat (first|exact trivial|exact λ_=>z08 hs|exact λ_=>z0i hs|refine And.intro ?_ ?_))),?_⟩
     refine zd ?_
     refine wp_app' (xs:=X.l) (ys:=[(⟨o,p,X.late⟩:EntA)]) (enc:=z3r) hs (λz' w' hs=>?_) (by simp only [List.length_cons,List.length_nil];omega)
     refine zd ?_
     exact zg ⟨z',rfl,hs.sub⟩
    ·rintro _ w2 ⟨z',rfl,hs⟩
     refine zj ?_
     refine z07 hs λw' hs=>?_
     exact zg ⟨z',hs.sub⟩
   ·rw [if_neg λhh=>h3 (hnew.1 hh)]
    exact zg ⟨z,hs⟩
  rintro _ w2 ⟨z',hs⟩
  refine zj ?_
  refine za hs ?_
  refine zj ?_
  have e:(if t>X.late then t else X.late)=max X.late t:=by split <;> omega
  rw [e]
  have hA:(Addr.add ⟨b,0,none⟩ 0)=⟨b,0,none⟩:=rfl
  rw [hA]
  refine z04h hs (by rfl) (by rfl) (by simp [Value.oneCell']) λw' hs=>⟨trivial,?_⟩
  refine ⟨rfl,rfl,?_⟩
  exact z7w ⟨o,p,max X.late t,X.gap,z47 X o p⟩ (z:=z') hok2 hs
theorem z014 (i:Int) (hi:i<X.l.length) [hf:Fo l z26 b X r] (hs:Sat w l) :
  Ret P F.a44 #[.pointer (some ⟨b,0,none⟩),.int .i64 i] w λvs w'=>vs=[.agg (z3r (if i<0 then ⟨0,0,0⟩ else X.l.getD i.toNat ⟨0,0,0⟩)).toArray,.bool (decide (0<=i))]/\Sat w' (z26 b X::r) :=
 zsr _ i <| by
  delta z05g AB AI Ad Ae Af Ag Ai Am Bp
  have hs:=hs.perm hf.perm
  refine zt hs λa w' hs=>?_
  refine ze (λh=>?_) λh=>?_
  ·refine zu hs λw' hs=>?_
   refine zk hs ?_
   rw [if_pos h]
   refine ⟨rfl,?_,hs.tail⟩
   rw [decide_eq_false (by omega)]
   rfl
  ·refine zj ?_
   obtain ⟨z,hok,hs⟩:=ze2 (hs.pick [1])
   refine za hs ?_
   refine z32 hs (xs:=X.l) (enc:=z3r) i.toNat (by omega) ?_
   refine zu hs λw' hs=>?_
   refine zk hs ?_
   rw [if_neg h]
   refine ⟨rfl,?_,z7w X (z:=z) hok hs.sub⟩
   rw [decide_eq_true (by omega),List.getD_eq_getElem?_getD,List.getElem?_eq_getElem (by omega)]
   rfl
theorem zky (n : Nat) (hn : n < 4611686018427387904) (f : FuncId) (cap : Array Value) (p : Nat → Bool) (hok : (P.funcs[f]?).any (fun fn => fn.body.isSome && fn.name != "runtime.NumGoroutine") = true)
  (hp:∀ (i:Nat) (w:World),i<n->Sat w l->Ret P f (#[.int .i64 (i:Int)]++cap) w λvs w'=>vs=[.bool (p i)]/\Sat w' l) (hs:Sat w l) :
  Ret P F.a160 #[.int .i64 (n:Int),.func (.func f) #[] cap] w λvs w'=>∃ i:Nat,i<=n/\(0<i->p (i-1)=false)/\(i<n->p i=true)/\vs=[.int .i64 (i:Int)]/\Sat w' l :=
 znc _ _ <| by
  delta zzx AF Aa Ac Ai Am Be Bg Br
  refine wp_lt ?_
  refine zf (λq w'=>∃ i:Nat,i<=n/\(0<i->p (i-1)=false)/\(i<n->p i=true)/\q=((i:Int),())/\Sat w' l) ?_ ?_
  rotate_left
  ·rintro _ w' ⟨i,h1,h2,h3,rfl,hs⟩
   refine wp_lt ?_
   exact ⟨rfl,i,h1,h2,h3,rfl,hs⟩
  refine z02 (λm v w=>∃ i j:Nat,v=((i:Int),((j:Int),()))/\i<=j/\j<=n/\j-i=m/\(0<i->p (i-1)=false)/\(j<n->p j=true)/\Sat w l) n ⟨0,n,rfl,by omega,by omega,rfl,(λh=>by omega),(λh=>by omega),hs⟩ ?_
  clear hs
  rintro m _ w ⟨i,j,rfl,hij,hjn,hm,h1,h2,hs⟩
  refine zm ?_
  refine ze (λhc=>?_) λhc=>?_
  rotate_left
  ·have:i=j:=by omega
   subst this
   exact zh (zg ⟨i,hjn,h1,h2,rfl,hs⟩)
  have hc:i<j:=by omega
  have e:IntKind.wrap .i64 (Int.fdiv (IntKind.wrap .u64 (IntKind.wrap .i64 ((i:Int)+j))) 2)=(((i+j) / 2:Nat):Int):=by
   rw [w64 (x:=(i:Int)+j) (by omega) (by omega),zlg (by omega) (by omega)]
   have:Int.fdiv ((i:Int)+j) 2=(((i+j) / 2:Nat):Int):=by
    rw [Int.fdiv_eq_ediv_of_nonneg _ (by omega)]
    omega
   rw [this,w64 (by omega) (by omega)]
  refine z1z (y:=(((i+j) / 2:Nat):Int)) ?_ e
  refine zvx hok (p ((i+j) / 2),()) (hp ((i+j) / 2) w (by omega) hs) rfl λw' hs=>⟨trivial,?_⟩
  refine zm ?_
  refine z4q ?_
  refine ze (λh3=>?_) λh3=>?_
  ·have h3:p ((i+j) / 2)=false:=by simpa using h3
   refine z1z (y:=(((i+j) / 2+1:Nat):Int)) ?_ (by rw [w64 (by omega) (by omega)];omega)
   refine z3q ?_
   refine z0z (j-((i+j) / 2+1)) ⟨(i+j) / 2+1,j,rfl,by omega,hjn,rfl,λ_=>by rw [Nat.add_sub_cancel];exact h3,h2,hs⟩
  ·have h3:p ((i+j) / 2)=true:=by simpa using h3
   refine wp_lt ?_
   refine z3q ?_
   refine z0z ((i+j) / 2-i) ⟨i,(i+j) / 2,rfl,by omega,by omega,rfl,h1,λ_=>h3,hs⟩
theorem z018 (i:Nat) (a0 a1:Nat) (o:Int) {r1 r2:List HP} {z:Sl} (hi:i<X.l.length) [h0:FocB l a0 (.cells [.pointer (some ⟨b,0,none⟩)].toArray T.a25) r1] [h1:FocB l a1 (.cells [.int .i64 o].toArray T.a13) r2]
  [h2:FocB l b (.cells [.int .i64 X.offset,.int .i64 X.place,.int .i64 X.late,.int .i64 X.gap,.slice z.a z.len z.cap].toArray T.a10) r] [h3:FocR l z 3 (X.l.flatMap z3r)] (hs:Sat w l) :
  Ret P F.a42 #[.int .i64 (i:Int),.pointer (some ⟨a0,0,none⟩),.pointer (some ⟨a1,0,none⟩)] w λvs w'=>vs=[.bool (decide (X.l[i].offset>o))]/\Sat w' l :=
 zsp _ _ _ <| by
  delta z05e AB AI AL AN Ah Al Am Aq B2 BM Bp
  refine zy hs λw' hs=>?_
  refine za hs ?_
  refine zj ?_
  refine za hs ?_
  refine z04e hs (xs:=X.l) (enc:=z3r) i hi ?_
  refine za hs ?_
  refine wp_lt ?_
  refine zd ?_
  exact ⟨rfl,rfl,hs⟩
def orE (o:Option EntA):EntA:=o.getD ⟨0,0,0⟩
theorem zu6 {l:List EntA} {i:Nat} (hi:i<=l.length):(if ((i:Int)-1)<0 then (⟨0,0,0⟩:EntA) else l.getD ((i:Int)-1).toNat ⟨0,0,0⟩)=orE (l.take i).getLast? /\ decide (0<=(i:Int)-1)=(l.take i).getLast?.isSome:=by
 rw [zvt hi]
 by_cases h:i=0
 ·subst h;exact ⟨rfl,rfl⟩
 ·rw [if_neg h,if_neg (by omega),List.getD_eq_getElem?_getD,show ((i:Int)-1).toNat=i-1 by omega,List.getElem?_eq_getElem (by omega)]
  exact ⟨rfl,decide_eq_true (by omega)⟩
theorem z031 (o:Int) (hm:X.l.Pairwise λa b=>a.offset<b.offset) [hf:Fo l z26 b X r] (hs:Sat w l) :
  Ret P F.a41 #[.pointer (some ⟨b,0,none⟩),.int .i64 o] w λvs w'=>vs=[.agg (z3r (orE (z2t X.l o))).toArray,.bool (z2t X.l o).isSome]/\Sat w' (z26 b X::r) :=
 zso _ o <| by
  delta z05d AB AF AI AL AN Aa Ad Ae Af Ag Ah Ai Aj Al Am Ap Av Ax BE Bp
  have hs:=hs.perm hf.perm
  refine zn hs λa0 w' hs=>?_
  refine zn hs λa1 w' hs=>?_
  refine zt hs λa2 w' hs=>?_
  refine za hs ?_
  refine zw ?_ (by simp)
  refine zf (λq w'=>q=((z2t X.l o).isSome,())/\Sat w' (pt a2 (.cells [.int .i64 (orE (z2t X.l o)).offset,.int .i64 (orE (z2t X.l o)).place,.int .i64 (orE (z2t X.l o)).before].toArray T.a9)::z26 b X::r)) ?_ ?_
  rotate_left
  ·rintro _ w2 ⟨rfl,hs⟩
   refine zk hs ?_
   exact ⟨rfl,rfl,hs.tail⟩
  obtain ⟨z,hok,hs⟩:=ze2 (hs.pick [3])
  have hl:=hs.slen z (xs:=X.l) (enc:=z3r)
  have hlen:=hok.len
  have hpl:=hok.place
  refine zy hs λw' hs=>?_
  refine z0x hs ?_
  refine za hs ?_
  refine zj ?_
  refine za hs ?_
  rw [hl]
  refine z8 (zky X.l.length (by omega) F.a42 #[.pointer (some ⟨a0,0,none⟩),.pointer (some ⟨a1,0,none⟩)] (λi=>decide ((X.l.getD i ⟨0,0,0⟩).offset>o)) (by kernel_rfl) (λi w hi hs=>?_) hs) λ_ w' hs=>?_
  ·have e:X.l.getD i ⟨0,0,0⟩=X.l[i]:=by rw [List.getD_eq_getElem?_getD,List.getElem?_eq_getElem hi];rfl
   simp only [e]
   exact z018 (X:=X) i a0 a1 o hi hs
  obtain ⟨i,hi,h1,h2,rfl,hs⟩:=hs
  refine zb ?_ (by first|trivial|(repeat (first|exact trivial|exact λ_=>z08 hs|exact λ_=>z0i hs|refine And.intro ?_ ?_)))
  refine zd ?_
  rw [w64 (by omega) (by omega)]
  replace hs:Sat _ (z26 b X::pt a2 (.cells [.int .i64 0,.int .i64 0,.int .i64 0].toArray T.a9)::pt a0 (.cells [.pointer (some ⟨b,0,none⟩)].toArray T.a25)::r):=z7w X (z:=z) hok hs.sub
  refine z8 (z014 (b:=b) ((i:Int)-1) (by omega) hs) λ_ w' hs=>?_
  obtain ⟨rfl,hs⟩:=hs
  have hcut:z2t X.l o=(X.l.take i).getLast? := by
   unfold z2t
   rw [zrg hi (hm.imp λ{a b} hab=>by simp only [decide_eq_true_eq];omega)]
   ·intro h h0
    have:=h1 h0
    rw [List.getD_eq_getElem?_getD,List.getElem?_eq_getElem h] at this
    have:decide (X.l[i-1].offset>o)=false:=this
    simpa using this
   ·intro h
    have:=h2 h
    rw [List.getD_eq_getElem?_getD,List.getElem?_eq_getElem h] at this
    have:decide (X.l[i].offset>o)=true:=this
    simpa using this
  obtain ⟨c1_,c2_⟩:=zu6 (l:=X.l) hi
  rw [c1_,c2_,<- hcut]
  refine ⟨((orE (z2t X.l o)).offset,(orE (z2t X.l o)).place,(orE (z2t X.l o)).before,(z2t X.l o).isSome,()),rfl,(by first|trivial|(repeat (first|exact trivial|exact λ_=>z08 hs|exact λ_=>z0i hs|refine And.intro ?_ ?_))),zyv _ _ _ _ ?_⟩
  refine zu hs λw' hs=>?_
  refine wp_lt ?_
  refine zd ?_
  exact zg ⟨rfl,hs.sub⟩
end
structure SegM where
 ix:Nat
 s:SegA
structure LogM where
 d:Nat
 pre:ByteArray
 seg:Int
 gap:Int
 z:Sl
 SM:List (Nat × SegM)
structure LogA where
 d:Nat
 pre:ByteArray
 seg:Int
 gap:Int
 l:List SegA
def LogM.l (M:LogM):List SegA:=M.SM.map λt=>t.2.s
def LogM.A (M:LogM):LogA:=⟨M.d,M.pre,M.seg,M.gap,M.l⟩
def z1j (b:Nat):List Value:=[.pointer (some ⟨b,0,none⟩)]
instance:Enc1 z1j .ptr (λb=>some ⟨b,0,none⟩):=⟨λ_=>rfl⟩
instance:EncN z1j 1:=⟨λ_=>rfl,by decide,by simp [z1j,Value.oneCell']⟩
def z0m (gap:Int) (a:Nat) (t:SegM):HP:=HP.star (pt a (.cells #[.pointer (some ⟨t.ix,0,none⟩),.int .i64 t.s.base,.int .i64 t.s.fin,.int .i64 (z0a t.s.bs),.int .i64 (z1a (-1) t.s.bs),.int .i64 (t.s.file.length:Nat)] T.a49)) (z26 t.ix (t.s.idx gap))
structure okM (gap seg:Int) (pre:ByteArray):Prop where
 gap:1<=gap/\gap<=4194304
 seg:64<=seg/\seg<=4194304
 pre:z30 pre=true
def lgQ (lg:Nat) (M:LogM):HP:=HP.and (okM M.gap M.seg M.pre) (HP.star (pt lg (.cells #[.pointer (some ⟨M.d,0,none⟩),.string M.pre,.int .i64 M.seg,.int .i64 M.gap,.slice M.z.a M.z.len M.z.cap] T.a48))
 (HP.star (slc T.a28 1 M.z ((M.SM.map Prod.fst).flatMap z1j)) (HP.all (M.SM.map λt=>z0m M.gap t.1 t.2))))
def lgP (lg:Nat) (A:LogA):HP:=HP.ex λM:LogM=>HP.and (M.A=A) (lgQ lg M)
def zxi:Option Nat->Option Addr
 | none=>none
 | some b=>some ⟨b,0,none⟩
section
variable {w:World} {l r:List HP} {lg:Nat} {M:LogM} {A:LogA} {gap:Int} {a:Nat} {t:SegM}
theorem z3l (hs:Sat w (z0m gap a t::l)):Sat w (pt a (.cells #[.pointer (some ⟨t.ix,0,none⟩),.int .i64 t.s.base,.int .i64 t.s.fin,.int .i64 (z0a t.s.bs),.int .i64 (z1a (-1) t.s.bs),.int .i64 (t.s.file.length:Nat)] T.a49)::z26 t.ix (t.s.idx gap)::l):=hs.star
theorem z2h (t:SegM) (hs:Sat w (pt a (.cells #[.pointer (some ⟨t.ix,0,none⟩),.int .i64 t.s.base,.int .i64 t.s.fin,.int .i64 (z0a t.s.bs),.int .i64 (z1a (-1) t.s.bs),.int .i64 (t.s.file.length:Nat)] T.a49)::z26 t.ix (t.s.idx gap)::l)):Sat w (z0m gap a t::l):=.star_mk hs
theorem z2k (hs:Sat w (lgQ lg M::l)):okM M.gap M.seg M.pre/\Sat w (pt lg (.cells #[.pointer (some ⟨M.d,0,none⟩),.string M.pre,.int .i64 M.seg,.int .i64 M.gap,.slice M.z.a M.z.len M.z.cap] T.a48)::slc T.a28 1 M.z ((M.SM.map Prod.fst).flatMap z1j)::HP.all (M.SM.map λt=>z0m M.gap t.1 t.2)::l):=by
 obtain ⟨h,hs⟩:=hs.and
 have hs:=hs.star
 exact ⟨h,((hs.pick [1]).star).pick [2]⟩
theorem z1h (M:LogM) (h:okM M.gap M.seg M.pre) (hs:Sat w (pt lg (.cells #[.pointer (some ⟨M.d,0,none⟩),.string M.pre,.int .i64 M.seg,.int .i64 M.gap,.slice M.z.a M.z.len M.z.cap] T.a48)::slc T.a28 1 M.z ((M.SM.map Prod.fst).flatMap z1j)::HP.all (M.SM.map λt=>z0m M.gap t.1 t.2)::l)):Sat w (lgQ lg M::l):=by
 refine .and_mk h (.star_mk ?_)
 exact ((hs.pick [1,1]).star_mk).pick [1]
theorem z7a (hs:Sat w (lgP lg A::l)):∃ M:LogM,M.A=A/\Sat w (lgQ lg M::l):=by
 obtain ⟨M,hs⟩:=hs.ex
 obtain ⟨h,hs⟩:=hs.and
 exact ⟨M,h,hs⟩
theorem z43 (M:LogM) (hs:Sat w (lgQ lg M::l)):Sat w (lgP lg M.A::l):=.ex_mk M (.and_mk rfl hs)
theorem zhs:∀ (j n:Nat),z2n (j+1) n=z5p (n / 16 ^ j % 16)::z2n j n
 | 0,n=>by simp [z2n]
 | j+1,n=>by
  show z2n (j+1) (n / 16)++[z5p (n % 16)]=_
  rw [zhs j (n / 16)]
  have e:n / 16 / 16 ^ j=n / 16 ^ (j+1):=by rw [Nat.div_div_eq_div_mul,Nat.pow_succ,Nat.mul_comm]
  rw [e]
  rfl
theorem z02d (k:Nat) (c:UInt8):∀ (xs:List UInt8),(List.replicate (k+1) (0:UInt8)++xs).set k c=List.replicate k 0++c::xs:=by
 induction k with
 | zero=>intro xs;rfl
 | succ k ih=>intro xs;rw [List.replicate_succ,List.cons_append,List.set_cons_succ,ih,List.replicate_succ,List.cons_append]
theorem z06h (n:Nat) (h:n<18446744073709551616):BitVec.toNat (BitVec.ofInt 64 (n:Int) &&& BitVec.ofInt 64 15)=n % 16:=by
 rw [BitVec.ofInt_natCast,BitVec.toNat_and,BitVec.toNat_ofNat,Nat.mod_eq_of_lt h]
 show n &&& 15=n % 16
 exact Nat.and_two_pow_sub_one_eq_mod n 4
theorem z02v {k:Nat} (h:k<16):bt (ByteArray.mk #[48,49,50,51,52,53,54,55,56,57,97,98,99,100,101,102]) (k:Int)=(((z5p k).toNat:Nat):Int):=by
 have:∀ k:Fin 16,bt (ByteArray.mk #[48,49,50,51,52,53,54,55,56,57,97,98,99,100,101,102]) (k.val:Int)=(((z5p k.val).toNat:Nat):Int):=by decide +kernel
 exact this ⟨k,h⟩
theorem z04g {P:Program} {t el:TypeId} {bytes:Nat} {Q:Post} {S:World->Prop} {k:Sl->Prog} [ht:SlT P t el 1 bytes] [hz:Zer P el (.int .u8 0)] (n:Nat) (hs:Sat w l) (h:∀ x w',Sat w' (slc el 1 x ((List.replicate n (0:UInt8)).flatMap zi)::l)->(k x).wp P S w' Q) (hb:n*bytes<=281474976710656/\n<=9223372036854775807) (hS:∀ w',S w':=by exact λ_=>trivial) :
  (Prog.act (Instr.makeSlice t (.int .i64 (n:Int)) (.int .i64 (n:Int))) sL (u1 k)).wp P S w Q:=by
 obtain ⟨i,z,hi,h2,h3,h4,h5⟩:=ht.parts
 have hz':z=.int .u8 0:=by
  have:=hz.ok
  unfold z9a at this
  rw [hi] at this
  simp only at this
  rw [h4] at this
  exact Option.some.inj this
 have hrun:=run_make (P:=P) w t el i z ht.ok.1 hi h4 .i64 .i64 n n (by omega) (Int.le_refl _) (by rw [h3,<- Int.natCast_mul,Nat.mul_comm];omega) (by omega)
 simp only [Int.toNat_natCast] at hrun
 have hp:=hs.push (o:=.cells (madeCells z.cells (n*i.size)) el) (w':=w.alloc (.cells (madeCells z.cells (n*i.size)) el)) rfl
 refine ⟨(⟨some ⟨w.heap.size,0,none⟩,n,n⟩,()),_,hrun,hS _,h ⟨some ⟨w.heap.size,0,none⟩,n,n⟩ _ ?_⟩
 refine hp.imp λp hp=>.inr ⟨w.heap.size,0,_,_,rfl,hp,by rw [z3j,List.length_replicate],Nat.le_refl _,by rw [size_madeCells,h2];simp,λj hj=>?_,z2b _ _⟩
 rw [z3j,List.length_replicate,Nat.mul_one] at hj
 rw [h2,Nat.mul_one,Nat.zero_add,z9j,hz']
 have e1:(madeCells (Value.int .u8 0).cells n)[j]? = some (.int .u8 0):=by
  rw [Array.getElem?_eq_getElem (by rw [size_madeCells];exact hj)]
  simp [madeCells,Value.cells,Nat.mod_one]
 rw [e1,List.getElem?_map,List.getElem?_replicate,if_pos hj]
 rfl
theorem z7d (base:Int) (h:0<=base/\base<17592186044416) (x:ByteArray) (hx:x.size<=100) {d_:Value} {seg gp:Value} {zz:Value} (pre:ByteArray) (hp:pre.size<=100) [hf:FocB l lg (.cells [d_,.string pre,seg,gp,zz].toArray T.a48) r] (hs:Sat w l) :
  Ret P F.a115 #[.pointer (some ⟨lg,0,none⟩),.int .i64 base,.string x] w λvs w'=>vs=[.string (zl pre base (bl x))]/\Sat w' l :=
 zmi _ base x <| by
  delta zzg AB AF AI AL AN AR AT AU AV Aa Ac Ai Am Ay Br
  refine z04g 11 hs (λz w' hs=>?_) (by omega)
  refine zf (λ_ w'=>Sat w' (slc T.a59 1 z ((z2n 11 base.toNat).flatMap zi)::l)) ?_ ?_
  ·refine z02 (λm v w=>∃ j:Nat,v=(((base.toNat / 16 ^ j:Nat):Int),((10-(j:Int)),()))/\j<=11/\11-j=m/\Sat w (slc T.a59 1 z ((List.replicate (11-j) 0++z2n j base.toNat).flatMap zi)::l)) 11 ⟨0,by rw [Nat.pow_zero,Nat.div_one,Int.toNat_of_nonneg h.1];rfl,by omega,rfl,by simpa [z2n] using hs⟩ ?_
   clear hs
   rintro m _ w ⟨j,rfl,hj,hm,hs⟩
   refine zm ?_
   refine ze (λhc=>?_) λhc=>?_
   rotate_left
   ·have:j=11:=by omega
    subst this
    exact zh (zg (by simpa using hs))
   have hj2:j<=10:=by omega
   have hb:base.toNat / 16 ^ j<18446744073709551616:=by
    have:=Nat.div_le_self base.toNat (16 ^ j)
    omega
   have hmod:=Nat.mod_lt (base.toNat / 16 ^ j) (show 0<16 by omega)
   rw [z06h _ hb,w64 (by omega) (by omega)]
   refine wp_must (by omega) ?_
   rw [z02v hmod]
   refine z04f hs (xs:=List.replicate (11-j) 0++z2n j base.toNat) (enc:=zi) (10-j) (by rw [List.length_append,List.length_replicate];omega) (z5p (base.toNat / 16 ^ j % 16)) λw' hs=>?_
   refine z1z (y:=((base.toNat / 16 ^ (j+1):Nat):Int)) ?_ ?_
   ·refine z1z (y:=10-((j+1:Nat):Int)) ?_ (by rw [w64 (by omega) (by omega)];omega)
    refine z0z (11-(j+1)) ⟨j+1,rfl,by omega,rfl,?_⟩
    have e:=z02d (10-j) (z5p (base.toNat / 16 ^ j % 16)) (z2n j base.toNat)
    rw [show 10-j+1=11-j by omega] at e
    rw [e,<- zhs] at hs
    rw [show 11-(j+1)=10-j by omega]
    exact hs
   ·rw [z79 _ (by omega)]
    show ((base.toNat / 16 ^ j / 16:Nat):Int)=_
    rw [Nat.div_div_eq_div_mul,<- Nat.pow_succ]
  clear hs
  rintro _ w hs
  refine zm ?_
  refine zy hs λw' hs=>?_
  refine zj ?_
  refine za hs ?_
  refine wp_must (by omega) ?_
  refine zw0 (bs:=z2n 11 base.toNat) hs ?_
  have h11:=z6k 11 base.toNat
  have s1:(pre++ByteArray.mk #[45]).size=pre.size+1:=ByteArray.size_append ..
  have s2:(ByteArray.mk (z2n 11 base.toNat).toArray).size=11:=h11
  refine wp_must (by omega) ?_
  have s3:(pre++ByteArray.mk #[45]++ByteArray.mk (z2n 11 base.toNat).toArray).size=pre.size+12:=by rw [ByteArray.size_append,s1,s2]
  refine wp_must (by omega) ?_
  refine wp_lt ?_
  refine zd ?_
  refine ⟨rfl,?_,hs.tail⟩
  congr 2
  apply zbr
  rw [z78]
  unfold bl
  simp only [ByteArray.data_append,Array.toList_append,List.append_assoc]
  rfl
theorem z07i {a d:Nat} (hd:d<16) (ha:a<576460752303423488):BitVec.toNat (BitVec.ofInt 64 ((a:Int)*16) ||| BitVec.ofInt 64 (d:Int))=16*a+d:=by
 have e:(a:Int)*16=((16*a:Nat):Int):=by omega
 rw [e,BitVec.ofInt_natCast,BitVec.ofInt_natCast,BitVec.toNat_or,BitVec.toNat_ofNat,BitVec.toNat_ofNat,Nat.mod_eq_of_lt (show 16*a<2 ^ 64 by omega),Nat.mod_eq_of_lt (show d<2 ^ 64 by omega)]
 exact (Nat.two_pow_add_eq_or_of_lt (i:=4) hd a).symm
theorem zgf:∀ {r:List UInt8} {x v k:Nat},z3b x r=some v->x<16 ^ k->v<16 ^ (k+r.length)
 | [],x,v,k,h,hx=>by simp [z3b] at h;subst h;simpa using hx
 | c::r,x,v,k,h,hx=>by
  unfold z3b at h
  cases hd:z5q c with
  | none=>rw [hd] at h;cases h
  | some d =>
   rw [hd] at h
   have hd:=(z039 hd).2
   have:=zgf (k:=k+1) h (by rw [Nat.pow_succ];omega)
   rw [List.length_cons,show k+(r.length+1)=k+1+r.length by omega]
   exact this
theorem zao (s:ByteArray) (i j:Nat):bl (s.extract i j)=((bl s).drop i).take (j-i):=by
 unfold bl
 rw [ByteArray.data_extract,Array.toList_extract,List.extract_eq_take_drop]
theorem zoe (n x:ByteArray) (hn:n.size<=1000) (hx:x.size<=100) {d_:Value} {seg gp:Value} {zz:Value} (pre:ByteArray) (hp:pre.size<=100) [hf:FocB l lg (.cells [d_,.string pre,seg,gp,zz].toArray T.a48) r] (hs:Sat w l) :
  Ret P F.a110 #[.pointer (some ⟨lg,0,none⟩),.string n,.string x] w λvs w'=>vs=[.int .i64 (((z19 pre n (bl x)).getD 0:Nat):Int),.bool (z19 pre n (bl x)).isSome]/\Sat w' l :=
 zmd _ n x <| by
  delta zzb AB AF AH AI AR AT Aa Ac Ai Al Am B3 B4 Bg Br
  refine zj ?_
  refine za hs ?_
  have e1:IntKind.wrap .i64 (((ByteArray.size pre:Nat):Int)+1)=((pre.size+1:Nat):Int):=by rw [w64 (by omega) (by omega)];omega
  have e2:IntKind.wrap .i64 (((pre.size+1:Nat):Int)+11)=((pre.size+12:Nat):Int):=by rw [w64 (by omega) (by omega)];omega
  have e3:IntKind.wrap .i64 (((pre.size+12:Nat):Int)+((ByteArray.size x:Nat):Int))=((pre.size+12+x.size:Nat):Int):=by rw [w64 (by omega) (by omega)];omega
  rw [e1]
  refine wp_lt ?_
  rw [e2,e3]
  refine wp_must ?_ ?_
  ·intro h
   have h:((n.size:Nat):Int)=((pre.size+12+x.size:Nat):Int):=by simpa using h
   omega
  have hb:z19 pre n (bl x)=if n.size=pre.size+12+x.size/\(bl n).drop (pre.size+12)=bl x then z3b 0 (((bl n).drop (pre.size+1)).take 11) else none:=by
   unfold z19
   rw [z1c,z1c,z1c]
  refine ze (λh=>?_) λh=>?_
  ·have:z19 pre n (bl x)=none:=by
    rw [hb,if_neg]
    rintro ⟨h1,h2⟩
    rcases h with h|h
    ·apply h;rw [h1]
    ·apply h
     rw [Int.toNat_natCast]
     apply zbr
     rw [zao,h2,List.take_of_length_le]
     rw [z1c];omega
   rw [this]
   exact ⟨rfl,rfl,hs⟩
  have h1:n.size=pre.size+12+x.size:=by
   have:¬ (((n.size:Nat):Int)≠((pre.size+12+x.size:Nat):Int)):=λhh=>h (.inl hh)
   omega
  have h2:(bl n).drop (pre.size+12)=bl x:=by
   have h3:ByteArray.extract n (pre.size+12) n.size=x:=by
    apply Decidable.byContradiction
    intro hh
    exact h (.inr (by rw [Int.toNat_natCast];exact hh))
   rw [<- h3,zao,List.take_of_length_le]
   rw [List.length_drop,z1c];omega
  rw [if_pos ⟨h1,h2⟩] at hb
  refine wp_must (by omega) ?_
  rw [Int.toNat_natCast,Int.toNat_natCast]
  have h4:(ByteArray.extract n (pre.size+1) (pre.size+12)).data.toList=((bl n).drop (pre.size+1)).take 11:=by
   have:=zao n (pre.size+1) (pre.size+12)
   rw [show pre.size+12-(pre.size+1)=11 by omega] at this
   exact this
  refine zlf hs λy w' hs=>?_
  rw [h4] at hs
  generalize hcs:((bl n).drop (pre.size+1)).take 11=cs at *
  have hcl:cs.length=11:=by rw [<- hcs,List.length_take,List.length_drop,z1c];omega
  have hl:=hs.slen y (xs:=cs) (enc:=zi)
  rw [hb]
  refine zf (λq w'=>∃ v:Nat,z3b 0 cs=some v/\q=((v:Int),())/\Sat w' l) ?_ ?_
  rotate_left
  ·rintro _ w2 ⟨v,hv,rfl,hs⟩
   refine wp_lt ?_
   rw [hv]
   exact ⟨rfl,rfl,hs⟩
  refine z02 (λm q w=>∃ i v:Nat,q=((v:Int),((i:Int),()))/\i<=11/\11-i=m/\z3b 0 (cs.take i)=some v/\Sat w (slc T.a59 1 y (cs.flatMap zi)::l)) 11 ⟨0,0,rfl,by omega,rfl,rfl,hs⟩ ?_
  clear hs
  rintro m _ w ⟨i,v,rfl,hi,hm,hv,hs⟩
  refine zm ?_
  refine ze (λhc=>?_) λhc=>?_
  rotate_left
  ·refine zh (zg ⟨v,?_,rfl,hs.tail⟩)
   rwa [List.take_of_length_le (by omega)] at hv
  have hil:i<cs.length:=by omega
  have hvl:=zgf (k:=0) hv (by omega)
  rw [List.length_take] at hvl
  have hvl2:v<1152921504606846976 / 16:=by
   have h5:16 ^ (0+min i cs.length)<=16 ^ 10:=Nat.pow_le_pow_right (by omega) (by omega)
   omega
  have hstep:z3b 0 (cs.take (i+1))=(z5q cs[i]).map λd=>16*v+d:=by
   rw [List.take_succ_eq_append_getElem hil,ze1,hv]
   show z3b v [cs[i]]=_
   unfold z3b
   cases z5q cs[i] <;> rfl
  have hcut:∀ j,z3b 0 (cs.take j)=none->z3b 0 cs=none:=λj hj=>by
   rw [<- List.take_append_drop j cs,ze1,hj];rfl
  refine z1y hs (xs:=cs) (enc:=zi) i hil ?_
  refine wp_lt ?_
  refine wp_lt ?_
  have hgo:∀ {w:World} (d:Nat),z5q cs[i]=some d->Sat w (slc T.a59 1 y (cs.flatMap zi)::l)->∃ i' v':Nat,((((16*v+d:Nat):Int),(((i+1:Nat):Int),())):Int × Int × Unit)=((v':Int),((i':Int),()))/\i'<=11/\11-i'=11-(i+1)/\z3b 0 (cs.take i')=some v'/\Sat w (slc T.a59 1 y (cs.flatMap zi)::l):=λd hd hs =>
   ⟨i+1,16*v+d,rfl,by omega,rfl,by rw [hstep,hd];rfl,hs⟩
  have hcb:=(cs[i]).toNat_lt
  have ei:IntKind.wrap .i64 ((i:Int)+1)=((i+1:Nat):Int):=by rw [w64 (by omega) (by omega)];omega
  refine zf (λq w'=>∃ d:Nat,z5q cs[i]=some d/\q=(((16*v+d:Nat):Int),())/\Sat w' (slc T.a59 1 y (cs.flatMap zi)::l)) ?_ ?_
  rotate_left
  ·rintro _ w2 ⟨d,hd,rfl,hs⟩
   rw [ei]
   exact z0z (11-(i+1)) (hgo d hd hs)
  have hor:∀ d:Nat,d<16->IntKind.wrap .i64 (((BitVec.toNat (BitVec.ofInt 64 (IntKind.wrap .i64 ((v:Int)*16)) ||| BitVec.ofInt 64 (d:Int)):Nat):Int))=((16*v+d:Nat):Int):=λd hd=>by
   rw [w64 (x:=(v:Int)*16) (by omega) (by omega),z07i hd (by omega),w64 (by omega) (by omega)]
  refine ze (λh5=>?_) λh5=>?_
  ·have hd:z5q cs[i]=some ((cs[i]).toNat-48):=by unfold z5q;rw [if_pos (by omega)]
   have e5:IntKind.wrap .i64 (IntKind.wrap .u8 ((((cs[i]).toNat:Nat):Int)-48))=(((cs[i]).toNat-48:Nat):Int):=by
    rw [wu8 (by omega) (by omega),w64 (by omega) (by omega)];omega
   rw [e5]
   refine z1z (y:=((16*v+((cs[i]).toNat-48):Nat):Int)) ?_ (hor _ (by omega))
   exact zg ⟨_,hd,rfl,hs⟩
  refine wp_lt ?_
  refine ze (λh6=>?_) λh6=>?_
  ·have hd:z5q cs[i]=some ((cs[i]).toNat-87):=by unfold z5q;rw [if_neg (by omega),if_pos (by omega)]
   have e5:IntKind.wrap .i64 (IntKind.wrap .u8 (IntKind.wrap .u8 ((((cs[i]).toNat:Nat):Int)-97)+10))=(((cs[i]).toNat-87:Nat):Int):=by
    rw [wu8 (x:=(((cs[i]).toNat:Nat):Int)-97) (by omega) (by omega),wu8 (by omega) (by omega),w64 (by omega) (by omega)];omega
   rw [e5]
   refine z1z (y:=((16*v+((cs[i]).toNat-87):Nat):Int)) ?_ (hor _ (by omega))
   exact zg ⟨_,hd,rfl,hs⟩
  ·have hd:z5q cs[i]=none:=by unfold z5q;rw [if_neg (by omega),if_neg (by omega)]
   have hno:z3b 0 cs=none:=hcut (i+1) (by rw [hstep,hd];rfl)
   rw [hno]
   exact zh (zh (zh ⟨rfl,rfl,hs.tail⟩))
theorem zjz (base fin:Int) (hb:0<=base/\base<9223372036854775808) (hf:0<=fin/\fin<9223372036854775808) (hs:Sat w l):Ret P F.a123 #[.int .i64 base,.int .i64 fin] w λvs w'=>∃ z:Sl,vs=[z.v]/\Sat w' (slc T.a59 1 z ((shL base fin).flatMap zi)::l) :=
 zmp base fin <| by
  delta zzn AR Am Az
  refine zai hs (enc:=zi) [(83:UInt8)] λz1 w' hs=>?_
  refine z8 (z4p base hb hs) λ_ w' hs=>?_
  obtain ⟨z2,rfl,hs⟩:=hs
  refine zb ?_
  refine z8 (z4p fin hf hs) λ_ w' hs=>?_
  obtain ⟨z3,rfl,hs⟩:=hs
  refine zb ?_
  refine zai hs (enc:=z0d) [z1,z2,z3] λz4 w' hs=>?_
  have u1_:=z1p base
  have u2_:=z1p fin
  have f1:FocR (slc T.a46 1 z4 ([z1,z2,z3].flatMap z0d)::slc T.a59 1 z3 ((uI fin).flatMap zi)::slc T.a59 1 z2 ((uI base).flatMap zi)::slc T.a59 1 z1 (([83]:List UInt8).flatMap zi)::l) z1 1 (([83]:List UInt8).flatMap zi):=inferInstance
  have f2:FocR (slc T.a46 1 z4 ([z1,z2,z3].flatMap z0d)::slc T.a59 1 z3 ((uI fin).flatMap zi)::slc T.a59 1 z2 ((uI base).flatMap zi)::slc T.a59 1 z1 (([83]:List UInt8).flatMap zi)::l) z2 1 ((uI base).flatMap zi):=inferInstance
  have f3:FocR (slc T.a46 1 z4 ([z1,z2,z3].flatMap z0d)::slc T.a59 1 z3 ((uI fin).flatMap zi)::slc T.a59 1 z2 ((uI base).flatMap zi)::slc T.a59 1 z1 (([83]:List UInt8).flatMap zi)::l) z3 1 ((uI fin).flatMap zi):=inferInstance
  refine z8 (zop z4 [(z1,[83]),(z2,uI base),(z3,uI fin)] (λp hp=>?_) (by show 3<=1000000;omega) hs) λ_ w' hs=>?_
  ·simp only [List.mem_cons,List.not_mem_nil,or_false] at hp
   rcases hp with rfl|rfl|rfl
   ·exact ⟨f1,by show (1:Nat)<=_;omega⟩
   ·exact ⟨f2,by show (uI base).length<=_;omega⟩
   ·exact ⟨f3,by show (uI fin).length<=_;omega⟩
  obtain ⟨z5,rfl,hs⟩:=hs
  refine zb ?_
  refine ⟨rfl,z5,rfl,?_⟩
  have e:([(z1,[83]),(z2,uI base),(z3,uI fin)]:List (Sl × List UInt8)).flatMap Prod.snd=shB base fin:=by simp [shB]
  rw [e] at hs
  have hs:Sat _ (slc T.a59 1 z5 ((shL base fin).flatMap zi)::_):=hs
  exact hs.sub
theorem zwn (x:Sl) (body:List UInt8) (base:Int) (hb:0<=base/\base<9223372036854775808) [hx:FocR l x 1 (body.flatMap zi)] (hn:body.length<=1000000000) (hs:Sat w l) :
  Ret P F.a124 #[x.v,.int .i64 base] w λvs w'=>∃ v:Int,vs=[.int .i64 v,.bool (z5c base body).isSome]/\(∀ f,z5c base body=some f->v=f)/\Sat w' l :=
 zmq x base <| by
  delta zzo AF AY AZ Aa Ac Ah Ai Al Am An Ax
  refine z8 (zuz x body hn hs) λ_ w' hs=>?_
  obtain ⟨p,rfl,hs⟩:=hs
  refine zb ?_
  refine z8 (zgb (p:=p) hs) λ_ _ hs=>?_
  obtain ⟨rfl,hs⟩:=hs
  refine zb ?_
  refine z8 (zh0 (p:=p) hs) λ_ _ hs=>?_
  obtain ⟨rfl,hs⟩:=hs
  refine zb ?_
  refine z8 (zh0 (p:=p) hs) λ_ _ hs=>?_
  obtain ⟨rfl,hs⟩:=hs
  refine zb ?_
  refine wp_lt ?_
  refine wp_lt ?_
  refine wp_lt ?_
  refine z8 (zu9 (p:=p) hs) λ_ w' hs=>?_
  obtain ⟨e,rfl,he,hs⟩:=hs
  refine zb ?_
  have eh:z5c base body=if (z0k (z0k (z0t (some body)).2).2).2=some []/\(z0t (some body)).1=83/\((z0k (z0t (some body)).2).1:Int)=base/\base<=1099511627776/\(z0k (z0k (z0t (some body)).2).2).1<=1099511627776/\((z0k (z0k (z0t (some body)).2).2).1=0\/base<(z0k (z0k (z0t (some body)).2).2).1) then some ((z0k (z0k (z0t (some body)).2).2).1:Int) else none:=rfl
  generalize z5c base body=HS at eh he ⊢
  generalize z0t (some body)=k at eh he ⊢
  generalize z0k k.2=m at eh he ⊢
  generalize z0k m.2=q at eh he ⊢
  have ew:IntKind.wrap .u64 base=base:=zlg (by omega) (by omega)
  rw [ew]
  refine ze (λh=>?_) λh=>?_
  ·have:HS=none:=by
    rw [eh,if_neg]
    rintro ⟨h1,h2,h3,h4,h5,-⟩
    have h6:=he.2 h1
    rcases h with (((h|h)|h)|h)|h
    ·exact h h6
    ·apply h;rw [h2];rfl
    ·exact h h3
    ·omega
    ·omega
   rw [this]
   exact ⟨rfl,0,rfl,(λf hf=>by cases hf),hs⟩
  have h1:q.2=some []:=he.1 (Decidable.byContradiction λhh=>h (.inl (.inl (.inl (.inl hh)))))
  have h2:k.1=83:=by
   have:((k.1:Nat):Int)=83:=Decidable.byContradiction λhh=>h (.inl (.inl (.inl (.inr hh))))
   omega
  have h3:((m.1:Nat):Int)=base:=Decidable.byContradiction λhh=>h (.inl (.inl (.inr hh)))
  have h4:base<=1099511627776:=by
   apply Decidable.byContradiction;intro hh;exact h (.inl (.inr (by omega)))
  have h5:q.1<=1099511627776:=by
   apply Decidable.byContradiction;intro hh;exact h (.inr (by omega))
  rw [w64 (by omega) (by omega)]
  refine wp_lt ?_
  refine wp_lt ?_
  refine ⟨rfl,((q.1:Nat):Int),?_,?_,hs⟩
  ·congr 2
   rw [eh]
   by_cases h6:q.1=0\/base<q.1
   ·rw [if_pos ⟨h1,h2,h3,h4,h5,h6⟩]
    have:(((q.1:Nat):Int) == 0 || decide (((q.1:Nat):Int)>base))=true:=by
     rw [Bool.or_eq_true,beq_iff_eq,decide_eq_true_eq];omega
    rw [this];rfl
   ·rw [if_neg λhh=>h6 hh.2.2.2.2.2]
    have:(((q.1:Nat):Int) == 0 || decide (((q.1:Nat):Int)>base))=false:=by
     rw [Bool.or_eq_false_iff,beq_eq_false_iff_ne,decide_eq_false_iff_not];omega
    rw [this];rfl
  ·intro f hf
   rw [eh] at hf
   split at hf
   ·exact Option.some.inj hf
   ·cases hf
theorem zrj (x:Int) (rs:List RecM) (i:Nat) (hi:i<rs.length):z5f x (rs.take (i+1))=max (z5f x (rs.take i)) rs[i].time:=by
 rw [List.take_succ_eq_append_getElem hi]
 unfold z5f
 rw [List.foldl_append]
 rfl
theorem zws (b:BatM) [hb:FocR l b.x 4 (b.rs.flatMap z00)] (hlen:b.rs.length<=1000000000) (hs:Sat w l):Ret P F.a125 #[.agg (zo b).toArray] w λvs w'=>vs=[.int .i64 (z2v b)]/\Sat w' l :=
 zmr b.base b.pid b.epoch b.seq b.kind b.time b.x <| by
  delta zzp AB AD AF Aa Ac Ad Ae Ai Am Ap Aq BH BI Bg Bp Br
  have hl:=hs.slen b.x (xs:=b.rs) (enc:=z00)
  refine zn hs λa0 w' hs=>?_
  refine za hs ?_
  refine zf (λq w'=>q=(z5f (-1) b.rs,())/\Sat w' (pt a0 (.cells (cB b) T.a0)::l)) ?_ ?_
  ·refine z02 (λm v w=>∃ i:Nat,v=(z5f (-1) (b.rs.take i),((i:Int),()))/\i<=b.rs.length/\b.rs.length-i=m/\Sat w (pt a0 (.cells (cB b) T.a0)::l)) b.rs.length ⟨0,rfl,by omega,rfl,hs⟩ ?_
   clear hs
   rintro m _ w ⟨i,rfl,hi,hm,hs⟩
   refine zm ?_
   refine ze (λhc=>?_) λhc=>?_
   rotate_left
   ·refine zh (zg ⟨?_,hs⟩)
    rw [List.take_of_length_le (by omega)]
   have hil:i<b.rs.length:=by omega
   refine z32 hs (xs:=b.rs) (enc:=z00) i hil ?_
   refine zt hs λc w' hs=>?_
   refine zu hs λw' hs=>?_
   refine za hs ?_
   refine z1z (y:=z5f (-1) (b.rs.take (i+1))) ?_ (by rw [zrj _ _ _ hil];split <;> omega)
   rw [wS (i:=i) (by omega)]
   exact z0z (b.rs.length-(i+1)) ⟨i+1,rfl,by omega,rfl,hs.sub⟩
  clear hs
  rintro _ w ⟨rfl,hs⟩
  refine zm ?_
  refine za hs ?_
  refine zf (λq w'=>q=(z2v b,())/\Sat w' (pt a0 (.cells (cB b) T.a0)::l)) ?_ ?_
  ·unfold z2v
   refine ze (λh=>?_) λh=>?_
   ·refine za hs ?_
    refine wp_lt ?_
    refine zg ⟨?_,hs⟩
    rw [if_pos (List.length_eq_zero_iff.1 (by omega))]
   ·refine zg ⟨?_,hs⟩
    rw [if_neg (by rintro h0;rw [h0] at hl;simp at hl;omega)]
  rintro _ w2 ⟨rfl,hs⟩
  refine wp_lt ?_
  exact ⟨rfl,rfl,hs.tail⟩
theorem zk5 (seg gap:Int) (hs:Sat w l):Ret P F.a126 #[.agg #[.int .i64 seg,.int .i64 gap]] w λvs w'=>vs=[.bool (decide ((64<=seg/\seg<=4194304)/\(1<=gap/\gap<=4194304)))]/\Sat w' l :=
 zms seg gap <| by
  delta zzq Al Am Ap Aq Ar Au
  refine zn hs λa0 w' hs=>?_
  refine za hs ?_
  refine za hs ?_
  refine za hs ?_
  refine za hs ?_
  refine wp_lt ?_
  refine ⟨rfl,?_,hs.tail⟩
  congr 2
  rw [Bool.eq_iff_iff,decide_eq_true_iff]
  simp only [Bool.and_eq_true,decide_eq_true_eq]
  omega
theorem zeb (s:ByteArray) (hs:Sat w l):Ret P F.a122 #[.string s] w λvs w'=>vs=[.bool (z30 s)]/\Sat w' l :=
 zmo s <| by
  delta zzm AA AB AF AR Aa Ai Am Ay B3 B4
  unfold z30
  refine ze (λh=>?_) λh=>?_
  ·rw [decide_eq_false (by omega),Bool.false_and]
   exact ⟨rfl,rfl,hs⟩
  rw [decide_eq_true (by omega),Bool.true_and]
  refine zlf hs λx w' hs=>?_
  have hl:=hs.slen x (xs:=bl s) (enc:=zi)
  have hsz:=z1c s
  refine zf (λ_ w'=>((bl s).all λc=>(97<=c.toNat && c.toNat<=122) || (48<=c.toNat && c.toNat<=57))=true/\Sat w' l) ?_ ?_
  rotate_left
  ·rintro _ w2 ⟨h2,hs⟩
   rw [h2]
   exact ⟨rfl,rfl,hs⟩
  refine z02 (λm v w=>∃ i:Nat,v=((i:Int),())/\i<=(bl s).length/\(bl s).length-i=m/\(((bl s).take i).all λc=>(97<=c.toNat && c.toNat<=122) || (48<=c.toNat && c.toNat<=57))=true/\Sat w (slc T.a59 1 x ((bl s).flatMap zi)::l)) (bl s).length ⟨0,rfl,by omega,rfl,rfl,hs⟩ ?_
  clear hs
  rintro m _ w ⟨i,rfl,hi,hm,hall,hs⟩
  refine zm ?_
  refine ze (λhc=>?_) λhc=>?_
  rotate_left
  ·refine zh (zg ⟨?_,hs.tail⟩)
   rwa [List.take_of_length_le (by omega)] at hall
  have hil:i<(bl s).length:=by omega
  refine z1y hs (xs:=bl s) (enc:=zi) i hil ?_
  refine wp_lt ?_
  have hstep:(((bl s).take (i+1)).all λc=>(97<=c.toNat && c.toNat<=122) || (48<=c.toNat && c.toNat<=57))=((97<=(bl s)[i].toNat && (bl s)[i].toNat<=122) || (48<=(bl s)[i].toNat && (bl s)[i].toNat<=57)):=by
   rw [List.take_succ_eq_append_getElem hil,List.all_append,hall]
   simp
  refine z0p (λh3=>?_) λh3=>?_
  ·refine zh (zh ⟨rfl,?_,hs.tail⟩)
   have hf:((97<=(bl s)[i].toNat && (bl s)[i].toNat<=122) || (48<=(bl s)[i].toNat && (bl s)[i].toNat<=57))=false:=by
    rw [Bool.eq_false_iff]
    intro hh
    simp only [Bool.not_eq_true',Bool.or_eq_false_iff,Bool.and_eq_false_iff,decide_eq_false_iff_not] at h3
    simp only [Bool.or_eq_true,Bool.and_eq_true,decide_eq_true_eq] at hh
    omega
   have:((bl s).all λc=>(97<=c.toNat && c.toNat<=122) || (48<=c.toNat && c.toNat<=57))=false:=by
    rw [<- List.take_append_drop (i+1) (bl s),List.all_append,hstep,hf]
    rfl
   rw [this]
  ·rw [wS (i:=i) (by omega)]
   refine z0z ((bl s).length-(i+1)) ⟨i+1,rfl,by omega,rfl,?_,hs⟩
   rw [hstep]
   simp only [Bool.not_eq_false',Bool.or_eq_true,Bool.and_eq_true,decide_eq_true_eq] at h3
   simp only [Bool.or_eq_true,Bool.and_eq_true,decide_eq_true_eq]
   omega
end
instance (priority:=low) AddrIs.adds {a:Addr} {b off n:Nat} [h:AddrIs a b off]:AddrIs (a.add n) b (off+n):=⟨by rw [h.ok,z3y]⟩
section
variable {P:Program} {w:World} {Q:Post} {S:World->Prop}
theorem zro {g:Prop} {o:Option Addr} {f:Addr->Prog} (h:(f ⟨0,0,none⟩).wp P S w Q) (hg:¬ g):(Prog.ex [.adr] (c1 λx=>g->o=some x) (u1 f)).wp P S w Q:=⟨(⟨0,0,none⟩,()),λh=>absurd h hg,h⟩
theorem zrn {g:Prop} {m:Sem Value} {p:Pr} {f:p.D->Prog} (x:p.D) (hg:¬ g) (h:(f x).wp P S w Q):(Prog.read g m (.one (.one p)) (u1 f)).wp P S w Q:=⟨(x,()),λh=>absurd h hg,h⟩
end
def SegA.add (s:SegA) (bs:List BatM):SegA:=⟨s.base,s.fin,s.bs++bs.map BatM.p⟩
theorem zg7 (s:SegA):s.add []=s:=by unfold SegA.add;simp
theorem zob (s:SegA) (a b:List BatM):(s.add a).add b=s.add (a++b):=by unfold SegA.add;simp
theorem zjv (bs:List BatM):(bs.map BatM.p).flatMap frL=bs.flatMap frL:=by
 rw [List.flatMap_map];rfl
theorem z6j (s:SegA) (bs:List BatM):(s.add bs).file=s.file++bs.flatMap frL:=by
 unfold SegA.file SegA.add
 simp only [List.flatMap_append,zjv,List.append_assoc]
theorem z01e (gap:Int) (s:SegA) (b:BatM):(s.add [b]).idx gap=(z9m (s.idx gap) b.base (s.file.length:Nat) (z2v b)).2:=by
 unfold SegA.idx SegA.add
 show zav (zc7 gap) _ (s.bs++[b.p])=_
 rw [zc8,z2d]
 rw [show ((((shL s.base s.fin).length+(s.bs.flatMap frL).length:Nat)):Int)=((shL s.base s.fin).length:Int)+((s.bs.flatMap frL).length:Int) by omega]
 rfl
theorem z69 {α β:Type} (f:α->β) (l:List α):(l.map f).getLast? = l.getLast?.map f:=by simp
section
variable {w:World} {l r:List HP} {lg:Nat} {M:LogM} {A:LogA} {gap:Int} {a:Nat} {t:SegM}
theorem z023 [hf:Fo l (z0m gap) a t r] (hs:Sat w l):Ret P F.a128 #[.pointer (some ⟨a,0,none⟩)] w λvs w'=>vs=[.int .i64 t.s.reach]/\Sat w' (z0m gap a t::r) :=
 zmu _ <| by
  delta zzs AI AL AN Aa Ac Am Aq
  have hs:=z3l (hs.perm hf.perm)
  refine zy hs λw' hs=>?_
  refine zj ?_
  refine za hs ?_
  refine zj ?_
  refine za hs ?_
  refine zj ?_
  refine za hs ?_
  refine z1z (y:=t.s.reach) ?_ (by unfold SegA.reach;split <;> split <;> omega)
  refine zd ?_
  exact ⟨rfl,rfl,z2h t hs⟩
theorem zka (base fin:Int) (hb:0<=base/\base<9223372036854775808) (hf':0<=fin/\fin<9223372036854775808) [hf:Fo l lgQ lg M r] (hs:Sat w l) :
  Ret P F.a119 #[.pointer (some ⟨lg,0,none⟩),.int .i64 base,.int .i64 fin] w λvs w'=>∃ a ix,vs=[.pointer (some ⟨a,0,none⟩)]/\Sat w' (z0m M.gap a ⟨ix,⟨base,fin,[]⟩⟩::lgQ lg M::r) :=
 zmm _ base fin <| by
  delta zzk AB AI Aa Ab Ac Ah Am Ap Aq Av Az
  obtain ⟨hok,hs⟩:=z2k (hs.perm hf.perm)
  refine zj ?_
  refine za hs ?_
  refine z8 (z03c M.gap hok.gap hs) λ_ w' hs=>?_
  obtain ⟨ix,rfl,hs⟩:=hs
  refine zb ?_
  refine wp_lt ?_
  refine z8 (zjz base fin hb hf' hs) λ_ w' hs=>?_
  obtain ⟨z,rfl,hs⟩:=hs
  refine zb ?_
  have hl:=hs.slen z (xs:=shL base fin) (enc:=zi)
  refine zn hs λa w' hs=>?_
  refine ⟨rfl,a,ix,rfl,?_⟩
  have hs:Sat w' (pt a (.cells #[.pointer (some ⟨ix,0,none⟩),.int .i64 base,.int .i64 fin,.int .i64 (z0a []),.int .i64 (z1a (-1) []),.int .i64 ((SegA.file ⟨base,fin,[]⟩).length:Nat)] T.a49)::slc T.a59 1 z ((shL base fin).flatMap zi)::z26 ix ((SegA.mk base fin []).idx M.gap)::pt lg (.cells #[.pointer (some ⟨M.d,0,none⟩),.string M.pre,.int .i64 M.seg,.int .i64 M.gap,.slice M.z.a M.z.len M.z.cap] T.a48)::slc T.a28 1 M.z ((M.SM.map Prod.fst).flatMap z1j)::HP.all (M.SM.map λt=>z0m M.gap t.1 t.2)::r):=by
   have e:(SegA.file ⟨base,fin,[]⟩).length=z.len:=by rw [z2d,hl];simp
   rw [e]
   exact hs
  have hs:=z1h M hok (hs.pick [3,3,3])
  exact z2h ⟨ix,⟨base,fin,[]⟩⟩ (hs.sub)
theorem zvs (b:BatM) (hv:z05 b=0) [hf:Fo l (z0m gap) a t r] [hb:FocR r b.x 4 (b.rs.flatMap z00)] (hlen:t.s.file.length+(frL b).length<=1000000000) (hs:Sat w l) :
  Ret P F.a129 #[.pointer (some ⟨a,0,none⟩),.agg (zo b).toArray,.int .i64 ((frL b).length:Nat)] w λvs w'=>vs=[]/\Sat w' (z0m gap a ⟨t.ix,t.s.add [b]⟩::r) :=
 zmv _ b.base b.pid b.epoch b.seq b.kind b.time b.x _ <| by
  delta zzt AD AE AF AI AJ AL AN AV Aa Ac Ah Am Ap Aq Ax
  obtain ⟨h64,-⟩:=z2z hv
  obtain ⟨-,-,⟨-,hba,-⟩,-,-⟩:=z11 b hv
  have hs:=z3l (hs.perm hf.perm)
  refine zn hs λa0 w' hs=>?_
  refine zk hs ?_
  refine z8 (zws b (by omega) hs) λ_ w' hs=>?_
  obtain ⟨rfl,hs⟩:=hs
  refine zb ?_
  refine wp_lt ?_
  refine zy hs λw' hs=>?_
  refine zj ?_
  refine za hs ?_
  refine za hs ?_
  refine zj ?_
  refine za hs ?_
  refine z8 (z03l (b:=t.ix) b.base ((t.s.file.length:Nat):Int) (z2v b) (by omega) (by omega) hs) λ_ w' hs=>?_
  obtain ⟨rfl,hs⟩:=hs
  refine zb ?_
  refine zd ?_
  refine zk hs ?_
  refine z8 (z8m b hs) λ_ w' hs=>?_
  obtain ⟨rfl,hs⟩:=hs
  refine zb ?_
  refine zj ?_
  refine z07 hs λw' hs=>?_
  refine zj ?_
  refine za hs ?_
  refine zj ?_
  refine z07 hs λw' hs=>?_
  refine zj ?_
  refine za hs ?_
  refine zj ?_
  rw [w64 (by omega) (by omega)]
  refine z07 hs λw' hs=>?_
  refine ⟨rfl,rfl,?_⟩
  have e1:z1m b=z0a (t.s.add [b]).bs:=by
   show _=z0a (t.s.bs++[b.p])
   rw [z3c]
   unfold z1m
   rw [if_neg (by rw [hv];simp)]
   rfl
  have e2:(if z2v b>z1a (-1) t.s.bs then z2v b else z1a (-1) t.s.bs)=z1a (-1) (t.s.add [b]).bs:=by
   show _=z1a (-1) (t.s.bs++[b.p])
   rw [zfe]
   show _=max _ (z2v b)
   split <;> omega
  have e3:((t.s.file.length:Nat):Int)+((frL b).length:Nat)=(((t.s.add [b]).file.length:Nat):Int):=by
   rw [z6j,List.length_append];simp
  rw [e1,e2,e3,<- z01e] at hs
  have hs:Sat w' (pt a (.cells #[.pointer (some ⟨t.ix,0,none⟩),.int .i64 (t.s.add [b]).base,.int .i64 (t.s.add [b]).fin,.int .i64 (z0a (t.s.add [b]).bs),.int .i64 (z1a (-1) (t.s.add [b]).bs),.int .i64 ((t.s.add [b]).file.length:Nat)] T.a49)::_):=hs
  refine z2h ⟨t.ix,t.s.add [b]⟩ ?_
  exact hs.sub
theorem zfd [hf:Fo l lgQ lg M r] (hlen:M.SM.length<=1000000000) (hs:Sat w l):Ret P F.a114 #[.pointer (some ⟨lg,0,none⟩)] w λvs w'=>vs=[.pointer (zxi (M.SM.getLast?.map Prod.fst))]/\Sat w' (lgQ lg M::r) :=
 zmh _ <| by
  delta zzf AB AF AI AJ AL AN Ah Ai Am Bp
  obtain ⟨hok,hs⟩:=z2k (hs.perm hf.perm)
  have hl:=hs.slen M.z (xs:=M.SM.map Prod.fst) (enc:=z1j)
  rw [List.length_map] at hl
  refine zj ?_
  refine za hs ?_
  refine ze (λh=>?_) λh=>?_
  ·have:M.SM=[]:=List.length_eq_zero_iff.1 (by omega)
   rw [this]
   rw [this] at hs
   have hs:=z1h M hok (by rw [this];exact hs)
   exact ⟨rfl,rfl,hs⟩
  have h0:0<M.SM.length:=by omega
  refine zy hs λw' hs=>?_
  refine zj ?_
  refine za hs ?_
  refine zj ?_
  refine za hs ?_
  rw [w64 (by omega) (by omega)]
  refine z1y hs (xs:=M.SM.map Prod.fst) (enc:=z1j) (M.SM.length-1) (by rw [List.length_map];omega) ?_
  refine zd ?_
  refine ⟨rfl,?_,z1h M hok hs⟩
  have e:M.SM.getLast?.map Prod.fst=some ((M.SM.map Prod.fst)[M.SM.length-1]'(by rw [List.length_map];omega)):=by
   rw [List.getLast?_eq_getElem?,List.getElem?_eq_getElem (by omega)]
   simp
  rw [e]
  rfl
theorem z92 {SM:List (Nat × SegM)} (hs:Sat w (HP.all (SM.map λt=>z0m gap t.1 t.2)::l)) {i:Nat} (hi:i<SM.length) :
  Sat w (z0m gap SM[i].1 SM[i].2::HP.all ((SM.eraseIdx i).map λt=>z0m gap t.1 t.2)::l):=by
 exact ((hs.all_perm ((z6g hi).map _))).all_cons
theorem z6n {SM:List (Nat × SegM)} {i:Nat} (hi:i<SM.length) (hs:Sat w (z0m gap SM[i].1 SM[i].2::HP.all ((SM.eraseIdx i).map λt=>z0m gap t.1 t.2)::l)) :
  Sat w (HP.all (SM.map λt=>z0m gap t.1 t.2)::l):=by
 have h1:Sat w (HP.all ((SM[i]::SM.eraseIdx i).map λt=>z0m gap t.1 t.2)::l):=hs.all_put
 exact h1.all_perm ((z6g hi).symm.map _)
theorem zgd [hf:Fo l lgQ lg M r] (hs:Sat w l):Ret P F.a104 #[.pointer (some ⟨lg,0,none⟩)] w λvs w'=>vs=[.int .i64 (z1t M.l)]/\Sat w' (lgQ lg M::r) :=
 zm7 _ <| by
  delta zz5 AB AI AJ AO Aa Ac Ai Am Aq Bp Bx
  obtain ⟨hok,hs⟩:=z2k (hs.perm hf.perm)
  have hl:=hs.slen M.z (xs:=M.SM.map Prod.fst) (enc:=z1j)
  rw [List.length_map] at hl
  refine z0c ?_
  refine za hs ?_
  refine ze (λh=>?_) λh=>?_
  ·have h:M.SM=[]:=by
    rcases h with h|h
    ·cases h
    ·exact List.length_eq_zero_iff.1 (by omega)
   have e:z1t M.l=0:=by unfold LogM.l;rw [h];rfl
   rw [e]
   exact ⟨rfl,rfl,z1h M hok hs⟩
  have h0:0<M.SM.length:=by
   apply Nat.pos_of_ne_zero
   intro h1
   exact h (.inr (by omega))
  refine zj ?_
  refine za hs ?_
  refine z7l hs (xs:=M.SM.map Prod.fst) (enc:=z1j) 0 (by rw [List.length_map];exact h0) ?_ rfl rfl
  have e0:(M.SM.map Prod.fst)[0]'(by rw [List.length_map];exact h0)=M.SM[0].1:=by simp
  rw [e0]
  refine zj ?_
  have hs:=z3l (z92 (hs.pick [2]) h0)
  refine za hs ?_
  refine wp_lt ?_
  have e:z1t M.l=M.SM[0].2.s.base:=by
   obtain ⟨x,xs,hx⟩:=List.exists_cons_of_length_pos h0
   simp only [LogM.l,hx,List.map_cons,z1t,List.getElem_cons_zero]
  rw [e]
  refine ⟨rfl,rfl,?_⟩
  have hs:=z6n h0 (z2h M.SM[0].2 hs)
  exact z1h M hok (hs.pick [1,1])
theorem zab [hf:Fo l lgQ lg M r] (hlen:M.SM.length<=1000000000) (hs:Sat w l):Ret P F.a105 #[.pointer (some ⟨lg,0,none⟩)] w λvs w'=>vs=[.int .i64 (zq M.l)]/\Sat w' (lgQ lg M::r) :=
 zm8 _ <| by
  delta zz6 AB AO Aa Ac Ah Ai Am An Ax Bx
  obtain ⟨hok,hs⟩:=z2k (hs.perm hf.perm)
  have hl:=hs.slen M.z (xs:=M.SM.map Prod.fst) (enc:=z1j)
  rw [List.length_map] at hl
  refine z0c ?_
  refine za hs ?_
  refine ze (λh=>?_) λh=>?_
  ·have h:M.SM=[]:=by
    rcases h with h|h
    ·cases h
    ·exact List.length_eq_zero_iff.1 (by omega)
   have e:zq M.l=0:=by unfold LogM.l;rw [h];rfl
   rw [e]
   exact ⟨rfl,rfl,z1h M hok hs⟩
  have h0:0<M.SM.length:=by
   apply Nat.pos_of_ne_zero
   intro h1
   exact h (.inr (by omega))
  have hs:=z1h M hok hs
  refine z8 (zfd (lg:=lg) hlen hs) λ_ w' hs=>?_
  obtain ⟨rfl,hs⟩:=hs
  refine zb ?_
  have e1:M.SM.getLast? = some (M.SM[M.SM.length-1]'(by omega)):=by
   rw [List.getLast?_eq_getElem?,List.getElem?_eq_getElem (by omega)]
  rw [e1]
  obtain ⟨-,hs⟩:=z2k hs
  have hs:=z92 (hs.pick [2]) (show M.SM.length-1<M.SM.length by omega)
  refine z8 (z023 (gap:=M.gap) (a:=M.SM[M.SM.length-1].1) hs) λ_ w' hs=>?_
  obtain ⟨rfl,hs⟩:=hs
  refine zb ?_
  refine wp_lt ?_
  have e:zq M.l=(M.SM[M.SM.length-1]'(by omega)).2.s.reach:=by
   unfold LogM.l zq
   rw [z69,e1]
   rfl
  rw [e]
  have hs:=z6n (show M.SM.length-1<M.SM.length by omega) hs
  exact ⟨rfl,rfl,z1h M hok (hs.pick [1,1])⟩
def z6h (seg:Int) (l:List SegA) (n:Nat):Bool:=match l.getLast? with
 | none=>false
 | some s=>decide (z0a s.bs=0) || decide (((s.file.length+n:Nat):Int)<=seg)
theorem z033 (n:Nat) (hn:n<=1000000000) [hf:Fo l lgQ lg M r] (hlen:M.SM.length<=1000000000) (hfl:∀ s ∈ M.l,s.file.length<=1000000000) (hs:Sat w l):Ret P F.a113 #[.pointer (some ⟨lg,0,none⟩),.int .i64 (n:Int)] w λvs w'=>vs=[.bool (z6h M.seg M.l n)]/\Sat w' (lgQ lg M::r) :=
 zmg _ _ <| by
  delta zze AF AL AN AO Ah Al Am An Ar
  refine z8 (zfd (lg:=lg) hlen hs) λ_ w' hs=>?_
  obtain ⟨rfl,hs⟩:=hs
  refine zb ?_
  refine zy hs λw' hs=>?_
  by_cases h0:M.SM=[]
  ·have e:z6h M.seg M.l n=false:=by unfold LogM.l z6h;rw [h0];rfl
   rw [e,h0]
   refine zro ?_ (λh=>by cases h)
   refine zrn (0:Int) (λh=>by cases h) ?_
   refine zro ?_ (λh=>by cases h.1)
   refine zrn (0:Int) (λh=>by cases h.1) ?_
   refine zro ?_ (λh=>by cases h.1)
   refine zrn (0:Int) (λh=>by cases h.1) ?_
   refine wp_lt ?_
   refine zd ?_
   exact ⟨rfl,rfl,hs⟩
  have hp:=List.length_pos_iff.2 h0
  have e1:M.SM.getLast? = some (M.SM[M.SM.length-1]'(by omega)):=by
   rw [List.getLast?_eq_getElem?,List.getElem?_eq_getElem (by omega)]
  have e:z6h M.seg M.l n=(decide (z0a (M.SM[M.SM.length-1]'(by omega)).2.s.bs=0) || decide ((((M.SM[M.SM.length-1]'(by omega)).2.s.file.length+n:Nat):Int)<=M.seg)):=by
   unfold LogM.l z6h
   rw [z69,e1]
   rfl
  have hfl':=hfl _ (List.mem_map.2 ⟨_,List.getElem_mem (show M.SM.length-1<M.SM.length by omega),rfl⟩)
  rw [e,e1]
  obtain ⟨hok,hs⟩:=z2k hs
  have hs:=z3l (z92 (hs.pick [2]) (show M.SM.length-1<M.SM.length by omega))
  refine z0c ?_
  refine za hs ?_
  refine z0c ?_
  refine za hs ?_
  refine z0c ?_
  refine za hs ?_
  rw [w64 (by omega) (by omega)]
  refine wp_lt ?_
  refine zd ?_
  have hs:=z6n (show M.SM.length-1<M.SM.length by omega) (z2h (M.SM[M.SM.length-1]'(by omega)).2 hs)
  refine ⟨rfl,?_,z1h M hok (hs.pick [1,1])⟩
  rfl
theorem zys (a:Nat) (t:SegM) {r0:List HP} [hf:Fo l lgQ lg M r0] [hf2:Fo r0 (z0m M.gap) a t r] (hlen:M.SM.length<=1000000000) (hs:Sat w l) :
  Ret P F.a117 #[.pointer (some ⟨lg,0,none⟩),.pointer (some ⟨a,0,none⟩)] w λvs w'=>∃ z:Sl,vs=[]/\Sat w' (lgQ lg { M with z:=z,SM:=M.SM++[(a,t)] }::r) :=
 zmk _ _ <| by
  delta zzi AI AR AV Ah Am Bp
  obtain ⟨hok,hs⟩:=z2k (hs.perm (hf.perm.trans (.cons _ hf2.perm)))
  have hl:=hs.slen M.z (xs:=M.SM.map Prod.fst) (enc:=z1j)
  refine zj ?_
  refine za hs ?_
  refine z6b (xs:=M.SM.map Prod.fst) (enc:=z1j) (y:=a) hs (λz w' hs=>?_) rfl (by rw [List.length_map];omega)
  refine zj ?_
  refine z07 hs λw' hs=>?_
  refine ⟨rfl,z,rfl,?_⟩
  have hs:Sat w' (pt lg (.cells #[.pointer (some ⟨M.d,0,none⟩),.string M.pre,.int .i64 M.seg,.int .i64 M.gap,.slice z.a z.len z.cap] T.a48)::slc T.a28 1 z ((M.SM.map Prod.fst++[a]).flatMap z1j)::HP.all (M.SM.map λt=>z0m M.gap t.1 t.2)::z0m M.gap a t::r):=hs
  have h1:Sat w' (HP.all (((a,t)::M.SM).map λt=>z0m M.gap t.1 t.2)::pt lg (.cells #[.pointer (some ⟨M.d,0,none⟩),.string M.pre,.int .i64 M.seg,.int .i64 M.gap,.slice z.a z.len z.cap] T.a48)::slc T.a28 1 z ((M.SM.map Prod.fst++[a]).flatMap z1j)::r):=(hs.pick [3,2]).all_put
  have h2:=h1.all_perm ((List.perm_append_comm (l₁:=[(a,t)]) (l₂:=M.SM)).map λt=>z0m M.gap t.1 t.2)
  refine z1h { M with z:=z,SM:=M.SM++[(a,t)] } hok ?_
  have e:(M.SM++[(a,t)]).map Prod.fst=M.SM.map Prod.fst++[a]:=by simp
  show Sat w' (pt lg _::slc T.a28 1 z (((M.SM++[(a,t)]).map Prod.fst).flatMap z1j)::HP.all ((M.SM++[(a,t)]).map λt=>z0m M.gap t.1 t.2)::r)
  rw [e]
  exact h2.pick [1,1]
end
theorem z0b.mem:∀ {n:Int} {l:List SegA},z0b n l->∀ s ∈ l,SegOk s/\n<=s.base
 | _,a::l,⟨h1,h2,h3⟩,s,hs=>by
  rcases List.mem_cons.1 hs with rfl|hs
  ·exact ⟨h2,h1⟩
  ·have:=h3.mem s hs
   exact ⟨this.1,by omega⟩
def z0j (pre:ByteArray) (l:List SegA) (D:DiskA):Int × DiskA:=match l.getLast? with
 | none=>(0,D)
 | some s=>z1n D [zl pre s.base zv]
def BatM.to (b:BatM) (n:Int):BatM:=⟨n,b.pid,b.epoch,b.seq,b.kind,b.time,b.x,b.rs⟩
def zx:Int->List BatM->Int × List BatM
 | _,[]=>(0,[])
 | n,b::bs=>if z05 (b.to n)≠0 then (z05 (b.to n),[]) else if (zx (n+zp b) bs).1≠0 then ((zx (n+zp b) bs).1,[]) else (0,b.to n::(zx (n+zp b) bs).2)
def frP (p:Sl × List UInt8):HP:=slc T.a59 1 p.1 (p.2.flatMap zi)
theorem zcf:∀ {bs:List BatM} {n:Int},(zx n bs).1=0->(zx n bs).2.length=bs.length/\(∀ b ∈ (zx n bs).2,z05 b=0/\∃ c ∈ bs,b.x=c.x/\b.rs=c.rs)/\∀ b,(zx n bs).2.head? = some b->b.base=n
 | [],n,_=>⟨rfl,(λ_ h=>by cases h),(λ_ h=>by cases h)⟩
 | b::bs,n,h=>by
  unfold zx at h ⊢
  by_cases h1:z05 (b.to n)≠0
  ·rw [if_pos h1] at h;exact absurd h h1
  rw [if_neg h1] at h ⊢
  by_cases h2:(zx (n+zp b) bs).1≠0
  ·rw [if_pos h2] at h;exact absurd h h2
  rw [if_neg h2]
  obtain ⟨i1,i2,-⟩:=zcf (Decidable.not_not.1 h2)
  refine ⟨by simp [i1],λc hc=>?_,λc hc=>?_⟩
  ·rcases List.mem_cons.1 hc with rfl|hc
   ·exact ⟨Decidable.not_not.1 h1,b,List.mem_cons_self ..,rfl,rfl⟩
   ·obtain ⟨v,d,hd,e⟩:=i2 c hc
    exact ⟨v,d,List.mem_cons_of_mem _ hd,e⟩
  ·simp at hc;subst hc;rfl
theorem zoh:∀ {bs:List BatM},(∀ b ∈ bs,z05 b=0)->(bs.flatMap frL).length<=bs.length*262152
 | [],_=>by simp
 | b::bs,h=>by
  have h1:=z4l (h b (List.mem_cons_self ..))
  have h2:=z5h (h b (List.mem_cons_self ..))
  have h3:=zoh λx hx=>h x (List.mem_cons_of_mem _ hx)
  rw [List.flatMap_cons,List.length_append,List.length_cons]
  omega
section
variable {w:World} {l r:List HP} {lg:Nat} {M:LogM} {D:DiskA} {gap:Int} {a:Nat} {t:SegM}
theorem zen {fs:List (Sl × List UInt8)} {p:Sl × List UInt8} (hp:p ∈ fs) [hf:Foc l (HP.all (fs.map frP)) r]:FocR l p.1 1 (p.2.flatMap zi):=⟨λw hs=>by
 obtain ⟨L,hs⟩:=(hs.perm hf.perm).all_mem hp
 exact Sat.rd hs⟩
theorem zkn:∀ {fs gs:List (Sl × List UInt8)},(∀ p ∈ gs,FocR l p.1 1 (p.2.flatMap zi))->z9d l (gs.map Prod.fst) (gs.map Prod.snd)
 | _,[],_=>trivial
 | fs,p::gs,h=>⟨(h p (List.mem_cons_self ..)).rd,zkn (fs:=fs) λq hq=>h q (List.mem_cons_of_mem _ hq)⟩
theorem zp0 {r1:List HP} [hf:Fo l lgQ lg M r1] [hf2:Fo r1 dk M.d D r] (hlen:M.SM.length<=1000000000) (hok:z0b 0 M.l) (hs:Sat w l) :
  Ret P F.a109 #[.pointer (some ⟨lg,0,none⟩)] w λvs w'=>vs=[.int .i64 (z0j M.pre M.l D).1]/\Sat w' (lgQ lg M::dk M.d (z0j M.pre M.l D).2::r) :=
 zmc _ <| by
  delta zza AI AL AN AR AW Aa Ac Ah Ai Am An Aq Aw Ax Bg
  have hs:=hs.perm (hf.perm.trans (.cons _ hf2.perm))
  refine zw ?_ (by simp)
  refine z8 (zfd (lg:=lg) hlen hs) λ_ w' hs=>?_
  obtain ⟨rfl,hs⟩:=hs
  refine zb ?_
  by_cases h0:M.SM=[]
  ·have e:z0j M.pre M.l D=(0,D):=by unfold LogM.l z0j;rw [h0];rfl
   rw [e,h0]
   refine zw ?_ (by simp [zxi])
   exact ⟨rfl,rfl,hs⟩
  have hp:=List.length_pos_iff.2 h0
  have hsz:M.SM.length-1<M.SM.length:=by omega
  have e1:M.SM.getLast? = some (M.SM[M.SM.length-1]'hsz):=by
   rw [List.getLast?_eq_getElem?,List.getElem?_eq_getElem (by omega)]
  have e:z0j M.pre M.l D=z1n D [zl M.pre (M.SM[M.SM.length-1]'hsz).2.s.base zv]:=by
   unfold LogM.l z0j
   rw [z69,e1]
   rfl
  have hmem:(M.SM[M.SM.length-1]'hsz).2.s ∈ M.l:=List.mem_map.2 ⟨_,List.getElem_mem hsz,rfl⟩
  have hbase:=(hok.mem _ hmem).1.base
  rw [e,e1]
  obtain ⟨hokm,hs⟩:=z2k hs
  have hpre:M.pre.size<=100:=by
   have:=hokm.pre
   unfold z30 at this
   rw [Bool.and_eq_true,decide_eq_true_eq] at this
   omega
  refine z0q ?_ (by simp [zxi])
  have hs:=z3l (z92 (hs.pick [2]) hsz)
  refine zf (λq w'=>q=((z1n D [zl M.pre (M.SM[M.SM.length-1]'hsz).2.s.base zv]).1,())/\Sat w' (lgQ lg M::dk M.d (z1n D [zl M.pre (M.SM[M.SM.length-1]'hsz).2.s.base zv]).2::r)) ?_ ?_
  rotate_left
  ·rintro _ w2 ⟨rfl,hs⟩
   exact ⟨rfl,rfl,hs⟩
  refine zy hs λw' hs=>?_
  refine zj ?_
  refine z0x hs ?_
  refine zj ?_
  refine za hs ?_
  refine z8 (z7d (lg:=lg) _ (by omega) (ByteArray.mk #[46,108,111,103]) (by decide) M.pre hpre hs) λ_ w' hs=>?_
  obtain ⟨rfl,hs⟩:=hs
  refine zb ?_ (by first|trivial|(repeat (first|exact trivial|exact λ_=>z08 hs|exact λ_=>z0i hs|refine And.intro ?_ ?_)))
  refine z7m hs (enc:=z22) [zl M.pre (M.SM[M.SM.length-1]'hsz).2.s.base zv] λy w' hs=>⟨(by first|trivial|(repeat (first|exact trivial|exact λ_=>z08 hs|exact λ_=>z0i hs|refine And.intro ?_ ?_))),?_⟩
  refine zd ?_
  refine z8 (z044 (d:=M.d) y [zl M.pre (M.SM[M.SM.length-1]'hsz).2.s.base zv] (by show 1<=100000;omega) hs) λ_ w' hs=>?_
  obtain ⟨rfl,hs⟩:=hs
  refine zb ?_
  refine wp_lt ?_
  refine zd ?_
  refine zg ⟨rfl,?_⟩
  replace hs:Sat _ (z0m M.gap _ _::_):=z2h (M.SM[M.SM.length-1]'hsz).2 (hs.pick [2,2])
  have hs:=z6n hsz (hs.pick [0,2])
  exact (z1h M hokm (hs.pick [3,3])).sub
theorem zxb (x:Sl) (bs:List BatM) [hf:Fo l lgQ lg M r] (hlen:M.SM.length<=1000000000) (hbl:bs.length<=100000) (hx:FocR r x 7 (bs.flatMap zo)) (hbs:∀ b ∈ bs,FocR r b.x 4 (b.rs.flatMap z00)) (hs:Sat w l) :
  Ret P F.a116 #[.pointer (some ⟨lg,0,none⟩),x.v] w λvs w' =>
   ((zx (zq M.l) bs).1≠0/\vs=[.slice none 0 0,.slice none 0 0,.int .i64 (zx (zq M.l) bs).1]/\Sat w' (lgQ lg M::r)) \/
   ((zx (zq M.l) bs).1=0/\∃ (z1 z2:Sl) (fs:List (Sl × List UInt8)),vs=[z1.v,z2.v,.int .i64 0]/\fs.map Prod.snd=(zx (zq M.l) bs).2.map frL /\
    Sat w' (slc T.a0 7 z1 ((zx (zq M.l) bs).2.flatMap zo)::slc T.a46 1 z2 ((fs.map Prod.fst).flatMap z0d)::HP.all (fs.map frP)::lgQ lg M::r)) :=
 zmj _ x <| by
  delta zzh AB AC AD AE AF AK AR AV Aa Ac Ad Ae Ah Ai Am Ax Az
  have hs:=hs.perm hf.perm
  have hl:=hs.slen x (xs:=bs) (enc:=zo)
  refine z8 (zab (lg:=lg) hlen hs) λ_ w' hs=>?_
  obtain ⟨rfl,hs⟩:=hs
  refine zb ?_
  refine wp_lt ?_
  generalize zq M.l=n0
  refine zf (λq w'=>∃ (z1 z2:Sl) (fs:List (Sl × List UInt8)),(zx n0 bs).1=0/\q=(z1,z2,())/\fs.map Prod.snd=(zx n0 bs).2.map frL /\
    Sat w' (slc T.a0 7 z1 ((zx n0 bs).2.flatMap zo)::slc T.a46 1 z2 ((fs.map Prod.fst).flatMap z0d)::HP.all (fs.map frP)::lgQ lg M::r)) ?_ ?_
  rotate_left
  ·rintro _ w2 ⟨z1,z2,fs,h1,rfl,h2,hs⟩
   exact ⟨rfl,.inr ⟨h1,z1,z2,fs,rfl,h2,hs⟩⟩
  have h0:Sat w' (slc T.a0 7 ⟨none,0,0⟩ (([]:List BatM).flatMap zo)::slc T.a46 1 ⟨none,0,0⟩ (((([]:List (Sl × List UInt8))).map Prod.fst).flatMap z0d)::HP.all ((([]:List (Sl × List UInt8))).map frP)::lgQ lg M::r):=(Sat.all_nil hs).slc_nil.slc_nil
  refine z02 (λm v w=>∃ (i:Nat) (n:Int) (done:List BatM) (z1 z2:Sl) (fs:List (Sl × List UInt8)),v=(n,z1,z2,(i:Int),())/\i<=bs.length/\bs.length-i=m/\done.length=i/\fs.length=i /\
   zx n0 bs=(if (zx n (bs.drop i)).1≠0 then ((zx n (bs.drop i)).1,[]) else (0,done++(zx n (bs.drop i)).2))/\fs.map Prod.snd=done.map frL /\
   Sat w (slc T.a0 7 z1 (done.flatMap zo)::slc T.a46 1 z2 ((fs.map Prod.fst).flatMap z0d)::HP.all (fs.map frP)::lgQ lg M::r)) bs.length
   ⟨0,n0,[],⟨none,0,0⟩,⟨none,0,0⟩,[],rfl,by omega,rfl,rfl,rfl,?_,rfl,h0⟩ ?_
  ·rw [List.drop_zero,List.nil_append]
   by_cases h:(zx n0 bs).1≠0
   ·rw [if_pos h]
    have:∀ {bs:List BatM} {n:Int},(zx n bs).1≠0->(zx n bs).2=[]:=by
     intro bs
     induction bs with
     | nil=>intro n h;exact absurd rfl h
     | cons b bs ih =>
      intro n h
      unfold zx at h ⊢
      split
      ·rfl
      ·split
       ·rfl
       ·rename_i h1 h2
        rw [if_neg h1,if_neg h2] at h
        exact absurd rfl h
    rw [<- this h]
   ·rw [if_neg h]
    have h:=Decidable.not_not.1 h
    rw [<- h]
  clear hs h0
  rintro m _ w ⟨i,n,done,z1,z2,fs,rfl,hi,hm,hdl,hfl,hpl,hfs,hs⟩
  refine zm ?_
  refine ze (λhc=>?_) λhc=>?_
  rotate_left
  ·have e:bs.drop i=[]:=List.drop_eq_nil_of_le (by omega)
   rw [e] at hpl
   simp only [zx,List.append_nil] at hpl
   have hpl:zx n0 bs=(0,done):=by rw [hpl];rfl
   refine zh (zg ⟨z1,z2,fs,by rw [hpl],rfl,by rw [hpl];exact hfs,?_⟩)
   rw [hpl]
   exact hs
  have hil:i<bs.length:=by omega
  have hdrop:bs.drop i=bs[i]::bs.drop (i+1):=List.drop_eq_getElem_cons hil
  rw [hdrop] at hpl
  have hR:=hbs bs[i] (List.getElem_mem hil)
  refine z32 hs (xs:=bs) (enc:=zo) i hil ?_
  refine zt hs λa w' hs=>?_
  refine zu hs λw' hs=>?_
  refine z07 hs λw' hs=>?_
  refine zk hs ?_
  have hRt:FocR r (bs[i].to n).x 4 ((bs[i].to n).rs.flatMap z00):=hR
  refine z8 (zwh (bs[i].to n) hs) λ_ w' hs=>?_
  have hunf:zx n (bs[i]::bs.drop (i+1))=if z05 (bs[i].to n)≠0 then (z05 (bs[i].to n),[]) else if (zx (n+zp bs[i]) (bs.drop (i+1))).1≠0 then ((zx (n+zp bs[i]) (bs.drop (i+1))).1,[]) else (0,bs[i].to n::(zx (n+zp bs[i]) (bs.drop (i+1))).2):=rfl
  rcases hs with ⟨hv,rfl,hs⟩|⟨hv,y,rfl,hs⟩
  ·refine zb ?_
   refine wp_lt ?_
   refine z0q ?_ hv
   refine wp_lt ?_
   rw [if_pos hv] at hunf
   have hpl:zx n0 bs=(z05 (bs[i].to n),[]):=by rw [hpl,hunf,if_pos hv]
   refine zh (zh ⟨rfl,.inl ⟨by rw [hpl];exact hv,by rw [hpl],hs.sub⟩⟩)
  ·refine zb ?_
   refine wp_lt ?_
   refine zw ?_ (by simp)
   rw [if_neg (by rw [hv];simp)] at hunf
   have hbl2:=z5h hv
   have hfrl:=z4l hv
   refine zk hs ?_
   refine z6b (xs:=done) (enc:=zo) (y:=bs[i].to n) hs (λz1' w' hs=>?_) rfl (by omega)
   refine zai hs (enc:=z0d) [y] λy2 w' hs=>?_
   refine z8 (zwk y2 y (z2c (bs[i].to n)) (by omega) hs) λ_ w' hs=>?_
   obtain ⟨y3,rfl,hs⟩:=hs
   refine zb ?_
   refine z6b (xs:=fs.map Prod.fst) (enc:=z0d) (y:=y3) hs (λz2' w' hs=>?_) rfl (by rw [List.length_map];omega)
   refine zk hs ?_
   refine z8 (z8m (bs[i].to n) hs) λ_ w' hs=>?_
   obtain ⟨rfl,hs⟩:=hs
   refine zb ?_
   refine wp_lt ?_
   rw [wS (i:=i) (by omega)]
   have en:z1m (bs[i].to n)=n+zp bs[i]:=by
    unfold z1m
    rw [if_neg (by rw [hv];simp)]
    rfl
   rw [en]
   refine z0z (bs.length-(i+1)) ⟨i+1,n+zp bs[i],done++[bs[i].to n],z1',z2',fs++[(y3,frL (bs[i].to n))],rfl,by omega,rfl,by simp [hdl],by simp [hfl],?_,by simp [hfs],?_⟩
   ·rw [hpl,hunf]
    by_cases h2:(zx (n+zp bs[i]) (bs.drop (i+1))).1≠0
    ·rw [if_pos h2,if_pos h2,if_pos h2]
    ·rw [if_neg h2,if_neg h2,if_neg (by simp),List.append_assoc]
     rfl
   ·have e2:(fs++[(y3,frL (bs[i].to n))]).map Prod.fst=fs.map Prod.fst++[y3]:=by simp
    rw [e2]
    have hs:Sat w' (slc T.a46 1 z2' ((fs.map Prod.fst++[y3]).flatMap z0d)::slc T.a59 1 y3 ((frL (bs[i].to n)).flatMap zi)::slc T.a46 1 y2 (([y]:List Sl).flatMap z0d)::slc T.a0 7 z1' ((done++[bs[i].to n]).flatMap zo)::_):=hs
    have hs:Sat w' (frP (y3,frL (bs[i].to n))::HP.all (fs.map frP)::slc T.a0 7 z1' ((done++[bs[i].to n]).flatMap zo)::slc T.a46 1 z2' ((fs.map Prod.fst++[y3]).flatMap z0d)::lgQ lg M::r):=by
     have h3:Sat w' (slc T.a59 1 y3 ((frL (bs[i].to n)).flatMap zi)::HP.all (fs.map frP)::slc T.a0 7 z1' ((done++[bs[i].to n]).flatMap zo)::slc T.a46 1 z2' ((fs.map Prod.fst++[y3]).flatMap z0d)::lgQ lg M::r):=hs.sub
     exact h3
    have h4:Sat w' (HP.all (((y3,frL (bs[i].to n))::fs).map frP)::_):=hs.all_put
    have h5:=h4.all_perm ((List.perm_append_comm (l₁:=[(y3,frL (bs[i].to n))]) (l₂:=fs)).map frP)
    exact h5.pick [1,1]
end
def z4t (l:List SegA):Int:=match l.getLast? with
 | none=>0
 | some s=>s.base
def z4k (l:List SegA) (bs:List BatM):List SegA:=match l.getLast? with
 | none=>l
 | some s=>l.dropLast++[s.add bs]
def z0u (pre:ByteArray) (seg:Int) (l:List SegA) (D:DiskA) (bs:List BatM):(Int × Int) × List SegA × DiskA :=
 if bs=[] then ((0,3),l,D) else
 if (zx (zq l) bs).1≠0 then ((0,(zx (zq l) bs).1),l,D) else
 if z6h seg l ((zx (zq l) bs).2.flatMap frL).length then
  if (z09 D (zl pre (z4t l) zv) ((zx (zq l) bs).2.flatMap frL)).1≠0 then ((0,(z09 D (zl pre (z4t l) zv) ((zx (zq l) bs).2.flatMap frL)).1),l,(z09 D (zl pre (z4t l) zv) ((zx (zq l) bs).2.flatMap frL)).2)
  else ((zq l,0),z4k l (zx (zq l) bs).2,(z09 D (zl pre (z4t l) zv) ((zx (zq l) bs).2.flatMap frL)).2)
 else
  if (z0j pre l D).1≠0 then ((0,(z0j pre l D).1),l,(z0j pre l D).2) else
  if (z09 (z0j pre l D).2 (zl pre (zq l) zv) (shL (zq l) 0++(zx (zq l) bs).2.flatMap frL)).1≠0 then ((0,(z09 (z0j pre l D).2 (zl pre (zq l) zv) (shL (zq l) 0++(zx (zq l) bs).2.flatMap frL)).1),l,(z09 (z0j pre l D).2 (zl pre (zq l) zv) (shL (zq l) 0++(zx (zq l) bs).2.flatMap frL)).2)
  else ((zq l,0),l++[(⟨zq l,0,[]⟩:SegA).add (zx (zq l) bs).2],(z09 (z0j pre l D).2 (zl pre (zq l) zv) (shL (zq l) 0++(zx (zq l) bs).2.flatMap frL)).2)
def LogA.set (A:LogA) (l:List SegA):LogA:=⟨A.d,A.pre,A.seg,A.gap,l⟩
theorem z0b.next:∀ {n:Int} {l:List SegA},0<=n->z0b n l->0<=zq l/\zq l<=1099511627777
 | _,[],_,_=>⟨by decide,by decide⟩
 | n,[s],hn,⟨h1,h2,_⟩=>by
  have:=z50 h2
  have:=h2.base
  show 0<=s.reach/\s.reach<=_
  omega
 | n,s::t::l,hn,⟨h1,h2,h3⟩=>by
  have:=h2.base
  have:=z0b.next (by omega) h3
  exact this
instance:EncF zo 0 (.int .i64) (λb=>b.base):=⟨λ_=>rfl⟩
section
variable {w:World} {l r:List HP} {lg:Nat} {M:LogM} {A:LogA} {D:DiskA} {gap:Int} {a:Nat} {t:SegM}
theorem zbi {SM0:List (Nat × SegM)} (h:M.SM=SM0++[(a,t)]) (hs:Sat w (lgQ lg M::l)):okM M.gap M.seg M.pre /\
  Sat w (z0m M.gap a t::pt lg (.cells #[.pointer (some ⟨M.d,0,none⟩),.string M.pre,.int .i64 M.seg,.int .i64 M.gap,.slice M.z.a M.z.len M.z.cap] T.a48)::slc T.a28 1 M.z ((SM0.map Prod.fst++[a]).flatMap z1j)::HP.all (SM0.map λt=>z0m M.gap t.1 t.2)::l):=by
 obtain ⟨hok,hs⟩:=z2k hs
 rw [h] at hs
 have h1:=(hs.pick [2]).all_perm ((List.perm_append_comm (l₁:=SM0) (l₂:=[(a,t)])).map λt=>z0m M.gap t.1 t.2)
 have h2:Sat w (z0m M.gap a t::HP.all (SM0.map λt=>z0m M.gap t.1 t.2)::_):=h1.all_cons
 rw [List.map_append] at h2
 exact ⟨hok,h2.pick [0,1,1]⟩
theorem zaa (M:LogM) {SM0:List (Nat × SegM)} (hok:okM M.gap M.seg M.pre) (hs:Sat w (z0m M.gap a t::pt lg (.cells #[.pointer (some ⟨M.d,0,none⟩),.string M.pre,.int .i64 M.seg,.int .i64 M.gap,.slice M.z.a M.z.len M.z.cap] T.a48)::slc T.a28 1 M.z ((SM0.map Prod.fst++[a]).flatMap z1j)::HP.all (SM0.map λt=>z0m M.gap t.1 t.2)::l)) :
  Sat w (lgQ lg { M with SM:=SM0++[(a,t)] }::l):=by
 have h1:Sat w (HP.all (((a,t)::SM0).map λt=>z0m M.gap t.1 t.2)::_):=(hs.pick [0,2]).all_put
 have h2:=h1.all_perm ((List.perm_append_comm (l₁:=[(a,t)]) (l₂:=SM0)).map λt=>z0m M.gap t.1 t.2)
 refine z1h { M with SM:=SM0++[(a,t)] } hok ?_
 show Sat w (pt lg _::slc T.a28 1 M.z (((SM0++[(a,t)]).map Prod.fst).flatMap z1j)::HP.all ((SM0++[(a,t)]).map λt=>z0m M.gap t.1 t.2)::l)
 rw [List.map_append]
 exact h2.pick [1,1]
theorem z35 {α:Type} {l:List α} (h:l≠[]):∃ (l0:List α) (x:α),l=l0++[x]:=⟨l.dropLast,l.getLast h,(List.dropLast_concat_getLast h).symm⟩
theorem zkm {fs:List (Sl × List UInt8)} (h:∀ p ∈ fs,FocR l p.1 1 (p.2.flatMap zi)):z9d l (fs.map Prod.fst) (fs.map Prod.snd):=zkn (fs:=fs) h
theorem okM.size {g s:Int} {p:ByteArray} (h:okM g s p):p.size<=100:=by
 have:=h.pre
 unfold z30 at this
 rw [Bool.and_eq_true,decide_eq_true_eq] at this
 omega
set_option maxHeartbeats 1000000 in
theorem zuo (x:Sl) (bs:List BatM) {r1:List HP} [hf:Fo l lgP lg A r1] [hf2:Fo r1 dk A.d D r] (hlen:A.l.length<=1000000) (hok:z0b 0 A.l) (hfl:∀ s ∈ A.l,s.file.length<=500000000) (hbl:bs.length<=900)
  (hx:FocR r x 7 (bs.flatMap zo)) (hbs:∀ b ∈ bs,FocR r b.x 4 (b.rs.flatMap z00)) (hs:Sat w l) :
  Ret P F.a103 #[.pointer (some ⟨lg,0,none⟩),x.v] w λvs w'=>vs=[.int .i64 (z0u A.pre A.seg A.l D bs).1.1,.int .i64 (z0u A.pre A.seg A.l D bs).1.2] /\
   Sat w' (lgP lg (A.set (z0u A.pre A.seg A.l D bs).2.1)::dk A.d (z0u A.pre A.seg A.l D bs).2.2::r) :=
 zdr _ x <| by
  delta zrv AA AB AC AD AE AF AI AL AN AR AW Aa Ac Ad Ae Ah Ai Ak Am An Ao Aq Aw Ax Ay Az Bg Bj Bp Br
  have hs:=hs.perm (hf.perm.trans (.cons _ hf2.perm))
  clear hf hf2
  obtain ⟨M,rfl,hs⟩:=z7a hs
  have hlxs:=hs.slen x (xs:=bs) (enc:=zo)
  have hMl:M.A.l=M.l:=rfl
  have hMpre:M.A.pre=M.pre:=rfl
  have hMseg:M.A.seg=M.seg:=rfl
  have hMd:M.A.d=M.d:=rfl
  rw [hMl] at hlen hok hfl ⊢
  rw [hMpre,hMseg,hMd]
  rw [hMd] at hs
  have hll:M.l.length=M.SM.length:=List.length_map ..
  have hnx:=hok.next (Int.le_refl 0)
  have hsame:∀ {w:World} {D':DiskA},Sat w (lgQ lg M::dk M.d D'::r)->Sat w (lgP lg (M.A.set M.l)::dk M.d D'::r):=λhs=>z43 M hs
  unfold z0u
  refine zw ?_ (by simp)
  refine ze (λh=>?_) λh=>?_
  ·have:bs=[]:=List.length_eq_zero_iff.1 (by omega)
   rw [if_pos this]
   exact ⟨rfl,rfl,hsame hs⟩
  rw [if_neg (by rintro rfl;simp at hlxs;omega)]
  have hx':FocR (dk M.d D::r) x 7 (bs.flatMap zo):=inferInstance
  refine z8 (zxb (lg:=lg) x bs (by omega) (by omega) inferInstance (λb hb=>by have:=hbs b hb;infer_instance) hs) λ_ w' hs=>?_
  have hplo:=zcf (bs:=bs) (n:=zq M.l)
  rcases hs with ⟨he,rfl,hs⟩|⟨he,z1,z2,fs,rfl,hfs,hs⟩
  ·refine zb ?_
   refine wp_lt ?_
   refine z0q ?_ he
   refine wp_lt ?_
   rw [if_pos he]
   exact ⟨rfl,rfl,hsame hs⟩
  refine zb ?_
  refine wp_lt ?_
  refine zw ?_ (by simp)
  rw [if_neg (by rw [he];simp)]
  obtain ⟨hp1,hp2,hp3⟩:=hplo he
  have hbl0:0<bs.length:=by
   apply Nat.pos_of_ne_zero
   intro h0
   rw [h0] at hlxs
   omega
  generalize hn0:zq M.l=n0 at *
  generalize hPL:zx n0 bs=PL at *
  obtain ⟨e0,q⟩:=PL
  have he:e0=0:=he
  subst he
  dsimp only at hp1 hp2 hp3 hfs hs ⊢
  have hsum:=zoh λb hb=>(hp2 b hb).1
  have hfsl:fs.length=q.length:=by have:=congrArg List.length hfs;simpa using this
  have hfl1:=hs.slen z2 (xs:=fs.map Prod.fst) (enc:=z0d)
  rw [List.length_map] at hfl1
  have hfget:∀ (i:Nat) (h:i<fs.length),fs[i].2=frL (q[i]'(by omega)):=λi h=>by
   have:=List.getElem_of_eq hfs (i:=i) (by rw [List.length_map];exact h)
   simpa using this
  have hfsum:∀ i,((q.take i).flatMap frL).length<=(q.flatMap frL).length:=λi=>by
   have:(q.flatMap frL)=(q.take i).flatMap frL++(q.drop i).flatMap frL:=by rw [<- List.flatMap_append,List.take_append_drop]
   rw [this,List.length_append];omega
  refine zf (λv w'=>v=(((q.flatMap frL).length:Int),())/\Sat w' (slc T.a0 7 z1 (q.flatMap zo)::slc T.a46 1 z2 ((fs.map Prod.fst).flatMap z0d)::HP.all (fs.map frP)::lgQ lg M::dk M.d D::r)) ?_ ?_
  ·refine z02 (λm v w=>∃ i:Nat,v=((((q.take i).flatMap frL).length:Int),((i:Int),()))/\i<=q.length/\q.length-i=m/\Sat w (slc T.a0 7 z1 (q.flatMap zo)::slc T.a46 1 z2 ((fs.map Prod.fst).flatMap z0d)::HP.all (fs.map frP)::lgQ lg M::dk M.d D::r)) q.length ⟨0,rfl,by omega,rfl,hs⟩ ?_
   clear hs
   rintro m _ w ⟨i,rfl,hi,hm,hs⟩
   refine zm ?_
   refine ze (λhc=>?_) λhc=>?_
   rotate_left
   ·refine zh (zg ⟨?_,hs⟩)
    rw [List.take_of_length_le (by omega)]
   have hil:i<q.length:=by omega
   have hil2:i<fs.length:=by omega
   refine z1y hs (xs:=fs.map Prod.fst) (enc:=z0d) i (by rw [List.length_map];omega) ?_
   have e1:(fs.map Prod.fst)[i]'(by rw [List.length_map];omega)=fs[i].1:=by simp
   rw [e1]
   have hR:FocR (HP.all (fs.map frP)::lgQ lg M::dk M.d D::r) fs[i].1 1 (fs[i].2.flatMap zi):=zen (List.getElem_mem hil2)
   have hl2:=hs.slen fs[i].1 (xs:=fs[i].2) (enc:=zi)
   rw [hfget i hil2] at hl2
   have hfi:((q.take (i+1)).flatMap frL).length=((q.take i).flatMap frL).length+(frL q[i]).length:=by
    rw [List.take_succ_eq_append_getElem hil,List.flatMap_append,List.length_append];simp
   have:=hfsum (i+1)
   rw [hl2,w64 (by omega) (by omega)]
   refine wp_lt ?_
   rw [wS (i:=i) (by omega)]
   have ec:(((q.take i).flatMap frL).length:Int)+((frL q[i]).length:Nat)=(((q.take (i+1)).flatMap frL).length:Int):=by rw [hfi];omega
   rw [ec]
   exact z0z (q.length-(i+1)) ⟨i+1,rfl,by omega,rfl,hs⟩
  clear hs
  rintro _ w ⟨rfl,hs⟩
  refine zm ?_
  refine z8 (zfd (lg:=lg) (by omega) hs) λ_ w' hs=>?_
  obtain ⟨rfl,hs⟩:=hs
  refine zb ?_
  refine z8 (z033 (lg:=lg) (q.flatMap frL).length (by omega) (by omega) (λs hs'=>by have:=hfl s hs';omega) hs) λ_ w' hs=>?_
  obtain ⟨rfl,hs⟩:=hs
  refine zb ?_
  generalize hF:q.flatMap frL=Fr at *
  have hbsl:fs.map Prod.snd=q.map frL:=hfs
  have hflat:(fs.map Prod.snd).flatten=Fr:=by rw [hfs,<- hF,List.flatMap]
  have hlbound:∀ p ∈ fs,p.2.length<=262152:=λp hp=>by
   obtain ⟨i,hi,rfl⟩:=List.mem_iff_getElem.1 hp
   rw [hfget i hi]
   have:=z4l (hp2 _ (List.getElem_mem (show i<q.length by omega))).1
   have:=z5h (hp2 _ (List.getElem_mem (show i<q.length by omega))).1
   omega
  refine zf (λv w'=>∃ (M1:LogM) (SM0:List (Nat × SegM)) (a:Nat) (t:SegM) (D1:DiskA),v=(some ⟨a,0,none⟩,())/\M1.SM=SM0++[(a,t)]/\t.s.file.length<=600000000 /\
    (if z6h M.seg M.l Fr.length then
     if (z09 D (zl M.pre (z4t M.l) zv) Fr).1≠0 then ((0,(z09 D (zl M.pre (z4t M.l) zv) Fr).1),M.l,(z09 D (zl M.pre (z4t M.l) zv) Fr).2)
     else ((n0,(0:Int)),z4k M.l q,(z09 D (zl M.pre (z4t M.l) zv) Fr).2)
    else
     if (z0j M.pre M.l D).1≠0 then ((0,(z0j M.pre M.l D).1),M.l,(z0j M.pre M.l D).2) else
     if (z09 (z0j M.pre M.l D).2 (zl M.pre n0 zv) (shL n0 0++Fr)).1≠0 then ((0,(z09 (z0j M.pre M.l D).2 (zl M.pre n0 zv) (shL n0 0++Fr)).1),M.l,(z09 (z0j M.pre M.l D).2 (zl M.pre n0 zv) (shL n0 0++Fr)).2)
     else ((n0,0),M.l++[(⟨n0,0,[]⟩:SegA).add q],(z09 (z0j M.pre M.l D).2 (zl M.pre n0 zv) (shL n0 0++Fr)).2))=((n0,0),(SM0.map λt=>t.2.s)++[t.s.add q],D1) /\
    (M1.d=M.d/\M1.pre=M.pre/\M1.seg=M.seg/\M1.gap=M.gap) /\
    Sat w' (lgQ lg M1::dk M.d D1::slc T.a0 7 z1 (q.flatMap zo)::slc T.a46 1 z2 ((fs.map Prod.fst).flatMap z0d)::HP.all (fs.map frP)::r)) ?_ ?_
  ·refine ze (λhr=>?_) λhr=>?_
   ·
    have hr:z6h M.seg M.l Fr.length=false:=by simpa using hr
    rw [if_neg (by rw [hr];simp)]
    have hs:Sat w' (lgQ lg M::slc T.a0 7 z1 (q.flatMap zo)::slc T.a46 1 z2 ((fs.map Prod.fst).flatMap z0d)::HP.all (fs.map frP)::dk M.d D::r):=hs
    refine z8 (zp0 (lg:=lg) (D:=D) (by omega) hok hs) λ_ w' hs=>?_
    obtain ⟨rfl,hs⟩:=hs
    refine zb ?_
    refine wp_lt ?_
    refine ze (λh2=>?_) λh2=>?_
    ·refine wp_lt ?_
     rw [if_pos h2]
     refine zh ⟨rfl,rfl,hsame hs.sub⟩
    rw [if_neg h2]
    generalize (z0j M.pre M.l D).2=D1 at *
    refine z8 (zab (lg:=lg) (by omega) hs) λ_ w' hs=>?_
    obtain ⟨rfl,hs⟩:=hs
    refine zb ?_
    rw [hn0]
    refine z8 (zka (lg:=lg) n0 0 (by omega) (by omega) hs) λ_ w' hs=>?_
    obtain ⟨a,ix,rfl,hs⟩:=hs
    refine zb ?_
    have hshl:=zgy n0 0
    refine zf (λv w'=>v=((z09 D1 (zl M.pre n0 zv) (shL n0 0++Fr)).1,())/\Sat w' (z0m M.gap a ⟨ix,⟨n0,0,[]⟩⟩::lgQ lg M::dk M.d (z09 D1 (zl M.pre n0 zv) (shL n0 0++Fr)).2::slc T.a0 7 z1 (q.flatMap zo)::slc T.a46 1 z2 ((fs.map Prod.fst).flatMap z0d)::HP.all (fs.map frP)::r)) ?_ ?_
    ·obtain ⟨hokm,hs⟩:=z2k (hs.pick [1])
     have hs:=z3l (hs.pick [3])
     refine zy hs λw' hs=>?_
     refine zj ?_
     refine z0x hs ?_
     refine zj ?_
     refine za hs ?_
     refine zj ?_
     refine z0x hs ?_
     refine z8 (z7d (lg:=lg) n0 (by omega) (ByteArray.mk #[46,108,111,103]) (by decide) M.pre hokm.size hs) λ_ w' hs=>?_
     obtain ⟨rfl,hs⟩:=hs
     refine zb ?_ (by first|trivial|(repeat (first|exact trivial|exact λ_=>z08 hs|exact λ_=>z0i hs|refine And.intro ?_ ?_)))
     refine z8 (zjz n0 0 (by omega) (by omega) hs) λ_ w' hs=>?_
     obtain ⟨y,rfl,hs⟩:=hs
     refine zb ?_ (by first|trivial|(repeat (first|exact trivial|exact λ_=>z08 hs|exact λ_=>z0i hs|refine And.intro ?_ ?_)))
     refine z7m hs (enc:=z0d) [y] λy2 w' hs=>⟨(by first|trivial|(repeat (first|exact trivial|exact λ_=>z08 hs|exact λ_=>z0i hs|refine And.intro ?_ ?_))),?_⟩
     refine z02m (xs:=[y]) (ys:=fs.map Prod.fst) (enc:=z0d) hs (λy3 w' hs=>⟨(by first|trivial|(repeat (first|exact trivial|exact λ_=>z08 hs|exact λ_=>z0i hs|refine And.intro ?_ ?_))),?_⟩) (by rw [List.length_map];simp only [List.length_cons,List.length_nil];omega)
     refine zd ?_
     have hs:Sat w' (dk M.d D1::slc T.a46 1 y3 (([y]++fs.map Prod.fst).flatMap z0d)::slc T.a59 1 y ((shL n0 0).flatMap zi)::HP.all (fs.map frP)::pt a (.cells #[.pointer (some ⟨ix,0,none⟩),.int .i64 n0,.int .i64 0,.int .i64 (z0a []),.int .i64 (z1a (-1) []),.int .i64 ((SegA.file ⟨n0,0,[]⟩).length:Nat)] T.a49)::z26 ix ((SegA.mk n0 0 []).idx M.gap)::pt lg (.cells #[.pointer (some ⟨M.d,0,none⟩),.string M.pre,.int .i64 M.seg,.int .i64 M.gap,.slice M.z.a M.z.len M.z.cap] T.a48)::slc T.a28 1 M.z ((M.SM.map Prod.fst).flatMap z1j)::HP.all (M.SM.map λt=>z0m M.gap t.1 t.2)::slc T.a0 7 z1 (q.flatMap zo)::slc T.a46 1 z2 ((fs.map Prod.fst).flatMap z0d)::r):=hs.sub
     have hall:∀ p ∈ ((y,shL n0 0)::fs),FocR (slc T.a46 1 y3 (([y]++fs.map Prod.fst).flatMap z0d)::slc T.a59 1 y ((shL n0 0).flatMap zi)::HP.all (fs.map frP)::pt a (.cells #[.pointer (some ⟨ix,0,none⟩),.int .i64 n0,.int .i64 0,.int .i64 (z0a []),.int .i64 (z1a (-1) []),.int .i64 ((SegA.file ⟨n0,0,[]⟩).length:Nat)] T.a49)::z26 ix ((SegA.mk n0 0 []).idx M.gap)::pt lg (.cells #[.pointer (some ⟨M.d,0,none⟩),.string M.pre,.int .i64 M.seg,.int .i64 M.gap,.slice M.z.a M.z.len M.z.cap] T.a48)::slc T.a28 1 M.z ((M.SM.map Prod.fst).flatMap z1j)::HP.all (M.SM.map λt=>z0m M.gap t.1 t.2)::slc T.a0 7 z1 (q.flatMap zo)::slc T.a46 1 z2 ((fs.map Prod.fst).flatMap z0d)::r) p.1 1 (p.2.flatMap zi):=λp hp=>by
      rcases List.mem_cons.1 hp with rfl|hp
      ·infer_instance
      ·have:FocR (HP.all (fs.map frP)::pt a (.cells #[.pointer (some ⟨ix,0,none⟩),.int .i64 n0,.int .i64 0,.int .i64 (z0a []),.int .i64 (z1a (-1) []),.int .i64 ((SegA.file ⟨n0,0,[]⟩).length:Nat)] T.a49)::z26 ix ((SegA.mk n0 0 []).idx M.gap)::pt lg (.cells #[.pointer (some ⟨M.d,0,none⟩),.string M.pre,.int .i64 M.seg,.int .i64 M.gap,.slice M.z.a M.z.len M.z.cap] T.a48)::slc T.a28 1 M.z ((M.SM.map Prod.fst).flatMap z1j)::HP.all (M.SM.map λt=>z0m M.gap t.1 t.2)::slc T.a0 7 z1 (q.flatMap zo)::slc T.a46 1 z2 ((fs.map Prod.fst).flatMap z0d)::r) p.1 1 (p.2.flatMap zi):=zen hp
       infer_instance
     have hpsF:FocR (slc T.a46 1 y3 (([y]++fs.map Prod.fst).flatMap z0d)::slc T.a59 1 y ((shL n0 0).flatMap zi)::HP.all (fs.map frP)::pt a (.cells #[.pointer (some ⟨ix,0,none⟩),.int .i64 n0,.int .i64 0,.int .i64 (z0a []),.int .i64 (z1a (-1) []),.int .i64 ((SegA.file ⟨n0,0,[]⟩).length:Nat)] T.a49)::z26 ix ((SegA.mk n0 0 []).idx M.gap)::pt lg (.cells #[.pointer (some ⟨M.d,0,none⟩),.string M.pre,.int .i64 M.seg,.int .i64 M.gap,.slice M.z.a M.z.len M.z.cap] T.a48)::slc T.a28 1 M.z ((M.SM.map Prod.fst).flatMap z1j)::HP.all (M.SM.map λt=>z0m M.gap t.1 t.2)::slc T.a0 7 z1 (q.flatMap zo)::slc T.a46 1 z2 ((fs.map Prod.fst).flatMap z0d)::r) y3 1 ((((y,shL n0 0)::fs).map Prod.fst).flatMap zdu):=(inferInstance:FocR _ y3 1 (([y]++fs.map Prod.fst).flatMap z0d))
     refine z8 (zjd (d:=M.d) (A:=D1) (zl M.pre n0 (bl (ByteArray.mk #[46,108,111,103]))) y3 (((y,shL n0 0)::fs).map Prod.fst) (((y,shL n0 0)::fs).map Prod.snd) (hps:=hpsF) (zkm hall) (by simp only [List.length_map,List.length_cons];omega) (λb hb=>?_) hs) λ_ w' hs=>?_
     ·obtain ⟨p,hp,rfl⟩:=List.mem_map.1 hb
      rcases List.mem_cons.1 hp with rfl|hp
      ·show (shL n0 0).length<=_;omega
      ·have:=hlbound p hp;omega
     obtain ⟨rfl,hs⟩:=hs
     refine zb ?_
     refine wp_lt ?_
     refine zd ?_
     have e2:(((y,shL n0 0)::fs).map Prod.snd).flatten=shL n0 0++Fr:=by rw [List.map_cons,List.flatten_cons,hflat]
     rw [e2] at hs ⊢
     refine zg ⟨rfl,?_⟩
     have hs:Sat w' (dk M.d (z09 D1 (zl M.pre n0 zv) (shL n0 0++Fr)).2::slc T.a46 1 y3 _::slc T.a59 1 y _::HP.all (fs.map frP)::pt a _::z26 ix _::pt lg _::slc T.a28 1 M.z _::HP.all (M.SM.map λt=>z0m M.gap t.1 t.2)::slc T.a0 7 z1 (q.flatMap zo)::slc T.a46 1 z2 ((fs.map Prod.fst).flatMap z0d)::r):=hs
     have hs:=z1h M hokm (hs.pick [6,6,6])
     have hs:Sat w' (z0m M.gap a ⟨ix,⟨n0,0,[]⟩⟩::lgQ lg M::dk M.d _::slc T.a46 1 y3 _::slc T.a59 1 y _::HP.all (fs.map frP)::slc T.a0 7 z1 (q.flatMap zo)::slc T.a46 1 z2 ((fs.map Prod.fst).flatMap z0d)::r):=z2h ⟨ix,⟨n0,0,[]⟩⟩ (hs.pick [5,5])
     exact hs.sub
    rintro _ w2 ⟨rfl,hs⟩
    refine ze (λh3=>?_) λh3=>?_
    ·refine wp_lt ?_
     rw [if_pos h3]
     refine zh ⟨rfl,rfl,hsame hs.sub⟩
    rw [if_neg h3]
    have hs:=hs.pick [1]
    refine z8 (zys (lg:=lg) a ⟨ix,⟨n0,0,[]⟩⟩ (by omega) hs) λ_ w' hs=>?_
    obtain ⟨z,rfl,hs⟩:=hs
    refine zb ?_
    refine zg ⟨{ M with z:=z,SM:=M.SM++[(a,⟨ix,⟨n0,0,[]⟩⟩)] },M.SM,a,⟨ix,⟨n0,0,[]⟩⟩,(z09 D1 (zl M.pre n0 zv) (shL n0 0++Fr)).2,rfl,rfl,?_,rfl,⟨rfl,rfl,rfl,rfl⟩,hs⟩
    rw [z2d]
    simp only [List.flatMap_nil,List.length_nil]
    omega
   ·
    have hr:z6h M.seg M.l Fr.length=true:=by simpa using hr
    rw [if_pos hr]
    have h0:M.SM≠[]:=by
     intro h0
     have:M.l=[]:=by unfold LogM.l;rw [h0];rfl
     rw [this] at hr
     cases hr
    obtain ⟨SM0,⟨a,t⟩,hSM⟩:=z35 h0
    have hl1:M.l=SM0.map (λt=>t.2.s)++[t.s]:=by unfold LogM.l;rw [hSM];simp
    have hbase:z4t M.l=t.s.base:=by unfold z4t;rw [hl1,z1o]
    have hadd:z4k M.l q=SM0.map (λt=>t.2.s)++[t.s.add q]:=by unfold z4k;rw [hl1,z1o];simp
    have hlst:M.SM.getLast? = some (a,t):=by rw [hSM,z1o]
    rw [hlst]
    have htm:t.s ∈ M.l:=by rw [hl1];simp
    have htb:=(hok.mem _ htm).1.base
    have htf:=hfl _ htm
    refine zf (λv w'=>v=((z09 D (zl M.pre (z4t M.l) zv) Fr).1,())/\Sat w' (lgQ lg M::dk M.d (z09 D (zl M.pre (z4t M.l) zv) Fr).2::slc T.a0 7 z1 (q.flatMap zo)::slc T.a46 1 z2 ((fs.map Prod.fst).flatMap z0d)::HP.all (fs.map frP)::r)) ?_ ?_
    ·obtain ⟨hokm,hs⟩:=zbi hSM hs
     have hs:=z3l hs
     refine zy hs λw' hs=>?_
     refine zj ?_
     refine z0x hs ?_
     refine zj ?_
     refine za hs ?_
     refine z8 (z7d (lg:=lg) t.s.base (by omega) (ByteArray.mk #[46,108,111,103]) (by decide) M.pre hokm.size hs) λ_ w' hs=>?_
     obtain ⟨rfl,hs⟩:=hs
     refine zb ?_ (by first|trivial|(repeat (first|exact trivial|exact λ_=>z08 hs|exact λ_=>z0i hs|refine And.intro ?_ ?_)))
     refine zd ?_
     have hs:=hs.pick [8]
     have hall:∀ p ∈ fs,FocR (pt a (.cells #[.pointer (some ⟨t.ix,0,none⟩),.int .i64 t.s.base,.int .i64 t.s.fin,.int .i64 (z0a t.s.bs),.int .i64 (z1a (-1) t.s.bs),.int .i64 (t.s.file.length:Nat)] T.a49)::z26 t.ix (t.s.idx M.gap)::pt lg (.cells #[.pointer (some ⟨M.d,0,none⟩),.string M.pre,.int .i64 M.seg,.int .i64 M.gap,.slice M.z.a M.z.len M.z.cap] T.a48)::slc T.a28 1 M.z ((SM0.map Prod.fst++[a]).flatMap z1j)::HP.all (SM0.map λt=>z0m M.gap t.1 t.2)::slc T.a0 7 z1 (q.flatMap zo)::slc T.a46 1 z2 ((fs.map Prod.fst).flatMap z0d)::HP.all (fs.map frP)::r) p.1 1 (p.2.flatMap zi):=λp hp=>by
      have:FocR (HP.all (fs.map frP)::r) p.1 1 (p.2.flatMap zi):=zen hp
      infer_instance
     have hpsF:FocR (pt a (.cells #[.pointer (some ⟨t.ix,0,none⟩),.int .i64 t.s.base,.int .i64 t.s.fin,.int .i64 (z0a t.s.bs),.int .i64 (z1a (-1) t.s.bs),.int .i64 (t.s.file.length:Nat)] T.a49)::z26 t.ix (t.s.idx M.gap)::pt lg (.cells #[.pointer (some ⟨M.d,0,none⟩),.string M.pre,.int .i64 M.seg,.int .i64 M.gap,.slice M.z.a M.z.len M.z.cap] T.a48)::slc T.a28 1 M.z ((SM0.map Prod.fst++[a]).flatMap z1j)::HP.all (SM0.map λt=>z0m M.gap t.1 t.2)::slc T.a0 7 z1 (q.flatMap zo)::slc T.a46 1 z2 ((fs.map Prod.fst).flatMap z0d)::HP.all (fs.map frP)::r) z2 1 ((fs.map Prod.fst).flatMap zdu):=(inferInstance:FocR _ z2 1 ((fs.map Prod.fst).flatMap z0d))
     refine z8 (zjd (d:=M.d) (A:=D) (zl M.pre t.s.base (bl (ByteArray.mk #[46,108,111,103]))) z2 (fs.map Prod.fst) (fs.map Prod.snd) (hps:=hpsF) (zkm hall) (by simp only [List.length_map];omega) (λb hb=>?_) hs) λ_ w' hs=>?_
     ·obtain ⟨p,hp,rfl⟩:=List.mem_map.1 hb
      have:=hlbound p hp;omega
     obtain ⟨rfl,hs⟩:=hs
     refine zb ?_
     refine wp_lt ?_
     refine zd ?_
     rw [hflat] at hs ⊢
     refine zg ⟨by rw [hbase];rfl,?_⟩
     rw [hbase]
     have hs:Sat w' (dk M.d (z09 D (zl M.pre t.s.base zv) Fr).2::pt a _::z26 t.ix _::pt lg _::slc T.a28 1 M.z _::HP.all (SM0.map λt=>z0m M.gap t.1 t.2)::slc T.a0 7 z1 (q.flatMap zo)::slc T.a46 1 z2 ((fs.map Prod.fst).flatMap z0d)::HP.all (fs.map frP)::r):=hs
     have hs:=zaa M hokm (z2h t (hs.pick [1,1]) |>.pick [0,1,1,1])
     have e:{ M with SM:=SM0++[(a,t)] }=M:=by rw [<- hSM]
     rw [e] at hs
     exact hs.sub
    rintro _ w2 ⟨rfl,hs⟩
    refine ze (λh3=>?_) λh3=>?_
    ·refine wp_lt ?_
     rw [if_pos h3]
     refine zh ⟨rfl,rfl,hsame hs.sub⟩
    rw [if_neg h3]
    refine zg ⟨M,SM0,a,t,(z09 D (zl M.pre (z4t M.l) zv) Fr).2,rfl,hSM,by omega,by rw [hadd],⟨rfl,rfl,rfl,rfl⟩,hs⟩
  rintro _ w2 ⟨M1,SM0,a,t,D1,rfl,hSM,htl,hres,⟨hd1,hd2,hd3,hd4⟩,hs⟩
  clear hsame
  rw [hres]
  obtain ⟨hokm,hs⟩:=zbi hSM hs
  have hF2:∀ i,((q.take i).flatMap frL).length<=Fr.length:=hfsum
  have hlq:=hs.slen z1 (xs:=q) (enc:=zo)
  refine zf (λ_ w'=>Sat w' (z0m M1.gap a ⟨t.ix,t.s.add q⟩::pt lg (.cells #[.pointer (some ⟨M1.d,0,none⟩),.string M1.pre,.int .i64 M1.seg,.int .i64 M1.gap,.slice M1.z.a M1.z.len M1.z.cap] T.a48)::slc T.a28 1 M1.z ((SM0.map Prod.fst++[a]).flatMap z1j)::HP.all (SM0.map λt=>z0m M1.gap t.1 t.2)::dk M.d D1::slc T.a0 7 z1 (q.flatMap zo)::slc T.a46 1 z2 ((fs.map Prod.fst).flatMap z0d)::HP.all (fs.map frP)::r)) ?_ ?_
  ·refine z02 (λm v w=>∃ i:Nat,v=((i:Int),())/\i<=q.length/\q.length-i=m/\Sat w (z0m M1.gap a ⟨t.ix,t.s.add (q.take i)⟩::pt lg (.cells #[.pointer (some ⟨M1.d,0,none⟩),.string M1.pre,.int .i64 M1.seg,.int .i64 M1.gap,.slice M1.z.a M1.z.len M1.z.cap] T.a48)::slc T.a28 1 M1.z ((SM0.map Prod.fst++[a]).flatMap z1j)::HP.all (SM0.map λt=>z0m M1.gap t.1 t.2)::dk M.d D1::slc T.a0 7 z1 (q.flatMap zo)::slc T.a46 1 z2 ((fs.map Prod.fst).flatMap z0d)::HP.all (fs.map frP)::r)) q.length ⟨0,rfl,by omega,rfl,by rw [List.take_zero,zg7];exact hs⟩ ?_
   clear hs
   rintro m _ w ⟨i,rfl,hi,hm,hs⟩
   refine zm ?_
   refine ze (λhc=>?_) λhc=>?_
   rotate_left
   ·refine zh (zg ?_)
    rwa [List.take_of_length_le (by omega)] at hs
   have hil:i<q.length:=by omega
   have hil2:i<fs.length:=by omega
   refine z32 hs (xs:=q) (enc:=zo) i hil ?_
   refine zt hs λc w' hs=>?_
   refine wp_lt ?_
   refine zu hs λw' hs=>?_
   refine zy hs λw' hs=>?_
   refine zk hs ?_
   refine z1y hs (xs:=fs.map Prod.fst) (enc:=z0d) i (by rw [List.length_map];omega) ?_
   have e1:(fs.map Prod.fst)[i]'(by rw [List.length_map];omega)=fs[i].1:=by simp
   rw [e1]
   have hR:FocR (HP.all (fs.map frP)::r) fs[i].1 1 (fs[i].2.flatMap zi):=zen (List.getElem_mem hil2)
   have hl2:=hs.slen fs[i].1 (xs:=fs[i].2) (enc:=zi)
   rw [hfget i hil2] at hl2
   rw [hl2]
   obtain ⟨hvq,c0,hc0,hcx,hcr⟩:=hp2 q[i] (List.getElem_mem hil)
   have hRb:FocR r q[i].x 4 (q[i].rs.flatMap z00):=by rw [hcx,hcr];exact hbs c0 hc0
   have hfi:((q.take (i+1)).flatMap frL).length=((q.take i).flatMap frL).length+(frL q[i]).length:=by
    rw [List.take_succ_eq_append_getElem hil,List.flatMap_append,List.length_append];simp
   have:=hF2 (i+1)
   refine z8 (zvs (gap:=M1.gap) (a:=a) q[i] hvq (by show (t.s.add (q.take i)).file.length+_<=_;rw [z6j,List.length_append];omega) hs) λ_ w' hs=>?_
   obtain ⟨rfl,hs⟩:=hs
   refine zb ?_
   refine zd ?_
   rw [wS (i:=i) (by omega)]
   refine z0z (q.length-(i+1)) ⟨i+1,rfl,by omega,rfl,?_⟩
   have e2:(t.s.add (q.take i)).add [q[i]]=t.s.add (q.take (i+1)):=by rw [zob,List.take_succ_eq_append_getElem hil]
   have hs:Sat w' (z0m M1.gap a ⟨t.ix,(t.s.add (q.take i)).add [q[i]]⟩::_):=hs
   rw [e2] at hs
   exact hs.sub
  clear hs
  rintro _ w3 hs
  refine zm ?_
  refine zpu hs (xs:=q) (enc:=zo) 0 (by omega) ?_
  refine wp_lt ?_
  have hq0:(q[0]'(by omega)).base=n0:=hp3 _ (by rw [List.head?_eq_getElem?,List.getElem?_eq_getElem])
  rw [hq0]
  refine ⟨rfl,rfl,?_⟩
  have hs:=z43 _ (zaa M1 hokm hs)
  have eA:LogM.A { M1 with SM:=SM0++[(a,(⟨t.ix,t.s.add q⟩:SegM))] }=M.A.set ((SM0.map λt=>t.2.s)++[t.s.add q]):=by
   unfold LogM.A LogM.l LogA.set
   simp only [List.map_append,List.map_cons,List.map_nil,hd1,hd2,hd3,hd4]
  rw [eA] at hs
  exact hs.sub
end
def z2o (s:SegA) (k:Nat):Nat:=(shL s.base s.fin).length+((s.bs.take k).flatMap frL).length
def z06 (l:List SegA):List BatM:=l.flatMap SegA.bs
def z4g (l:List SegA) (off most:Int):Int × List BatM:=if most<1 then (2,[]) else if off<z1t l\/off>zq l then (8,[]) else (0,((z06 l).filterMap (z0o off)).take most.toNat)
def zv9 (s:SegA) (o:Option EntA):Int:=match o with
 | none=>((shL s.base s.fin).length:Int)
 | some e=>e.place
theorem zvb (s:SegA):z2o s 0=(shL s.base s.fin).length:=by simp [z2o]
theorem zxe (s:SegA):z2o s s.bs.length=s.file.length:=by unfold z2o;rw [List.take_length,z2d]
theorem zi7 (s:SegA) {k:Nat} (hk:k<s.bs.length):z2o s (k+1)=z2o s k+(frL s.bs[k]).length:=by
 unfold z2o
 rw [List.take_succ_eq_append_getElem hk,List.flatMap_append,List.length_append]
 simp
 omega
theorem zgr (s:SegA) (k:Nat):z2o s k<=s.file.length:=by
 unfold z2o
 rw [z2d]
 have:(s.bs.flatMap frL)=(s.bs.take k).flatMap frL++(s.bs.drop k).flatMap frL:=by rw [<- List.flatMap_append,List.take_append_drop]
 rw [this,List.length_append];omega
theorem zu8 (s:SegA) (k:Nat):s.file.drop (z2o s k)=(s.bs.drop k).flatMap frL:=by
 have e:s.file=(shL s.base s.fin++(s.bs.take k).flatMap frL)++(s.bs.drop k).flatMap frL:=by
  unfold SegA.file
  rw [List.append_assoc,<- List.flatMap_append,List.take_append_drop]
 rw [e]
 exact List.drop_left' (by rw [List.length_append];rfl)
theorem zqk {s:SegA} (h:SegOk s) {k:Nat} (hk:k<s.bs.length):z0v (s.file.drop (z2o s k))=some (z2c s.bs[k],(frL s.bs[k]).length)/\z5i (z2c s.bs[k])=some s.bs[k]:=by
 obtain ⟨hv,hp⟩:=h.bs.valid s.bs[k] (List.getElem_mem hk)
 have hl:=z5h hv
 have hf:=z4l hv
 refine ⟨?_,by rw [zhe hv,hp]⟩
 rw [zu8,List.drop_eq_getElem_cons hk,List.flatMap_cons,hf.2]
 exact z61 hl.2 _
theorem z1g.lt:∀ {n:Int} {bs:List BatM},z1g n bs->∀ (j i:Nat) (hi:i<bs.length) (hj:j<i),n<=(bs[j]'(by omega)).base/\(bs[j]'(by omega)).base+zp (bs[j]'(by omega))<=bs[i].base
 | n,b::bs,⟨h1,h2,h3,h4⟩,0,i+1,hi,hj=>by
  refine ⟨h3,?_⟩
  simp only [List.getElem_cons_zero,List.getElem_cons_succ]
  have hi:i<bs.length:=by simpa using hi
  obtain ⟨s1,-,-,-,-⟩:=z11 b h1
  cases i with
  | zero =>
   cases bs with
   | nil=>simp at hi
   | cons c cs=>exact h4.2.2.1
  | succ i =>
   have:=(h4.lt 0 (i+1) hi (by omega)).1
   have h5:=(h4.lt 0 (i+1) hi (by omega)).2
   obtain ⟨s2,-,-,-,-⟩:=z11 _ (h4.valid _ (List.getElem_mem (show 0<bs.length by omega))).1
   omega
 | n,b::bs,⟨h1,h2,h3,h4⟩,j+1,i+1,hi,hj=>by
  simp only [List.getElem_cons_succ]
  have hi:i<bs.length:=by simpa using hi
  have:=h4.lt j i hi (by omega)
  obtain ⟨s1,-,-,-,-⟩:=z11 b h1
  exact ⟨by omega,this.2⟩
theorem z1g.le_next {n:Int} {bs:List BatM} (h:z1g n bs) {b:BatM} (hb:b ∈ bs):b.base+zp b<=z0a bs:=by
 obtain ⟨j,hj,rfl⟩:=List.mem_iff_getElem.1 hb
 have hne:bs≠[]:=by rintro rfl;simp at hj
 have e:z0a bs=(bs[bs.length-1]'(by omega)).base+zp (bs[bs.length-1]'(by omega)):=by
  unfold z0a
  rw [List.getLast?_eq_getElem?,List.getElem?_eq_getElem (by omega)]
 rw [e]
 by_cases hjl:j=bs.length-1
 ·subst hjl;exact Int.le_refl _
 ·have:=(h.lt j (bs.length-1) (by omega) (by omega)).2
  obtain ⟨s1,-,-,-,-⟩:=z11 _ (h.valid _ (List.getElem_mem (show bs.length-1<bs.length by omega))).1
  omega
theorem zfa {off:Int} {b:BatM} (hv:z05 b=0) (h:b.base+zp b<=off):z0o off b=none:=by
 unfold z0o
 rw [if_pos (.inr (by unfold z1m;rw [if_neg (by rw [hv];simp)];exact h))]
theorem zoo {off:Int} {b c:BatM} (hp:b.p=b) (h:z0o off b=some c):c.p=c:=by
 have hx:b.x=z7f:=by rw [<- hp];rfl
 unfold z0o at h
 split at h
 ·cases h
 ·split at h
  ·simp only [Option.some.injEq] at h;subst h;exact hp
  ·simp only [Option.some.injEq] at h;subst h;unfold zix BatM.p;simp only [hx];rfl
theorem za5 {α β:Type} {f:α->Option β} {l:List α} (h:∀ x ∈ l,f x=none):l.filterMap f=[]:=by
 rw [List.filterMap_eq_nil_iff];exact h
theorem zub {s:SegA} (h:SegOk s) (hl:s.file.length<=4194304) (gap off:Int):∃ k,k<=s.bs.length/\zv9 s (z2t (s.idx gap).l off)=((z2o s k:Nat):Int)/\∀ b ∈ s.bs.take k,b.base+zp b<=off:=by
 have hi:=zk0 gap s.bs.length (n:=s.base) (q:=(shL s.base s.fin).length) rfl h.base.1 (by omega) h.bs (by have:=z2d s;omega)
 cases hf:z2t (s.idx gap).l off with
 | none=>exact ⟨0,Nat.zero_le _,by rw [zvb];rfl,by simp⟩
 | some e =>
  unfold z2t at hf
  obtain ⟨a,c,hac,he,-⟩:=zlm hf
  have he:e.offset<=off:=by simpa using he
  obtain ⟨i,hil,hie⟩:=hi.ent e (by show e ∈ (s.idx gap).l;rw [hac];simp)
  refine ⟨i,by omega,?_,λb hb=>?_⟩
  ·show e.place=_
   rw [hie]
   unfold z2o
   simp only
   omega
  ·obtain ⟨j,hj,rfl⟩:=List.mem_iff_getElem.1 hb
   rw [List.length_take] at hj
   rw [List.getElem_take]
   have:=(h.bs.lt j i hil (by omega)).2
   rw [hie] at he
   simp only at he
   omega
theorem z0b.skip:∀ {n:Int} {l:List SegA},z0b n l->∀ (i j:Nat) (hj:j<l.length) (hi:i<j),(l[i]'(by omega)).reach<=l[j].base/\(l[i]'(by omega)).base<l[j].base
 | n,s::l,⟨h1,h2,h3⟩,0,j+1,hj,_=>by
  have hj:j<l.length:=by simpa using hj
  have:=(h3.mem l[j] (List.getElem_mem hj)).2
  simp only [List.getElem_cons_zero,List.getElem_cons_succ]
  omega
 | n,s::l,⟨h1,h2,h3⟩,i+1,j+1,hj,hi=>by
  simp only [List.getElem_cons_succ]
  exact h3.skip i j (by simpa using hj) (by omega)
theorem zxx {l:List SegA} (hok:z0b 0 l) {off:Int} {i:Nat} (hi:i<l.length) (hb:l[i].base<=off\/i=0):(z06 l).filterMap (z0o off)=(z06 (l.drop i)).filterMap (z0o off):=by
 have e:z06 l=z06 (l.take i)++z06 (l.drop i):=by unfold z06;rw [<- List.flatMap_append,List.take_append_drop]
 rw [e,List.filterMap_append,za5 (l:=z06 (l.take i)),List.nil_append]
 intro b hb'
 obtain ⟨s,hs,hbs⟩:=List.mem_flatMap.1 hb'
 obtain ⟨j,hj,rfl⟩:=List.mem_iff_getElem.1 hs
 rw [List.length_take] at hj
 rw [List.getElem_take] at hbs
 have h1:=(hok.skip j i hi (by omega)).1
 have hsg:=(hok.mem (l[j]'(by omega)) (List.getElem_mem _)).1
 have h2:=hsg.bs.le_next hbs
 have h3:=(z50 hsg).2.2.1
 refine zfa (hsg.bs.valid b hbs).1 ?_
 rcases hb with hb|hb
 ·omega
 ·omega
theorem zgc {s:SegA} (h:SegOk s):s.bs.length*10<=s.file.length:=by
 have:=z8t h.bs
 rw [z2d];omega
def z0s (pre:ByteArray):List ByteArray->DiskA->Int × List Int × DiskA
 | [],D=>(0,[],D)
 | n::ns,D=>if (z19 pre n z7e).isSome=true/\(z0y D n).1≠0 then ((z0y D n).1,[],(z0y D n).2) else
  ((z0s pre ns (if (z19 pre n z7e).isSome then (z0y D n).2 else D)).1,(match z19 pre n zv with|some b=>[(b:Int)]|none=>[])++(z0s pre ns (if (z19 pre n z7e).isSome then (z0y D n).2 else D)).2.1,(z0s pre ns (if (z19 pre n z7e).isSome then (z0y D n).2 else D)).2.2)
def z5z (pre:ByteArray):List Int->DiskA->Int × DiskA
 | [],D=>(0,D)
 | b::bs,D=>if (z0y D (zl pre b zv)).1≠0 then z0y D (zl pre b zv) else z5z pre bs (z0y D (zl pre b zv)).2
def z1i (pre:ByteArray) (l:List SegA) (D:DiskA) (base:Int):(Bool × Int) × List SegA × DiskA:=match z04 D.fs (zl pre base zv) with
 | none=>((false,3),l,D)
 | some p=>match z4b base p.1 with
  | none=>((false,(z0y D (zl pre base zv)).1),l,(z0y D (zl pre base zv)).2)
  | some q=>if q.2=p.1.length then ((true,0),l++[q.1],D) else ((false,(cutA' D (zl pre base zv) (q.2:Nat)).1),l++[q.1],(cutA' D (zl pre base zv) (q.2:Nat)).2)
def z1x (pre:ByteArray):List Int->List SegA->DiskA->Int × List SegA × DiskA
 | [],l,D=>(0,l,D)
 | b::bs,l,D=>if b<zq l then (if (z0y D (zl pre b zv)).1≠0 then ((z0y D (zl pre b zv)).1,l,(z0y D (zl pre b zv)).2) else z1x pre bs l (z0y D (zl pre b zv)).2) else
  if (z1i pre l D b).1.2≠0 then ((z1i pre l D b).1.2,(z1i pre l D b).2) else
  if (z1i pre l D b).1.1=true then z1x pre bs (z1i pre l D b).2.1 (z1i pre l D b).2.2 else ((z5z pre bs (z1i pre l D b).2.2).1,(z1i pre l D b).2.1,(z5z pre bs (z1i pre l D b).2.2).2)
def z45 (pre:ByteArray) (D:DiskA):Int × List SegA × DiskA :=
 if (z0s pre (z0w (z15 pre) D.fs) D).1≠0 then ((z0s pre (z0w (z15 pre) D.fs) D).1,[],(z0s pre (z0w (z15 pre) D.fs) D).2.2) else
  z1x pre (z0s pre (z0w (z15 pre) D.fs) D).2.1 [] (z0s pre (z0w (z15 pre) D.fs) D).2.2
theorem z00z (pre:ByteArray):pre++ByteArray.mk #[45]=z15 pre:=by
 apply zbr
 rw [zg9]
 unfold bl
 simp
theorem zw7 {pre n:ByteArray} {x:List UInt8} {v:Nat} (h:z19 pre n x=some v):v<17592186044416:=by
 unfold z19 at h
 split at h
 ·have:=zgf (k:=0) h (by omega)
  have h2:16 ^ (0+(((bl n).drop ((bl pre).length+1)).take 11).length)<=16 ^ 11:=Nat.pow_le_pow_right (by omega) (by rw [List.length_take];omega)
  omega
 ·cases h
theorem zhk {pre:ByteArray}:∀ {ns:List ByteArray} {D:DiskA},∀ b ∈ (z0s pre ns D).2.1,0<=b/\b<17592186044416
 | [],D,b,h=>by cases h
 | n::ns,D,b,h=>by
  unfold z0s at h
  split at h
  ·cases h
  ·simp only at h
   rcases List.mem_append.1 h with h|h
   ·cases hb:z19 pre n zv with
    | none=>rw [hb] at h;cases h
    | some v =>
     rw [hb] at h
     simp only [List.mem_cons,List.not_mem_nil,or_false] at h
     have:=zw7 hb
     omega
   ·exact zhk b h
theorem zey {pre:ByteArray}:∀ {ns:List ByteArray} {D:DiskA},(z0s pre ns D).2.1.length<=ns.length
 | [],D=>Nat.le_refl _
 | n::ns,D=>by
  unfold z0s
  split
  ·exact Nat.zero_le _
  ·simp only [List.length_append,List.length_cons]
   have:=zey (pre:=pre) (ns:=ns) (D:=if (z19 pre n z7e).isSome then (z0y D n).2 else D)
   split <;> simp <;> omega
section
variable {w:World} {l r:List HP} {lg:Nat} {M:LogM} {A:LogA} {D:DiskA} {gap:Int} {a:Nat} {t:SegM}
def lgR (M:LogM):HP:=HP.star (slc T.a28 1 M.z ((M.SM.map Prod.fst).flatMap z1j)) (HP.all (M.SM.map λt=>z0m M.gap t.1 t.2))
theorem z8w (hs:Sat w (lgQ lg M::l)):okM M.gap M.seg M.pre/\Sat w (pt lg (.cells #[.pointer (some ⟨M.d,0,none⟩),.string M.pre,.int .i64 M.seg,.int .i64 M.gap,.slice M.z.a M.z.len M.z.cap] T.a48)::lgR M::l):=by
 obtain ⟨h,hs⟩:=hs.and
 exact ⟨h,hs.star⟩
theorem z44 (M:LogM) (h:okM M.gap M.seg M.pre) (hs:Sat w (pt lg (.cells #[.pointer (some ⟨M.d,0,none⟩),.string M.pre,.int .i64 M.seg,.int .i64 M.gap,.slice M.z.a M.z.len M.z.cap] T.a48)::lgR M::l)):Sat w (lgQ lg M::l):=.and_mk h (.star_mk hs)
theorem z017 {r1:List HP} [hf:Fo l lgQ lg M r1] [hf2:Fo r1 dk M.d D r] (hs:Sat w l) :
  Ret P F.a112 #[.pointer (some ⟨lg,0,none⟩)] w λvs w' =>
   ((z0s M.pre (z0w (z15 M.pre) D.fs) D).1≠0/\vs=[.slice none 0 0,.int .i64 (z0s M.pre (z0w (z15 M.pre) D.fs) D).1]/\Sat w' (lgQ lg M::dk M.d (z0s M.pre (z0w (z15 M.pre) D.fs) D).2.2::r)) \/
   ((z0s M.pre (z0w (z15 M.pre) D.fs) D).1=0/\∃ z:Sl,vs=[z.v,.int .i64 0]/\Sat w' (slc T.a13 1 z ((z0s M.pre (z0w (z15 M.pre) D.fs) D).2.1.flatMap z3s)::lgQ lg M::dk M.d (z0s M.pre (z0w (z15 M.pre) D.fs) D).2.2::r)) :=
 zmf _ <| by
  delta zzd AB AF AI AJ AL AN AQ AR AT AU Aa Ac Ah Ai Al Am Ax Ay Az B8 BG
  have hs:=hs.perm (hf.perm.trans (.cons _ hf2.perm))
  clear hf hf2
  obtain ⟨hokm,hs⟩:=z8w hs
  have hsz:=hokm.size
  refine zy hs λw' hs=>?_
  refine zj ?_
  refine za hs ?_
  refine zj ?_
  refine za hs ?_
  refine wp_must (by omega) ?_
  rw [z00z]
  obtain ⟨m_,FS_,-,hokD,-⟩:=z1w (hs.pick [2])
  have hok24:∀ n ∈ z0w (z15 M.pre) D.fs,n.size<=24:=λn hn=>by
   unfold z0w at hn
   obtain ⟨f,hf,rfl⟩:=List.mem_map.1 (List.mem_filter.1 hn).1
   exact hokD.names f hf
  have hnl:(z0w (z15 M.pre) D.fs).length<=128:=by
   unfold z0w
   exact Nat.le_trans (List.length_filter_le _ _) (by rw [List.length_map];exact hokD.many)
  refine z8 (zp3 (d:=M.d) (A:=D) (z15 M.pre) hs) λ_ w' hs=>?_
  obtain ⟨x,rfl,hs⟩:=hs
  refine zb ?_
  refine zd ?_
  generalize z0w (z15 M.pre) D.fs=ns at *
  have hl:=hs.slen x (xs:=ns) (enc:=z22)
  refine zf (λq w'=>∃ z:Sl,q=(z,())/\(z0s M.pre ns D).1=0/\Sat w' (slc T.a13 1 z ((z0s M.pre ns D).2.1.flatMap z3s)::lgQ lg M::dk M.d (z0s M.pre ns D).2.2::r)) ?_ ?_
  rotate_left
  ·rintro _ w2 ⟨z,rfl,h1,hs⟩
   exact ⟨rfl,.inr ⟨h1,z,rfl,hs⟩⟩
  have hs:Sat w' (slc T.a13 1 ⟨none,0,0⟩ (([]:List Int).flatMap z3s)::dk M.d D::pt lg (.cells #[.pointer (some ⟨M.d,0,none⟩),.string M.pre,.int .i64 M.seg,.int .i64 M.gap,.slice M.z.a M.z.len M.z.cap] T.a48)::lgR M::slc T.a51 1 x (ns.flatMap z22)::r):=by
   have h1:Sat w' (slc T.a13 1 ⟨none,0,0⟩ (([]:List Int).flatMap z3s)::_):=hs.slc_nil
   exact h1.sub
  refine z02 (λm v w=>∃ (i:Nat) (z:Sl) (done:List Int) (D':DiskA),v=(z,((i:Int),()))/\i<=ns.length/\ns.length-i=m/\done.length<=i /\
   ((z0s M.pre ns D).1=(z0s M.pre (ns.drop i) D').1/\(z0s M.pre ns D).2.2=(z0s M.pre (ns.drop i) D').2.2/\((z0s M.pre (ns.drop i) D').1=0->(z0s M.pre ns D).2.1=done++(z0s M.pre (ns.drop i) D').2.1)) /\
   Sat w (slc T.a13 1 z (done.flatMap z3s)::dk M.d D'::pt lg (.cells #[.pointer (some ⟨M.d,0,none⟩),.string M.pre,.int .i64 M.seg,.int .i64 M.gap,.slice M.z.a M.z.len M.z.cap] T.a48)::lgR M::slc T.a51 1 x (ns.flatMap z22)::r)) ns.length
   ⟨0,⟨none,0,0⟩,[],D,rfl,by omega,rfl,by simp,⟨rfl,rfl,λ_=>rfl⟩,hs⟩ ?_
  clear hs
  rintro m _ w ⟨i,z,done,D',rfl,hi,hm,hdl,⟨hq1,hq2,hq3⟩,hs⟩
  refine zm ?_
  refine ze (λhc=>?_) λhc=>?_
  rotate_left
  ·have e:ns.drop i=[]:=List.drop_eq_nil_of_le (by omega)
   rw [e] at hq1 hq2 hq3
   have hq3:=hq3 rfl
   have e2:(z0s M.pre [] D').2.1=[]:=rfl
   rw [e2,List.append_nil] at hq3
   refine zh (zg ⟨z,rfl,hq1,?_⟩)
   have e3:(z0s M.pre [] D').2.2=D':=rfl
   rw [hq2,hq3,e3]
   have hs:=z44 M hokm (hs.pick [2,2])
   exact hs.sub
  have hil:i<ns.length:=by omega
  have hdrop:ns.drop i=ns[i]::ns.drop (i+1):=List.drop_eq_getElem_cons hil
  rw [hdrop] at hq1 hq2 hq3
  have hn24:=hok24 ns[i] (List.getElem_mem hil)
  refine z1y hs (xs:=ns) (enc:=z22) i hil ?_
  refine wp_lt ?_
  refine z8 (zoe (lg:=lg) ns[i] (ByteArray.mk #[46,108,111,103]) (by omega) (by decide) M.pre hsz hs) λ_ w' hs=>?_
  obtain ⟨rfl,hs⟩:=hs
  refine zb ?_
  refine wp_lt ?_
  refine wp_lt ?_
  have eb:z19 M.pre ns[i] (bl (ByteArray.mk #[46,108,111,103]))=z19 M.pre ns[i] zv:=rfl
  rw [eb]
  refine zf (λq w'=>∃ z':Sl,q=(z',())/\Sat w' (slc T.a13 1 z' ((done++(match z19 M.pre ns[i] zv with|some b=>[(b:Int)]|none=>[])).flatMap z3s)::dk M.d D'::pt lg (.cells #[.pointer (some ⟨M.d,0,none⟩),.string M.pre,.int .i64 M.seg,.int .i64 M.gap,.slice M.z.a M.z.len M.z.cap] T.a48)::lgR M::slc T.a51 1 x (ns.flatMap z22)::r)) ?_ ?_
  ·cases hb:z19 M.pre ns[i] zv with
   | none =>
    refine zw ?_ (by simp)
    refine zg ⟨z,rfl,?_⟩
    rw [List.append_nil]
    exact hs
   | some b =>
    refine z0q ?_ (by rfl)
    refine z6b (xs:=done) (enc:=z3s) (y:=(b:Int)) hs (λz' w' hs=>?_) rfl (by omega)
    exact zg ⟨z',rfl,hs⟩
  rintro _ w2 ⟨z',rfl,hs⟩
  have hdl2:(done++(match z19 M.pre ns[i] zv with|some b=>[(b:Int)]|none=>[])).length<=i+1:=by
   rw [List.length_append]
   split <;> simp <;> omega
  refine z8 (zoe (lg:=lg) ns[i] (ByteArray.mk #[46,110,101,119]) (by omega) (by decide) M.pre hsz hs) λ_ w' hs=>?_
  obtain ⟨rfl,hs⟩:=hs
  refine zb ?_
  refine wp_lt ?_
  refine wp_lt ?_
  have eb2:z19 M.pre ns[i] (bl (ByteArray.mk #[46,110,101,119]))=z19 M.pre ns[i] z7e:=rfl
  rw [eb2]
  have hun:z0s M.pre (ns[i]::ns.drop (i+1)) D'=if (z19 M.pre ns[i] z7e).isSome=true/\(z0y D' ns[i]).1≠0 then ((z0y D' ns[i]).1,[],(z0y D' ns[i]).2) else
   ((z0s M.pre (ns.drop (i+1)) (if (z19 M.pre ns[i] z7e).isSome then (z0y D' ns[i]).2 else D')).1,(match z19 M.pre ns[i] zv with|some b=>[(b:Int)]|none=>[])++(z0s M.pre (ns.drop (i+1)) (if (z19 M.pre ns[i] z7e).isSome then (z0y D' ns[i]).2 else D')).2.1,(z0s M.pre (ns.drop (i+1)) (if (z19 M.pre ns[i] z7e).isSome then (z0y D' ns[i]).2 else D')).2.2):=rfl
  refine zf (λq w'=>¬ ((z19 M.pre ns[i] z7e).isSome=true/\(z0y D' ns[i]).1≠0)/\Sat w' (slc T.a13 1 z' ((done++(match z19 M.pre ns[i] zv with|some b=>[(b:Int)]|none=>[])).flatMap z3s)::dk M.d (if (z19 M.pre ns[i] z7e).isSome then (z0y D' ns[i]).2 else D')::pt lg (.cells #[.pointer (some ⟨M.d,0,none⟩),.string M.pre,.int .i64 M.seg,.int .i64 M.gap,.slice M.z.a M.z.len M.z.cap] T.a48)::lgR M::slc T.a51 1 x (ns.flatMap z22)::r)) ?_ ?_
  ·refine ze (λh=>?_) λh=>?_
   rotate_left
   ·refine zg ⟨λhh=>h hh.1,?_⟩
    rw [if_neg h]
    exact hs
   refine zj ?_
   refine za hs ?_
   refine z8 (zb3 (d:=M.d) (A:=D') ns[i] hs) λ_ w' hs=>?_
   obtain ⟨rfl,hs⟩:=hs
   refine zb ?_
   refine wp_lt ?_
   refine ze (λh2=>?_) λh2=>?_
   ·refine wp_lt ?_
    rw [if_pos ⟨h,h2⟩] at hun
    rw [hun] at hq1 hq2
    have hs:=z44 M hokm (hs.pick [2,2])
    refine zh (zh (zh ⟨rfl,.inl ⟨by rw [hq1];exact h2,by rw [hq1],?_⟩⟩))
    rw [hq2]
    exact hs.sub
   ·refine zg ⟨λhh=>h2 hh.2,?_⟩
    rw [if_pos h]
    exact hs.sub
  rintro _ w3 ⟨hno,hs⟩
  rw [if_neg hno] at hun
  rw [hun] at hq1 hq2 hq3
  refine zm ?_
  rw [wS (i:=i) (by omega)]
  refine z0z (ns.length-(i+1)) ⟨i+1,z',done++(match z19 M.pre ns[i] zv with|some b=>[(b:Int)]|none=>[]),_,rfl,by omega,rfl,hdl2,⟨hq1,hq2,λh=>?_⟩,hs⟩
  rw [hq3 h,List.append_assoc]
theorem z011 (x:Sl) (bs:List Int) (hb:∀ b ∈ bs,0<=b/\b<17592186044416) {r1:List HP} [hf:Fo l lgQ lg M r1] [hf2:Fo r1 dk M.d D r] (hx:FocR r x 1 (bs.flatMap z3s)) (hlen:bs.length<=1000000) (hs:Sat w l) :
  Ret P F.a111 #[.pointer (some ⟨lg,0,none⟩),x.v] w λvs w'=>vs=[.int .i64 (z5z M.pre bs D).1]/\Sat w' (lgQ lg M::dk M.d (z5z M.pre bs D).2::r) :=
 zme _ x <| by
  delta zzc AA AB AF AI AL AN AW Aa Ac Ah Ai Am Aq Aw Ax Ay Bg
  have hs:=hs.perm (hf.perm.trans (.cons _ hf2.perm))
  clear hf hf2
  obtain ⟨hokm,hs⟩:=z8w hs
  have hsz:=hokm.size
  have hl:=hs.slen x (xs:=bs) (enc:=z3s)
  refine zf (λ_ w'=>(z5z M.pre bs D).1=0/\Sat w' (lgQ lg M::dk M.d (z5z M.pre bs D).2::r)) ?_ ?_
  rotate_left
  ·rintro _ w2 ⟨h1,hs⟩
   rw [h1]
   exact ⟨rfl,rfl,hs⟩
  refine z02 (λm v w=>∃ (i:Nat) (D':DiskA),v=((i:Int),())/\i<=bs.length/\bs.length-i=m/\z5z M.pre bs D=z5z M.pre (bs.drop i) D' /\
   Sat w (pt lg (.cells #[.pointer (some ⟨M.d,0,none⟩),.string M.pre,.int .i64 M.seg,.int .i64 M.gap,.slice M.z.a M.z.len M.z.cap] T.a48)::lgR M::dk M.d D'::r)) bs.length ⟨0,D,rfl,by omega,rfl,rfl,hs⟩ ?_
  clear hs
  rintro m _ w ⟨i,D',rfl,hi,hm,hq,hs⟩
  refine zm ?_
  refine ze (λhc=>?_) λhc=>?_
  rotate_left
  ·have e:bs.drop i=[]:=List.drop_eq_nil_of_le (by omega)
   rw [e] at hq
   refine zh (zg ⟨by rw [hq];rfl,?_⟩)
   rw [hq]
   exact z44 M hokm hs
  have hil:i<bs.length:=by omega
  rw [List.drop_eq_getElem_cons hil] at hq
  have hbb:=hb bs[i] (List.getElem_mem hil)
  refine z1y hs (xs:=bs) (enc:=z3s) i hil ?_
  refine wp_lt ?_
  have hun:z5z M.pre (bs[i]::bs.drop (i+1)) D'=if (z0y D' (zl M.pre bs[i] zv)).1≠0 then z0y D' (zl M.pre bs[i] zv) else z5z M.pre (bs.drop (i+1)) (z0y D' (zl M.pre bs[i] zv)).2:=rfl
  refine zf (λv w'=>v=((z0y D' (zl M.pre bs[i] zv)).1,())/\Sat w' (pt lg (.cells #[.pointer (some ⟨M.d,0,none⟩),.string M.pre,.int .i64 M.seg,.int .i64 M.gap,.slice M.z.a M.z.len M.z.cap] T.a48)::lgR M::dk M.d (z0y D' (zl M.pre bs[i] zv)).2::r)) ?_ ?_
  ·refine zy hs λw' hs=>?_
   refine zj ?_
   refine z0x hs ?_
   refine z8 (z7d (lg:=lg) bs[i] hbb (ByteArray.mk #[46,108,111,103]) (by decide) M.pre hsz hs) λ_ w' hs=>?_
   obtain ⟨rfl,hs⟩:=hs
   refine zb ?_ (by first|trivial|(repeat (first|exact trivial|exact λ_=>z08 hs|exact λ_=>z0i hs|refine And.intro ?_ ?_)))
   refine zd ?_
   refine z8 (zb3 (d:=M.d) (A:=D') (zl M.pre bs[i] (bl (ByteArray.mk #[46,108,111,103]))) hs) λ_ w' hs=>?_
   obtain ⟨rfl,hs⟩:=hs
   refine zb ?_
   refine wp_lt ?_
   refine zd ?_
   have hs:Sat w' (dk M.d (z0y D' (zl M.pre bs[i] zv)).2::_):=hs
   exact zg ⟨rfl,hs.sub⟩
  rintro _ w2 ⟨rfl,hs⟩
  refine ze (λh=>?_) λh=>?_
  ·refine wp_lt ?_
   rw [if_pos h] at hun
   rw [hun] at hq
   rw [hq]
   exact zh (zh ⟨rfl,rfl,z44 M hokm hs⟩)
  ·rw [if_neg h] at hun
   rw [hun] at hq
   rw [wS (i:=i) (by omega)]
   exact z0z (bs.length-(i+1)) ⟨i+1,_,rfl,by omega,rfl,hq,hs⟩
end
theorem zfu (k:Nat) (n:Int) (raw:List UInt8):z25 (k+1) n raw=match z0v raw with
  | none=>([],0)
  | some (body,m)=>match z5i body with
   | none=>([],0)
   | some b=>if b.base<n then ([],0) else (b::(z25 k (b.base+zp b) (raw.drop m)).1,m+(z25 k (b.base+zp b) (raw.drop m)).2):=rfl
theorem zcp {fs:List FileA} {n:ByteArray} {p:List UInt8 × Nat} (h:z04 fs n=some p):p.1.length<=used fs:=z7k (zqi h)
section
variable {w:World} {l r:List HP} {lg:Nat} {M:LogM} {A:LogA} {D:DiskA} {gap:Int} {a:Nat} {t:SegM}
theorem zy1 (b:BatM) (z:Sl) (hv:z05 b=0) (hp:b.p=b) [hf:Fo l (z0m gap) a t r] [hb:FocR r z 4 (b.rs.flatMap z00)] (hlen:t.s.file.length+(frL b).length<=1000000000) (hs:Sat w l) :
  Ret P F.a129 #[.pointer (some ⟨a,0,none⟩),.agg (zo (b.at z)).toArray,.int .i64 ((frL b).length:Nat)] w λvs w'=>vs=[]/\Sat w' (z0m gap a ⟨t.ix,t.s.add [b]⟩::r):=by
 have hb':FocR r (b.at z).x 4 ((b.at z).rs.flatMap z00):=hb
 have h:=zvs (gap:=gap) (a:=a) (b.at z) hv hlen hs
 have e:t.s.add [b.at z]=t.s.add [b]:=by
  unfold SegA.add
  have:(b.at z).p=b.p:=rfl
  simp only [List.map_cons,List.map_nil,this]
 rw [e] at h
 exact h
set_option maxHeartbeats 1000000 in
theorem z040 (base:Int) (hb:0<=base/\base<17592186044416) {r1:List HP} [hf:Fo l lgQ lg M r1] [hf2:Fo r1 dk M.d D r] (hlen:M.SM.length<=1000000) (hs:Sat w l) :
  Ret P F.a118 #[.pointer (some ⟨lg,0,none⟩),.int .i64 base] w λvs w'=>vs=[.bool (z1i M.pre M.l D base).1.1,.int .i64 (z1i M.pre M.l D base).1.2] /\
   ∃ M':LogM,(M'.d=M.d/\M'.pre=M.pre/\M'.seg=M.seg/\M'.gap=M.gap)/\M'.l=(z1i M.pre M.l D base).2.1/\M'.SM.length<=M.SM.length+1/\Sat w' (lgQ lg M'::dk M.d (z1i M.pre M.l D base).2.2::r) :=
 zml _ base <| by
  delta zzj AB AD AE AF AI AJ AK AU Aa Ac Ad Ae Ah Ai Al Am An Ao Aq Ar Aw Ax B8 BL Bg Br
  have hs:=hs.perm (hf.perm.trans (.cons _ hf2.perm))
  clear hf hf2
  obtain ⟨hokm,hs⟩:=z8w hs
  have hsz:=hokm.size
  obtain ⟨m_,FS_,-,hokD,-⟩:=z1w (hs.pick [2])
  refine z8 (z7d (lg:=lg) base hb (ByteArray.mk #[46,108,111,103]) (by decide) M.pre hsz hs) λ_ w' hs=>?_
  obtain ⟨rfl,hs⟩:=hs
  refine zb ?_
  have en:zl M.pre base (bl (ByteArray.mk #[46,108,111,103]))=zl M.pre base zv:=rfl
  rw [en]
  generalize hnm:zl M.pre base zv=nm at *
  refine wp_lt ?_
  refine zj ?_
  refine za hs ?_
  have hsame:∀ {w:World} {D':DiskA},Sat w (pt lg (.cells #[.pointer (some ⟨M.d,0,none⟩),.string M.pre,.int .i64 M.seg,.int .i64 M.gap,.slice M.z.a M.z.len M.z.cap] T.a48)::lgR M::dk M.d D'::r)->∃ M':LogM,(M'.d=M.d/\M'.pre=M.pre/\M'.seg=M.seg/\M'.gap=M.gap)/\M'.l=M.l/\M'.SM.length<=M.SM.length+1/\Sat w (lgQ lg M'::dk M.d D'::r):=λhs=>⟨M,⟨rfl,rfl,rfl,rfl⟩,rfl,by omega,z44 M hokm hs⟩
  unfold z1i
  rw [hnm]
  refine z8 (zfo (d:=M.d) (A:=D) nm hs) λ_ w' hs=>?_
  rcases hs with ⟨f,hff,hfn,x,rfl,hs⟩|⟨hno,rfl,hs⟩
  rotate_left
  ·refine zb ?_
   refine wp_lt ?_
   refine z0q ?_ (by decide)
   refine wp_lt ?_
   rw [zar.2 hno]
   exact ⟨rfl,rfl,hsame hs.sub⟩
  refine zb ?_
  refine wp_lt ?_
  refine zw ?_ (by simp)
  have hfd:z04 D.fs nm=some (f.b,f.kept):=by rw [<- hfn];exact zbw (z2i hokD.sorted) hff
  have hrl:f.b.length<=4194304:=Nat.le_trans (z7k hff) hokD.used
  rw [hfd]
  simp only
  generalize f.b=raw at *
  have hl:=hs.slen x (xs:=raw) (enc:=zi)
  have hcap:=hs.slc_cap
  refine z8 (zaq x raw hcap (by omega) hs) λ_ w' hs=>?_
  obtain ⟨y,rfl,hs⟩:=hs
  refine zb ?_
  refine wp_lt ?_
  refine wp_lt ?_
  refine zf (λq w'=>∃ v:Int,q=(v,(z4b base raw).isSome,())/\(∀ s,z4b base raw=some s->v=s.1.fin)/\Sat w' (slc T.a59 1 x (raw.flatMap zi)::pt lg (.cells #[.pointer (some ⟨M.d,0,none⟩),.string M.pre,.int .i64 M.seg,.int .i64 M.gap,.slice M.z.a M.z.len M.z.cap] T.a48)::lgR M::dk M.d D::r)) ?_ ?_
  ·cases hfr:z0v raw with
   | none =>
    rw [hfr] at hs
    have e:z4b base raw=none:=by unfold z4b;rw [hfr]
    rw [e]
    refine zw ?_ (by simp)
    exact zg ⟨0,rfl,(λs h=>by cases h),hs.sub⟩
   | some q =>
    obtain ⟨body,m⟩:=q
    rw [hfr] at hs
    have hs:Sat w' (slc T.a59 1 y (body.flatMap zi)::_):=hs
    obtain ⟨-,-,hbd,-⟩:=z5l hfr
    refine z0q ?_ (by rfl)
    refine z8 (zwn y body base (by omega) (by omega) hs) λ_ w' hs=>?_
    obtain ⟨v,rfl,hv,hs⟩:=hs
    refine zb ?_
    refine wp_lt ?_
    refine wp_lt ?_
    have e:z4b base raw=match z5c base body with
      | none=>none
      | some fin=>some (⟨base,fin,(z25 raw.length base (raw.drop m)).1⟩,m+(z25 raw.length base (raw.drop m)).2):=by simp only [z4b,hfr];cases z5c base body <;> rfl
    rw [e]
    cases hh:z5c base body with
    | none=>exact zg ⟨v,rfl,(λs h=>by cases h),hs.sub⟩
    | some fin =>
     have:=hv fin hh
     subst this
     exact zg ⟨v,rfl,(λs h=>by simp only [Option.some.injEq] at h;subst h;rfl),hs.sub⟩
  rintro _ w2 ⟨v,rfl,hv,hs⟩
  cases hsc:z4b base raw with
  | none =>
   refine z0q ?_ (by simp)
   refine zj ?_
   refine za hs ?_
   refine z8 (zb3 (d:=M.d) (A:=D) nm hs) λ_ w' hs=>?_
   obtain ⟨rfl,hs⟩:=hs
   refine zb ?_
   refine wp_lt ?_
   exact ⟨rfl,rfl,hsame hs.sub⟩
  | some q =>
   obtain ⟨s,mm⟩:=q
   dsimp only
   have hv:=hv _ hsc
   have hv:v=s.fin:=hv
   subst hv
   obtain ⟨hsok,hsb,hst,hsm,hsml⟩:=zkw hsc
   refine zw ?_ (by simp)
   obtain ⟨m0,hm0,htk⟩:∃ m0,((z0v raw).getD ([],0)).2=m0/\m0<=raw.length/\m0=(shL s.base s.fin).length/\s.bs=(z25 raw.length base (raw.drop m0)).1/\mm=m0+(z25 raw.length base (raw.drop m0)).2:=by
    unfold z4b at hsc
    cases hfr:z0v raw with
    | none=>rw [hfr] at hsc;cases hsc
    | some q =>
     obtain ⟨body,m⟩:=q
     rw [hfr] at hsc
     simp only at hsc
     cases hh:z5c base body with
     | none=>rw [hh] at hsc;cases hsc
     | some fin =>
      rw [hh] at hsc
      simp only [Option.some.injEq,Prod.mk.injEq] at hsc
      obtain ⟨e1,e2⟩:=hsc
      obtain ⟨f1,f2,f3,f4⟩:=z5l hfr
      obtain ⟨-,-,hb3⟩:=zhr hh
      refine ⟨m,rfl,f2,?_,by rw [<- e1],e2.symm⟩
      rw [<- e1]
      show m=(shL base fin).length
      unfold shL
      rw [z7j (by have:=zd0 base fin;omega),<- hb3,f1]
   obtain ⟨h1,h2,h3,h4⟩:=htk
   rw [hm0]
   have hbase0:=hsok.base
   have hfin0:0<=s.fin/\s.fin<9223372036854775808:=by have:=hsok.fin;omega
   have hs:=z44 M hokm (hs.pick [1,1])
   refine z8 (zka (lg:=lg) base s.fin (by omega) hfin0 hs) λ_ w' hs=>?_
   obtain ⟨a,ix,rfl,hs⟩:=hs
   refine zb ?_
   refine wp_lt ?_
   refine zf (λq w'=>q=((mm:Int),())/\Sat w' (z0m M.gap a ⟨ix,s⟩::lgQ lg M::slc T.a59 1 x (raw.flatMap zi)::dk M.d D::r)) ?_ ?_
   ·refine z02 (λk q w=>∃ (at_:Nat) (n:Int) (done:List BatM),q=((at_:Int),(n,()))/\at_<=raw.length/\raw.length-at_<=k /\
     s.bs=done++(z25 k n (raw.drop at_)).1/\mm=at_+(z25 k n (raw.drop at_)).2/\at_=((⟨base,s.fin,[]⟩:SegA).add done).file.length /\
     Sat w (z0m M.gap a ⟨ix,(⟨base,s.fin,[]⟩:SegA).add done⟩::lgQ lg M::slc T.a59 1 x (raw.flatMap zi)::dk M.d D::r)) raw.length
     ⟨m0,base,[],rfl,h1,by omega,by rw [List.nil_append];exact h3,h4,by rw [zg7,z2d];simp only [List.flatMap_nil,List.length_nil];rw [h2,hsb];omega,by rw [zg7];exact hs⟩ ?_
    clear hs
    rintro k _ w ⟨at_,n,done,rfl,ha1,ha2,ha3,ha4,ha5,hs⟩
    have hend:z25 k n (raw.drop at_)=([],0)->∀ {w:World},Sat w (z0m M.gap a ⟨ix,(⟨base,s.fin,[]⟩:SegA).add done⟩::lgQ lg M::slc T.a59 1 x (raw.flatMap zi)::dk M.d D::r)->at_=mm/\Sat w (z0m M.gap a ⟨ix,s⟩::lgQ lg M::slc T.a59 1 x (raw.flatMap zi)::dk M.d D::r):=by
     intro he w hs
     rw [he] at ha3 ha4
     simp only [List.append_nil] at ha3
     have hpp:done.map BatM.p=done:=by
      rw [List.map_congr_left (g:=id) λb hb=>((hsok.bs.valid b (by rw [ha3];exact hb)).2),List.map_id]
     have es:(⟨base,s.fin,[]⟩:SegA).add done=s:=by
      unfold SegA.add
      rw [hpp,<- ha3,<- hsb]
      rfl
     rw [es] at hs
     exact ⟨ha4.symm,hs⟩
    refine zm ?_
    refine wp_must (by omega) ?_
    rw [Int.toNat_natCast]
    have hxc:FocR (z0m M.gap a ⟨ix,(⟨base,s.fin,[]⟩:SegA).add done⟩::lgQ lg M::slc T.a59 1 x (raw.flatMap zi)::dk M.d D::r) ⟨z1r x.a 1 at_ x.cap,x.len-at_,x.cap-at_⟩ 1 ((raw.drop at_).flatMap zi):=FocR.post hcap
    refine z8 (zaq ⟨z1r x.a 1 at_ x.cap,x.len-at_,x.cap-at_⟩ (raw.drop at_) (by show x.len-at_<=x.cap-at_;omega) (by rw [List.length_drop];omega) hs) λ_ w' hs=>?_
    obtain ⟨y,rfl,hs⟩:=hs
    refine zb ?_
    refine wp_lt ?_
    refine wp_lt ?_
    cases hfr:z0v (raw.drop at_) with
    | none =>
     rw [hfr] at hs
     refine z0q ?_ (by simp)
     have he:z25 k n (raw.drop at_)=([],0):=by
      cases k with
      | zero=>rfl
      | succ k=>rw [zfu,hfr]
     obtain ⟨e1,hs⟩:=hend he hs.tail
     refine zh (zg ⟨by rw [e1],hs⟩)
    | some q =>
     obtain ⟨body,m⟩:=q
     rw [hfr] at hs
     have hs:Sat w' (slc T.a59 1 y (body.flatMap zi)::_):=hs
     obtain ⟨f1,f2,hbd,f4⟩:=z5l hfr
     rw [List.length_drop] at f2
     dsimp only [Option.getD,Option.isSome]
     refine zw ?_ (by simp)
     obtain ⟨k,rfl⟩:∃ k',k=k'+1:=⟨k-1,by omega⟩
     rw [zfu,hfr] at ha3 ha4 hend
     refine z8 (zjm y body (by omega) hs) λ_ w' hs=>?_
     rcases hs with ⟨b,z,hdec,rfl,hs⟩|⟨hdec,rfl,hs⟩
     rotate_left
     ·refine ⟨(0,0,0,0,0,0,z7f,6,()),rfl,trivial,zd3 _ _ _ _ _ _ _ _ ?_⟩
      refine zt hs λc w' hs=>?_
      refine zu hs λw' hs=>?_
      refine wp_lt ?_
      refine za hs ?_
      refine z0q ?_ (.inl (by decide))
      obtain ⟨e1,hs⟩:=hend (by simp only [hdec]) hs.tail.tail
      exact zh (zg ⟨by show ((at_:Int),())=_;rw [e1],hs⟩)
     ·obtain ⟨d1,d2,d3⟩:=zjl hdec
      have hfrb:(frL b).length=m:=by rw [(z4l d1).2,d2,f1]
      refine ⟨(b.base,b.pid,b.epoch,b.seq,b.kind,b.time,z,0,()),rfl,trivial,zd3 _ _ _ _ _ _ _ _ ?_⟩
      refine zt hs λc w' hs=>?_
      refine zu hs λw' hs=>?_
      refine wp_lt ?_
      refine za hs ?_
      simp only [hdec] at ha3 ha4 hend
      refine ze (λhc=>?_) λhc=>?_
      ·have hc:b.base<n:=by
        rcases hc with hc|hc
        ·exact absurd rfl hc
        ·exact hc
       obtain ⟨e1,hs⟩:=hend (by rw [if_pos hc]) hs.tail.tail.tail
       exact zh (zg ⟨by show ((at_:Int),())=_;rw [e1],hs⟩)
      have hc:¬ b.base<n:=λh=>hc (.inr h)
      rw [if_neg hc] at ha3 ha4
      simp only at ha3 ha4
      refine zk hs ?_
      have hz:FocR (pt c (.cells #[.int .i64 b.base,.int .i64 b.pid,.int .i64 b.epoch,.int .i64 b.seq,.int .i64 b.kind,.int .i64 b.time,.slice z.a z.len z.cap] T.a0)::slc T.a2 4 z (b.rs.flatMap z00)::slc T.a59 1 y (body.flatMap zi)::lgQ lg M::slc T.a59 1 x (raw.flatMap zi)::dk M.d D::r) z 4 (b.rs.flatMap z00):=inferInstance
      have hs:Sat w' (pt c (.cells #[.int .i64 b.base,.int .i64 b.pid,.int .i64 b.epoch,.int .i64 b.seq,.int .i64 b.kind,.int .i64 b.time,.slice z.a z.len z.cap] T.a0)::slc T.a2 4 z (b.rs.flatMap z00)::slc T.a59 1 y (body.flatMap zi)::z0m M.gap a ⟨ix,(⟨base,s.fin,[]⟩:SegA).add done⟩::lgQ lg M::slc T.a59 1 x (raw.flatMap zi)::dk M.d D::r):=hs
      have hml:((m:Nat):Int)=((frL b).length:Nat):=by rw [hfrb]
      show (Prog.call F.a129 [_,.agg _,.int .i64 ((m:Nat):Int)] _ _).wp P _ _ _
      rw [hml]
      refine z8 (zy1 (gap:=M.gap) (a:=a) (t:=⟨ix,(⟨base,s.fin,[]⟩:SegA).add done⟩) b z d1 d3 (by show ((⟨base,s.fin,[]⟩:SegA).add done).file.length+_<=_;rw [<- ha5];omega) hs) λ_ w' hs=>?_
      obtain ⟨rfl,hs⟩:=hs
      refine zb ?_
      have e6:((⟨base,s.fin,[]⟩:SegA).add done).add [b]=(⟨base,s.fin,[]⟩:SegA).add (done++[b]):=zob _ _ _
      have hs:Sat w' (z0m M.gap a ⟨ix,((⟨base,s.fin,[]⟩:SegA).add done).add [b]⟩::_):=hs
      rw [e6] at hs
      have hs:=z3l hs
      refine zj ?_
      refine za hs ?_
      refine wp_lt ?_
      rw [w64 (by omega) (by omega)]
      refine wp_lt ?_
      have en2:z0a ((⟨base,s.fin,[]⟩:SegA).add (done++[b])).bs=b.base+zp b:=by
       show z0a ([]++(done++[b]).map BatM.p)=_
       rw [List.nil_append,List.map_append]
       exact z3c _ _
      rw [show z0a (SegM.s ⟨ix,(⟨base,s.fin,[]⟩:SegA).add (done++[b])⟩).bs=b.base+zp b from en2]
      have hs:=z2h ⟨ix,(⟨base,s.fin,[]⟩:SegA).add (done++[b])⟩ hs
      have ec:(at_:Int)+((frL b).length:Nat)=((at_+m:Nat):Int):=by rw [hfrb];omega
      rw [ec]
      refine z0z k ⟨at_+m,b.base+zp b,done++[b],rfl,by omega,by omega,?_,?_,?_,hs.sub⟩
      ·rw [ha3,List.append_assoc,List.drop_drop];rfl
      ·rw [ha4,List.drop_drop];omega
      ·rw [<- e6,z6j,List.length_append,<- ha5]
       simp only [List.flatMap_cons,List.flatMap_nil,List.append_nil]
       omega
   clear hs
   rintro _ w3 ⟨rfl,hs⟩
   refine zm ?_
   have hs:=hs.pick [1]
   refine z8 (zys (lg:=lg) a ⟨ix,s⟩ (by omega) hs) λ_ w' hs=>?_
   obtain ⟨z,rfl,hs⟩:=hs
   refine zb ?_
   have hfin2:∀ {w:World} {D':DiskA},Sat w (lgQ lg { M with z:=z,SM:=M.SM++[(a,⟨ix,s⟩)] }::dk M.d D'::r)->∃ M':LogM,(M'.d=M.d/\M'.pre=M.pre/\M'.seg=M.seg/\M'.gap=M.gap)/\M'.l=M.l++[s]/\M'.SM.length<=M.SM.length+1/\Sat w (lgQ lg M'::dk M.d D'::r):=λhs =>
    ⟨{ M with z:=z,SM:=M.SM++[(a,⟨ix,s⟩)] },⟨rfl,rfl,rfl,rfl⟩,by unfold LogM.l;simp,by simp,hs⟩
   refine ze (λhc=>?_) λhc=>?_
   ·have hc:mm=raw.length:=by omega
    rw [if_pos hc]
    exact ⟨rfl,rfl,hfin2 hs.sub⟩
   ·rw [if_neg (show ¬ mm=raw.length by omega)]
    refine zj ?_
    obtain ⟨hokm2,hs⟩:=z8w hs
    refine za hs ?_
    refine z8 (z06j (d:=M.d) (A:=D) nm ((mm:Nat):Int) hs) λ_ w' hs=>?_
    obtain ⟨rfl,hs⟩:=hs
    refine zb ?_
    refine wp_lt ?_
    have hs:=z44 { M with z:=z,SM:=M.SM++[(a,⟨ix,s⟩)] } hokm2 (hs.pick [1,1])
    exact ⟨rfl,rfl,hfin2 hs.sub⟩
end
def z4d (a:Nat) (outs:List BatM):HP:=HP.ex λz:Sl=>HP.star (pt a (.cells #[.slice z.a z.len z.cap] T.a34)) (HP.star (slc T.a0 7 z (outs.flatMap zo)) (z1l outs))
section
variable {w:World} {l r r1 r2:List HP} {lg ao:Nat} {M:LogM} {A:LogA} {D:DiskA} {gap:Int} {a:Nat} {t:SegM} {outs:List BatM}
theorem zki (hs:Sat w (z4d ao outs::l)):∃ z:Sl,Sat w (pt ao (.cells #[.slice z.a z.len z.cap] T.a34)::slc T.a0 7 z (outs.flatMap zo)::z1l outs::l):=by
 obtain ⟨z,hs⟩:=hs.ex
 have hs:=hs.star
 exact ⟨z,((hs.pick [1]).star).pick [2]⟩
theorem zcd {z:Sl} (hs:Sat w (pt ao (.cells #[.slice z.a z.len z.cap] T.a34)::slc T.a0 7 z (outs.flatMap zo)::z1l outs::l)):Sat w (z4d ao outs::l) :=
 .ex_mk z (.star_mk (((hs.pick [1,1]).star_mk).pick [1]))
theorem zw8 {b:BatM} (hs:Sat w (slc T.a2 4 b.x (b.rs.flatMap z00)::z1l outs::l)):Sat w (z1l (outs++[b])::l):=by
 have h1:Sat w (HP.all ((b::outs).map rsP)::l):=by
  have h2:Sat w (rsP b::HP.all (outs.map rsP)::l):=hs
  exact h2.all_put
 exact h1.all_perm ((List.perm_append_comm (l₁:=[b]) (l₂:=outs)).map rsP)
theorem zjf (hs:Sat w l):Sat w (z1l []::l):=hs.all_nil
theorem zcs {b:BatM} (hb:b ∈ outs):FocR (z1l outs::l) b.x 4 (b.rs.flatMap z00):=⟨λw hs=>by
 obtain ⟨L,hs⟩:=hs.all_mem (f:=rsP) hb
 exact Sat.rd hs⟩
theorem z047 (b:BatM) (off most:Int) (a1 a2:Nat) (ho : -9223372036854775808<=off/\off<9223372036854775808) (hcap:b.x.len<=b.x.cap) (hol:outs.length<=2000000) [hf:Fo l z4d ao outs r] [h1:FocB r a1 (.cells [.int .i64 off].toArray T.a13) r1] [h2:FocB r a2 (.cells [.int .i64 most].toArray T.a12) r2] [hb:FocR r b.x 4 (b.rs.flatMap z00)] (hs:Sat w l) :
  Ret P F.a108 #[.agg (zo b).toArray,.pointer (some ⟨a1,0,none⟩),.pointer (some ⟨ao,0,none⟩),.pointer (some ⟨a2,0,none⟩)] w λvs w'=>∃ outs':List BatM,vs=[.bool (decide ((outs'.length:Int)<most))]/\outs'.map BatM.p=outs.map BatM.p++(z0o off b).toList.map BatM.p/\Sat w' (z4d ao outs'::r) :=
 zmb b.base b.pid b.epoch b.seq b.kind b.time b.x _ _ _ <| by
  delta zz9 AB AD AE AR Aa Ad Ae Ah Ai Al Am Ap Ay BF BM Bv
  obtain ⟨z,hs⟩:=zki (hs.perm hf.perm)
  have hl:=hs.slen z (xs:=outs) (enc:=zo)
  refine zn hs λa0 w' hs=>?_
  refine zk hs ?_
  refine za hs ?_
  refine z8 (z01c b off ho hcap hs) λ_ w' hs=>?_
  rcases hs with ⟨hn,rfl,hs⟩|⟨c,zc,hc,rfl,hs⟩
  ·refine ⟨(0,0,0,0,0,0,z7f,false,()),rfl,trivial,zd3 _ _ _ _ _ _ _ _ ?_⟩
   refine zt hs λa3 w' hs=>?_
   refine zu hs λw' hs=>?_
   refine wp_lt ?_
   refine z4q ?_
   refine zw ?_ (by simp)
   refine z3q ?_
   refine za hs ?_
   refine za hs ?_
   refine wp_lt ?_
   refine ⟨rfl,outs,by rw [hl],by rw [hn];simp,zcd (z:=z) hs.sub⟩
  ·refine ⟨(c.base,c.pid,c.epoch,c.seq,c.kind,c.time,zc,true,()),rfl,trivial,zd3 _ _ _ _ _ _ _ _ ?_⟩
   refine zt hs λa3 w' hs=>?_
   refine zu hs λw' hs=>?_
   refine wp_lt ?_
   refine z4q ?_
   refine z0q ?_ (by trivial)
   refine za hs ?_
   refine zk hs ?_
   refine z6b (xs:=outs) (enc:=zo) (y:=c.at zc) hs (λz' w' hs=>?_) rfl (by omega)
   refine z07 hs λw' hs=>?_
   refine z3q ?_
   refine za hs ?_
   refine za hs ?_
   refine wp_lt ?_
   have hs:Sat w' (pt ao (.cells #[.slice z'.a z'.len z'.cap] T.a34)::slc T.a0 7 z' ((outs++[c.at zc]).flatMap zo)::pt a3 _::slc T.a2 4 (c.at zc).x ((c.at zc).rs.flatMap z00)::pt a0 _::z1l outs::r):=hs
   have hl':=hs.slen z' (xs:=outs++[c.at zc]) (enc:=zo)
   refine ⟨rfl,outs++[c.at zc],by rw [hl'],by rw [hc];simp;rfl,?_⟩
   have hs:=zw8 (hs.pick [3,4])
   exact zcd (z:=z') (hs.pick [1,1,0]).sub
theorem z02e (off:Int) (hok:SegOk t.s) (hfl:t.s.file.length<=4194304) [hf:Fo l (z0m gap) a t r] (hs:Sat w l):Ret P F.a127 #[.pointer (some ⟨a,0,none⟩),.int .i64 off] w λvs w'=>vs=[.int .i64 (zv9 t.s (z2t (t.s.idx gap).l off))]/\Sat w' (z0m gap a t::r) :=
 zmt _ off <| by
  delta zzr AB AH AI AJ AL AN Aa Ac Ad Ae Af Ah Am Aq Az
  have hi:IdxOk gap (shL t.s.base t.s.fin).length t.s.bs (t.s.idx gap):=zk0 gap t.s.bs.length (n:=t.s.base) (q:=(shL t.s.base t.s.fin).length) rfl hok.base.1 (by omega) hok.bs (by have:=z2d t.s;omega)
  have hs:=z3l (hs.perm hf.perm)
  refine zj ?_
  refine za hs ?_
  refine z8 (z031 (b:=t.ix) off hi.offs hs) λ_ w' hs=>?_
  obtain ⟨rfl,hs⟩:=hs
  refine ⟨((orE (z2t (t.s.idx gap).l off)).offset,(orE (z2t (t.s.idx gap).l off)).place,(orE (z2t (t.s.idx gap).l off)).before,(z2t (t.s.idx gap).l off).isSome,()),rfl,trivial,zyv _ _ _ _ ?_⟩
  refine zt hs λc w' hs=>?_
  refine zu hs λw' hs=>?_
  refine wp_lt ?_
  cases hfe:z2t (t.s.idx gap).l off with
  | some e =>
   refine z0q ?_ (by rfl)
   rw [hfe] at hs
   refine za hs ?_
   refine wp_lt ?_
   exact ⟨rfl,rfl,z2h t hs.sub⟩
  | none =>
   refine zw ?_ (by simp)
   refine zy hs λw' hs=>?_
   refine zj ?_
   refine za hs ?_
   refine zj ?_
   refine za hs ?_
   have hb:=hok.base
   have hfn:0<=t.s.fin/\t.s.fin<9223372036854775808:=by have:=hok.fin;omega
   refine z8 (zjz t.s.base t.s.fin (by omega) hfn hs) λ_ w' hs=>?_
   obtain ⟨y,rfl,hs⟩:=hs
   refine zb ?_
   have hl:=hs.slen y (xs:=shL t.s.base t.s.fin) (enc:=zi)
   refine wp_lt ?_
   refine zd ?_
   refine ⟨rfl,?_,z2h t hs.sub⟩
   rw [hl]
   rfl
set_option maxHeartbeats 1000000 in
theorem z04a (off:Int) (most:Nat) (a1 a2:Nat) (ho : -9223372036854775808<=off/\off<9223372036854775808) {i k kp:Nat} (hsi:i<M.SM.length) (hok:SegOk M.SM[i].2.s) (hfile:z04 D.fs (zl M.pre M.SM[i].2.s.base zv)=some (M.SM[i].2.s.file,kp)) (hk:k<=M.SM[i].2.s.bs.length) (hout:outs.length<most) (hol:outs.length+M.SM[i].2.s.bs.length<=2000000)
  (hs:Sat w (z4d ao outs::lgQ lg M::dk M.d D::pt a1 (.cells [.int .i64 off].toArray T.a13)::pt a2 (.cells [.int .i64 (most:Int)].toArray T.a12)::r)) :
  Ret P F.a120 #[.pointer (some ⟨lg,0,none⟩),.pointer (some ⟨M.SM[i].1,0,none⟩),.int .i64 (z2o M.SM[i].2.s k:Nat),.func (.func F.a108) #[] #[.pointer (some ⟨a1,0,none⟩),.pointer (some ⟨ao,0,none⟩),.pointer (some ⟨a2,0,none⟩)]] w λvs w' =>
   ∃ outs':List BatM,vs=[.bool (decide (outs.length+((M.SM[i].2.s.bs.drop k).filterMap (z0o off)).length<most))]/\outs'.map BatM.p=(outs.map BatM.p++(M.SM[i].2.s.bs.drop k).filterMap (z0o off)).take most/\outs'.length<=outs.length+M.SM[i].2.s.bs.length /\
    Sat w' (z4d ao outs'::lgQ lg M::dk M.d D::pt a1 (.cells [.int .i64 off].toArray T.a13)::pt a2 (.cells [.int .i64 (most:Int)].toArray T.a12)::r) :=
 zmn _ _ _ _ <| by
  delta zzl AA AB AD AF AI AK AL AN AO AP AQ AW Aa Ac Ad Ae Ah Ai Aj Al Am Aq Ar Aw Ay BL
  obtain ⟨m_,FS_,-,hokD,-⟩:=z1w (hs.pick [2])
  obtain ⟨hokm,hs⟩:=z2k (hs.pick [1])
  have hs:=z3l (z92 (hs.pick [2]) hsi)
  generalize hT:M.SM[i]=T0 at *
  obtain ⟨a,t⟩:=T0
  dsimp only at hok hfile hk hol hs ⊢
  have hrl:t.s.file.length<=4194304:=Nat.le_trans (zcp hfile) hokD.used
  have hbl:=zgc hok
  have hb0:=hok.base
  refine zf (λq w'=>∃ x:Sl,q=(x,())/\x.len<=x.cap/\Sat w' (slc T.a59 1 x (t.s.file.flatMap zi)::pt a (.cells #[.pointer (some ⟨t.ix,0,none⟩),.int .i64 t.s.base,.int .i64 t.s.fin,.int .i64 (z0a t.s.bs),.int .i64 (z1a (-1) t.s.bs),.int .i64 (t.s.file.length:Nat)] T.a49)::z26 t.ix (t.s.idx M.gap)::HP.all ((M.SM.eraseIdx i).map λt=>z0m M.gap t.1 t.2)::pt lg (.cells #[.pointer (some ⟨M.d,0,none⟩),.string M.pre,.int .i64 M.seg,.int .i64 M.gap,.slice M.z.a M.z.len M.z.cap] T.a48)::slc T.a28 1 M.z ((M.SM.map Prod.fst).flatMap z1j)::z4d ao outs::dk M.d D::pt a1 (.cells [.int .i64 off].toArray T.a13)::pt a2 (.cells [.int .i64 (most:Int)].toArray T.a12)::r)) ?_ ?_
  ·refine zy hs λw' hs=>?_
   refine zj ?_
   refine z0x hs ?_
   refine zj ?_
   refine za hs ?_
   refine z8 (z7d (lg:=lg) t.s.base (by omega) (ByteArray.mk #[46,108,111,103]) (by decide) M.pre hokm.size hs) λ_ w' hs=>?_
   obtain ⟨rfl,hs⟩:=hs
   refine zb ?_ (by first|trivial|(repeat (first|exact trivial|exact λ_=>z08 hs|exact λ_=>z0i hs|refine And.intro ?_ ?_)))
   refine zd ?_
   have en:zl M.pre t.s.base (bl (ByteArray.mk #[46,108,111,103]))=zl M.pre t.s.base zv:=rfl
   rw [en]
   refine z8 (zfo (d:=M.d) (A:=D) (zl M.pre t.s.base zv) hs) λ_ w' hs=>?_
   rcases hs with ⟨f,hff,hfn,x,rfl,hs⟩|⟨hno,rfl,hs⟩
   ·refine zb ?_
    refine wp_lt ?_
    refine zd ?_
    have hfd:z04 D.fs f.name=some (f.b,f.kept):=zbw (z2i hokD.sorted) hff
    rw [hfn,hfile] at hfd
    simp only [Option.some.injEq,Prod.mk.injEq] at hfd
    rw [<- hfd.1] at hs
    have hcap:=hs.slc_cap
    exact zg ⟨x,rfl,hcap,hs.sub⟩
   ·rw [zar.2 hno] at hfile
    cases hfile
  clear hs
  rintro _ w ⟨x,rfl,hcap,hs⟩
  refine zm ?_
  refine wp_lt ?_
  have hl:=hs.slen x (xs:=t.s.file) (enc:=zi)
  have hfin:∀ {w:World} {outs':List BatM},Sat w (slc T.a59 1 x (t.s.file.flatMap zi)::pt a (.cells #[.pointer (some ⟨t.ix,0,none⟩),.int .i64 t.s.base,.int .i64 t.s.fin,.int .i64 (z0a t.s.bs),.int .i64 (z1a (-1) t.s.bs),.int .i64 (t.s.file.length:Nat)] T.a49)::z26 t.ix (t.s.idx M.gap)::HP.all ((M.SM.eraseIdx i).map λt=>z0m M.gap t.1 t.2)::pt lg (.cells #[.pointer (some ⟨M.d,0,none⟩),.string M.pre,.int .i64 M.seg,.int .i64 M.gap,.slice M.z.a M.z.len M.z.cap] T.a48)::slc T.a28 1 M.z ((M.SM.map Prod.fst).flatMap z1j)::z4d ao outs'::dk M.d D::pt a1 (.cells [.int .i64 off].toArray T.a13)::pt a2 (.cells [.int .i64 (most:Int)].toArray T.a12)::r) ->
    Sat w (z4d ao outs'::lgQ lg M::dk M.d D::pt a1 (.cells [.int .i64 off].toArray T.a13)::pt a2 (.cells [.int .i64 (most:Int)].toArray T.a12)::r):=by
   intro w outs' hs
   have h1:Sat w (z0m M.gap M.SM[i].1 M.SM[i].2::HP.all ((M.SM.eraseIdx i).map λt=>z0m M.gap t.1 t.2)::pt lg (.cells #[.pointer (some ⟨M.d,0,none⟩),.string M.pre,.int .i64 M.seg,.int .i64 M.gap,.slice M.z.a M.z.len M.z.cap] T.a48)::slc T.a28 1 M.z ((M.SM.map Prod.fst).flatMap z1j)::z4d ao outs'::dk M.d D::pt a1 (.cells [.int .i64 off].toArray T.a13)::pt a2 (.cells [.int .i64 (most:Int)].toArray T.a12)::r):=by
    rw [hT]
    exact z2h t hs.tail
   have h2:=z6n hsi h1
   exact (z1h M hokm (h2.pick [1,1])).sub
  have hfull:∀ {outs':List BatM} {j:Nat},outs'.map BatM.p=outs.map BatM.p++((t.s.bs.drop k).take j).filterMap (z0o off)->outs'.length=outs.length+(((t.s.bs.drop k).take j).filterMap (z0o off)).length:=λh=>by
   have:=congrArg List.length h
   simpa using this
  refine zf (λ_ w'=>∃ outs':List BatM,outs'.map BatM.p=outs.map BatM.p++(t.s.bs.drop k).filterMap (z0o off)/\outs'.length<most/\outs'.length<=outs.length+t.s.bs.length/\Sat w' (slc T.a59 1 x (t.s.file.flatMap zi)::pt a (.cells #[.pointer (some ⟨t.ix,0,none⟩),.int .i64 t.s.base,.int .i64 t.s.fin,.int .i64 (z0a t.s.bs),.int .i64 (z1a (-1) t.s.bs),.int .i64 (t.s.file.length:Nat)] T.a49)::z26 t.ix (t.s.idx M.gap)::HP.all ((M.SM.eraseIdx i).map λt=>z0m M.gap t.1 t.2)::pt lg (.cells #[.pointer (some ⟨M.d,0,none⟩),.string M.pre,.int .i64 M.seg,.int .i64 M.gap,.slice M.z.a M.z.len M.z.cap] T.a48)::slc T.a28 1 M.z ((M.SM.map Prod.fst).flatMap z1j)::z4d ao outs'::dk M.d D::pt a1 (.cells [.int .i64 off].toArray T.a13)::pt a2 (.cells [.int .i64 (most:Int)].toArray T.a12)::r)) ?_ ?_
  rotate_left
  ·rintro _ w2 ⟨outs',h1,h2,h3,hs⟩
   have h4:=congrArg List.length h1
   simp only [List.length_map,List.length_append] at h4
   refine ⟨rfl,outs',by rw [decide_eq_true (by omega)],?_,h3,hfin hs⟩
   rw [<- h1,List.take_of_length_le]
   rw [List.length_map];omega
  refine z02 (λm v w=>∃ (j:Nat) (outs':List BatM),v=(((z2o t.s (k+j):Nat):Int),())/\k+j<=t.s.bs.length/\t.s.bs.length-(k+j)=m/\outs'.map BatM.p=outs.map BatM.p++((t.s.bs.drop k).take j).filterMap (z0o off)/\outs'.length<most/\outs'.length<=outs.length+j/\Sat w (slc T.a59 1 x (t.s.file.flatMap zi)::pt a (.cells #[.pointer (some ⟨t.ix,0,none⟩),.int .i64 t.s.base,.int .i64 t.s.fin,.int .i64 (z0a t.s.bs),.int .i64 (z1a (-1) t.s.bs),.int .i64 (t.s.file.length:Nat)] T.a49)::z26 t.ix (t.s.idx M.gap)::HP.all ((M.SM.eraseIdx i).map λt=>z0m M.gap t.1 t.2)::pt lg (.cells #[.pointer (some ⟨M.d,0,none⟩),.string M.pre,.int .i64 M.seg,.int .i64 M.gap,.slice M.z.a M.z.len M.z.cap] T.a48)::slc T.a28 1 M.z ((M.SM.map Prod.fst).flatMap z1j)::z4d ao outs'::dk M.d D::pt a1 (.cells [.int .i64 off].toArray T.a13)::pt a2 (.cells [.int .i64 (most:Int)].toArray T.a12)::r)) (t.s.bs.length-k)
   ⟨0,outs,rfl,by omega,by omega,by simp,hout,by omega,hs⟩ ?_
  clear hs
  rintro m _ w ⟨j,outs',rfl,hj,hm,hmap,hlt,hol',hs⟩
  refine zm ?_
  refine z0c ?_
  refine za hs ?_
  have hple:=zgr t.s (k+j)
  refine ze (λhc=>?_) λhc=>?_
  rotate_left
  ·have hend:k+j=t.s.bs.length:=by
    apply Decidable.byContradiction
    intro hne
    have hlt2:k+j<t.s.bs.length:=by omega
    have h1:=zi7 t.s hlt2
    have h2:=zgr t.s (k+j+1)
    have h3:=z4l (hok.bs.valid _ (List.getElem_mem hlt2)).1
    exact hc ⟨by omega,by omega⟩
   refine zh (zg ⟨outs',?_,hlt,by omega,hs⟩)
   rw [hmap,List.take_of_length_le (by rw [List.length_drop];omega)]
  have hjl:k+j<t.s.bs.length:=by
   apply Decidable.byContradiction
   intro hne
   have he:k+j=t.s.bs.length:=by omega
   have h1:=zxe t.s
   rw [he] at hc
   have hc1:((z2o t.s t.s.bs.length:Nat):Int)<(x.len:Nat):=hc.1
   omega
  obtain ⟨hfst,hdec⟩:=zqk hok hjl
  obtain ⟨hvb,hpb⟩:=hok.bs.valid _ (List.getElem_mem hjl)
  have hblen:=z5h hvb
  have hxl:z2o t.s (k+j)<=x.len:=by omega
  refine wp_must (by omega) ?_
  rw [Int.toNat_natCast]
  have hxc:FocR (slc T.a59 1 x (t.s.file.flatMap zi)::pt a (.cells #[.pointer (some ⟨t.ix,0,none⟩),.int .i64 t.s.base,.int .i64 t.s.fin,.int .i64 (z0a t.s.bs),.int .i64 (z1a (-1) t.s.bs),.int .i64 (t.s.file.length:Nat)] T.a49)::z26 t.ix (t.s.idx M.gap)::HP.all ((M.SM.eraseIdx i).map λt=>z0m M.gap t.1 t.2)::pt lg (.cells #[.pointer (some ⟨M.d,0,none⟩),.string M.pre,.int .i64 M.seg,.int .i64 M.gap,.slice M.z.a M.z.len M.z.cap] T.a48)::slc T.a28 1 M.z ((M.SM.map Prod.fst).flatMap z1j)::z4d ao outs'::dk M.d D::pt a1 (.cells [.int .i64 off].toArray T.a13)::pt a2 (.cells [.int .i64 (most:Int)].toArray T.a12)::r) ⟨z1r x.a 1 (z2o t.s (k+j)) x.cap,x.len-z2o t.s (k+j),x.cap-z2o t.s (k+j)⟩ 1 ((t.s.file.drop (z2o t.s (k+j))).flatMap zi):=FocR.post hcap
  refine z8 (zaq ⟨z1r x.a 1 (z2o t.s (k+j)) x.cap,x.len-z2o t.s (k+j),x.cap-z2o t.s (k+j)⟩ (t.s.file.drop (z2o t.s (k+j))) (by show x.len-_<=x.cap-_;omega) (by rw [List.length_drop];omega) hs) λ_ w' hs=>?_
  obtain ⟨y,rfl,hs⟩:=hs
  rw [hfst] at hs ⊢
  refine zb ?_
  refine wp_lt ?_
  refine wp_lt ?_
  dsimp only [Option.getD,Option.isSome]
  have hs:Sat w' (slc T.a59 1 y ((z2c t.s.bs[k+j]).flatMap zi)::_):=hs
  refine zw ?_ (by simp)
  refine z8 (zjm y (z2c t.s.bs[k+j]) (by omega) hs) λ_ w' hs=>?_
  rcases hs with ⟨b,z,hdec2,rfl,hs⟩|⟨hdec2,rfl,hs⟩
  rotate_left
  ·rw [hdec] at hdec2;cases hdec2
  rw [hdec] at hdec2
  simp only [Option.some.injEq] at hdec2
  subst hdec2
  generalize hbb:t.s.bs[k+j]=b at *
  refine ⟨(b.base,b.pid,b.epoch,b.seq,b.kind,b.time,z,0,()),rfl,trivial,zd3 _ _ _ _ _ _ _ _ ?_⟩
  refine zt hs λc w' hs=>?_
  refine zu hs λw' hs=>?_
  refine wp_lt ?_
  have hzc:z.len<=z.cap:=(hs.pick [1]).slc_cap
  have htk:(t.s.bs.drop k).take (j+1)=(t.s.bs.drop k).take j++[b]:=by
   rw [List.take_succ_eq_append_getElem (by rw [List.length_drop];omega),List.getElem_drop,hbb]
  have hfp:(z0o off b).toList.map BatM.p=(z0o off b).toList:=by
   cases hfb:z0o off b with
   | none=>rfl
   | some c=>simp [zoo hpb hfb]
  have hfm:((t.s.bs.drop k).take (j+1)).filterMap (z0o off)=((t.s.bs.drop k).take j).filterMap (z0o off)++(z0o off b).toList:=by
   rw [htk,List.filterMap_append]
   congr 1
  have hpos:=zi7 t.s hjl
  rw [hbb] at hpos
  have hple2:=zgr t.s (k+j+1)
  refine z4q ?_
  refine zk hs ?_
  refine zw ?_ (by simp)
  have hzb:FocR (pt c (.cells #[.int .i64 b.base,.int .i64 b.pid,.int .i64 b.epoch,.int .i64 b.seq,.int .i64 b.kind,.int .i64 b.time,.slice z.a z.len z.cap] T.a0)::slc T.a2 4 z (b.rs.flatMap z00)::slc T.a59 1 y ((z2c b).flatMap zi)::slc T.a59 1 x (t.s.file.flatMap zi)::pt a (.cells #[.pointer (some ⟨t.ix,0,none⟩),.int .i64 t.s.base,.int .i64 t.s.fin,.int .i64 (z0a t.s.bs),.int .i64 (z1a (-1) t.s.bs),.int .i64 (t.s.file.length:Nat)] T.a49)::z26 t.ix (t.s.idx M.gap)::HP.all ((M.SM.eraseIdx i).map λt=>z0m M.gap t.1 t.2)::pt lg (.cells #[.pointer (some ⟨M.d,0,none⟩),.string M.pre,.int .i64 M.seg,.int .i64 M.gap,.slice M.z.a M.z.len M.z.cap] T.a48)::slc T.a28 1 M.z ((M.SM.map Prod.fst).flatMap z1j)::dk M.d D::pt a1 (.cells [.int .i64 off].toArray T.a13)::pt a2 (.cells [.int .i64 (most:Int)].toArray T.a12)::r) (b.at z).x 4 ((b.at z).rs.flatMap z00):=(inferInstance:FocR (pt c (.cells #[.int .i64 b.base,.int .i64 b.pid,.int .i64 b.epoch,.int .i64 b.seq,.int .i64 b.kind,.int .i64 b.time,.slice z.a z.len z.cap] T.a0)::slc T.a2 4 z (b.rs.flatMap z00)::_) z 4 (b.rs.flatMap z00))
  have hs:Sat w' (z4d ao outs'::pt c (.cells #[.int .i64 b.base,.int .i64 b.pid,.int .i64 b.epoch,.int .i64 b.seq,.int .i64 b.kind,.int .i64 b.time,.slice z.a z.len z.cap] T.a0)::slc T.a2 4 z (b.rs.flatMap z00)::slc T.a59 1 y ((z2c b).flatMap zi)::slc T.a59 1 x (t.s.file.flatMap zi)::pt a (.cells #[.pointer (some ⟨t.ix,0,none⟩),.int .i64 t.s.base,.int .i64 t.s.fin,.int .i64 (z0a t.s.bs),.int .i64 (z1a (-1) t.s.bs),.int .i64 (t.s.file.length:Nat)] T.a49)::z26 t.ix (t.s.idx M.gap)::HP.all ((M.SM.eraseIdx i).map λt=>z0m M.gap t.1 t.2)::pt lg (.cells #[.pointer (some ⟨M.d,0,none⟩),.string M.pre,.int .i64 M.seg,.int .i64 M.gap,.slice M.z.a M.z.len M.z.cap] T.a48)::slc T.a28 1 M.z ((M.SM.map Prod.fst).flatMap z1j)::dk M.d D::pt a1 (.cells [.int .i64 off].toArray T.a13)::pt a2 (.cells [.int .i64 (most:Int)].toArray T.a12)::r):=hs.sub
  have htold:=z047 (ao:=ao) (outs:=outs') (b.at z) off (most:Int) a1 a2 ho hzc (by omega) hs
  refine ⟨F.a108,#[],#[.pointer (some ⟨a1,0,none⟩),.pointer (some ⟨ao,0,none⟩),.pointer (some ⟨a2,0,none⟩)],rfl,by kernel_rfl,?_⟩
  refine Calls.mono htold λe w' ⟨vs,he,outs2,hvs,hmap2,hs⟩=>⟨(decide ((outs2.length:Int)<(most:Int)),()),by rw [he,hvs];rfl,trivial,?_⟩
  refine z3q ?_
  have hfe:(z0o off (b.at z)).toList.map BatM.p=(z0o off b).toList:=by
   have hpz:b={ (b.at z) with x:=z7f }:=by rw [<- hpb];rfl
   have e2:z0o off (b.at z)=(z0o off b).map λc=>c.at z:=by
    unfold z0o
    have ev:z05 (b.at z)=z05 b:=rfl
    have en:z1m (b.at z)=z1m b:=rfl
    have em:z0g (b.at z)=z0g b:=rfl
    rw [ev,en,em]
    split
    ·rfl
    ·show (if z0g b=true\/off<=b.base then _ else _)=_
     split <;> rfl
   rw [e2]
   cases hfb:z0o off b with
   | none=>rfl
   | some c =>
    have:=zoo hpb hfb
    show [(c.at z).p]=[c]
    have e3:(c.at z).p=c.p:=rfl
    rw [e3,this]
  rw [hfe,hmap,List.append_assoc,<- hfm] at hmap2
  have hlen2:=hfull hmap2
  have hfl1:(z0o off b).toList.length<=1:=by cases z0o off b <;> simp
  have hlen1:=hfull hmap
  rw [hfm,List.length_append] at hlen2
  have hback:∀ {w:World},Sat w (z4d ao outs2::pt c (.cells #[.int .i64 b.base,.int .i64 b.pid,.int .i64 b.epoch,.int .i64 b.seq,.int .i64 b.kind,.int .i64 b.time,.slice z.a z.len z.cap] T.a0)::slc T.a2 4 z (b.rs.flatMap z00)::slc T.a59 1 y ((z2c b).flatMap zi)::slc T.a59 1 x (t.s.file.flatMap zi)::pt a (.cells #[.pointer (some ⟨t.ix,0,none⟩),.int .i64 t.s.base,.int .i64 t.s.fin,.int .i64 (z0a t.s.bs),.int .i64 (z1a (-1) t.s.bs),.int .i64 (t.s.file.length:Nat)] T.a49)::z26 t.ix (t.s.idx M.gap)::HP.all ((M.SM.eraseIdx i).map λt=>z0m M.gap t.1 t.2)::pt lg (.cells #[.pointer (some ⟨M.d,0,none⟩),.string M.pre,.int .i64 M.seg,.int .i64 M.gap,.slice M.z.a M.z.len M.z.cap] T.a48)::slc T.a28 1 M.z ((M.SM.map Prod.fst).flatMap z1j)::dk M.d D::pt a1 (.cells [.int .i64 off].toArray T.a13)::pt a2 (.cells [.int .i64 (most:Int)].toArray T.a12)::r) ->
    Sat w (slc T.a59 1 x (t.s.file.flatMap zi)::pt a (.cells #[.pointer (some ⟨t.ix,0,none⟩),.int .i64 t.s.base,.int .i64 t.s.fin,.int .i64 (z0a t.s.bs),.int .i64 (z1a (-1) t.s.bs),.int .i64 (t.s.file.length:Nat)] T.a49)::z26 t.ix (t.s.idx M.gap)::HP.all ((M.SM.eraseIdx i).map λt=>z0m M.gap t.1 t.2)::pt lg (.cells #[.pointer (some ⟨M.d,0,none⟩),.string M.pre,.int .i64 M.seg,.int .i64 M.gap,.slice M.z.a M.z.len M.z.cap] T.a48)::slc T.a28 1 M.z ((M.SM.map Prod.fst).flatMap z1j)::z4d ao outs2::dk M.d D::pt a1 (.cells [.int .i64 off].toArray T.a13)::pt a2 (.cells [.int .i64 (most:Int)].toArray T.a12)::r):=λhs=>hs.sub
  have hs:=hback hs
  refine ze (λh5=>?_) λh5=>?_
  ·have h5:most<=outs2.length:=by
    have:¬ ((outs2.length:Int)<(most:Int)):=by simpa using h5
    omega
   have h6:outs2.length=most:=by omega
   have h7:((t.s.bs.drop k).filterMap (z0o off))=((t.s.bs.drop k).take (j+1)).filterMap (z0o off)++((t.s.bs.drop k).drop (j+1)).filterMap (z0o off):=by
    rw [<- List.filterMap_append,List.take_append_drop]
   have h8:=congrArg List.length hmap2
   simp only [List.length_map,List.length_append] at h8
   refine zh (zh ⟨rfl,outs2,?_,?_,by omega,hfin hs⟩)
   ·rw [decide_eq_false]
    rw [h7,List.length_append]
    omega
   ·rw [h7,<- List.append_assoc,<- hmap2]
    rw [List.take_append_of_le_length (by rw [List.length_map];omega),List.take_of_length_le (by rw [List.length_map];omega)]
  ·have h5:outs2.length<most:=by
    have:((outs2.length:Int)<(most:Int)):=by simpa using h5
    omega
   have ew:IntKind.wrap .i64 (((z2o t.s (k+j):Nat):Int)+((frL b).length:Nat))=((z2o t.s (k+(j+1)):Nat):Int):=by
    rw [show k+(j+1)=k+j+1 by omega,hpos,w64 (by omega) (by omega)];omega
   refine z1z (y:=((z2o t.s (k+(j+1)):Nat):Int)) ?_ ew
   exact z0z (t.s.bs.length-(k+(j+1))) ⟨j+1,outs2,rfl,by omega,rfl,hmap2,h5,by omega,hs⟩
end
def zj7 (pre:ByteArray) (l:List SegA) (D:DiskA):Prop:=∀ s ∈ l,∃ k,z04 D.fs (zl pre s.base zv)=some (s.file,k)
theorem zhm {l:List SegA} (hok:z0b 0 l):∀ s ∈ l,z1t l<=s.base:=by
 cases l with
 | nil=>intro s hs;cases hs
 | cons a l =>
  intro s hs
  show a.base<=s.base
  rcases List.mem_cons.1 hs with rfl|hs
  ·exact Int.le_refl _
  ·have:=(hok.2.2.mem s hs).2
   omega
theorem zez {l:List SegA} (hok:z0b 0 l):z1t l<=zq l:=by
 by_cases h:l=[]
 ·subst h;decide
 ·obtain ⟨l0,s,rfl⟩:=z35 h
  have h1:=zhm hok s (by simp)
  have h2:=(z50 (hok.mem s (by simp)).1).1
  unfold zq
  rw [z1o]
  simp only
  omega
theorem z00w {n:Int} {bs:List BatM} (h:z1g n bs):∀ b ∈ bs,n<=b.base:=by
 intro b hb
 obtain ⟨j,hj,rfl⟩:=List.mem_iff_getElem.1 hb
 cases j with
 | zero =>
  cases bs with
  | nil=>simp at hj
  | cons c cs=>exact h.2.2.1
 | succ j =>
  have h1:=h.lt 0 (j+1) hj (by omega)
  obtain ⟨s1,-,-,-,-⟩:=z11 _ (h.valid _ (List.getElem_mem (show 0<bs.length by omega))).1
  omega
theorem zug {off:Int} {b:BatM} (hv:z05 b=0) (h:off<=b.base):z0o off b=some b:=by
 obtain ⟨s1,-,-,-,-⟩:=z11 b hv
 unfold z0o
 rw [if_neg,if_pos (.inr h)]
 rintro (hh|hh)
 ·exact hh hv
 ·unfold z1m at hh;rw [if_neg (by rw [hv];simp)] at hh;omega
theorem zjq {α:Type} {f:α->Option α} {l:List α} (h:∀ x ∈ l,f x=some x):l.filterMap f=l:=by
 induction l with
 | nil=>rfl
 | cons a l ih=>rw [List.filterMap_cons,h a (List.mem_cons_self ..)];simp only;rw [ih λx hx=>h x (List.mem_cons_of_mem _ hx)]
theorem zxl {l:List SegA} (hok:z0b 0 l) {n:Int} (hn:(z06 l).length<=n) (h1:1<=n):z4g l (z1t l) n=(0,z06 l):=by
 have:=zez hok
 unfold z4g
 rw [if_neg (by omega),if_neg (by omega),zjq,List.take_of_length_le (by omega)]
 intro b hb
 obtain ⟨s,hs,hbs⟩:=List.mem_flatMap.1 hb
 have h2:=hok.mem s hs
 exact zug (h2.1.bs.valid b hbs).1 (by have:=zhm hok s hs;have:=z00w h2.1.bs b hbs;omega)
section
variable {w:World} {l r r1 r2:List HP} {lg ao:Nat} {M:LogM} {A:LogA} {D:DiskA} {gap:Int} {a:Nat} {t:SegM} {outs:List BatM}
theorem zxj (i:Nat) (a0 a1:Nat) (off:Int) (hi:i<M.SM.length)
  (hs:Sat w (pt a0 (.cells [.pointer (some ⟨lg,0,none⟩)].toArray T.a27)::pt a1 (.cells [.int .i64 off].toArray T.a13)::lgQ lg M::r)) :
  Ret P F.a107 #[.int .i64 (i:Int),.pointer (some ⟨a0,0,none⟩),.pointer (some ⟨a1,0,none⟩)] w λvs w'=>vs=[.bool (decide (M.SM[i].2.s.base>off))]/\Sat w' (pt a0 (.cells [.pointer (some ⟨lg,0,none⟩)].toArray T.a27)::pt a1 (.cells [.int .i64 off].toArray T.a13)::lgQ lg M::r) :=
 zma _ _ _ <| by
  delta zz8 AB AI AJ AL AN Ah Al Am Aq B2 BM Bp
  obtain ⟨hokm,hs⟩:=z2k (hs.pick [2])
  refine zy hs λw' hs=>?_
  refine za hs ?_
  refine zj ?_
  refine za hs ?_
  refine z1y hs (xs:=M.SM.map Prod.fst) (enc:=z1j) i (by rw [List.length_map];exact hi) ?_
  have e0:(M.SM.map Prod.fst)[i]'(by rw [List.length_map];exact hi)=M.SM[i].1:=by simp
  rw [e0]
  refine zj ?_
  have hs:=z3l (z92 (hs.pick [2]) hi)
  refine za hs ?_
  refine za hs ?_
  refine wp_lt ?_
  refine zd ?_
  have hs:=z6n hi (z2h M.SM[i].2 hs)
  have hs:=z1h M hokm (hs.pick [1,1])
  exact ⟨rfl,rfl,hs.sub⟩
set_option maxHeartbeats 1000000 in
theorem zoz (off most:Int) (ho : -9223372036854775808<=off/\off<9223372036854775808) (hmo:most<9223372036854775808) {r1:List HP} [hf:Fo l lgP lg A r1] [hf2:Fo r1 dk A.d D r] (hok:z0b 0 A.l) (hhas:zj7 A.pre A.l D) (hlen:A.l.length<=1000000) (hall:(z06 A.l).length<=1000000) (hs:Sat w l) :
  Ret P F.a106 #[.pointer (some ⟨lg,0,none⟩),.int .i64 off,.int .i64 most] w λvs w'=>∃ (z:Sl) (outs:List BatM),vs=[z.v,.int .i64 (z4g A.l off most).1]/\outs.map BatM.p=(z4g A.l off most).2/\Sat w' (slc T.a0 7 z (outs.flatMap zo)::z1l outs::lgP lg A::dk A.d D::r) :=
 zm9 _ off most <| by
  clear hmo
  delta zz7 AA AB AF AH AI AJ AL AN Aa Ac Ad Ah Ai Aj Ak Al Am Ap Av Ax Ay BB BE BF Bp
  have hs:=hs.perm (hf.perm.trans (.cons _ hf2.perm))
  clear hf hf2
  obtain ⟨M,rfl,hs⟩:=z7a hs
  have hMl:M.A.l=M.l:=rfl
  have hMpre:M.A.pre=M.pre:=rfl
  have hMd:M.A.d=M.d:=rfl
  rw [hMl] at hlen hok hhas hall ⊢
  rw [hMpre] at hhas
  rw [hMd] at hs ⊢
  have hll:M.l.length=M.SM.length:=List.length_map ..
  have z4x:∀ (i:Nat) (h:i<M.SM.length),M.SM[i].2.s=M.l[i]'(by omega):=λi h=>by unfold LogM.l;simp
  obtain ⟨m_,FS_,-,hokD,-⟩:=z1w (hs.pick [1])
  refine zn hs λa0 w' hs=>?_
  refine zn hs λa1 w' hs=>?_
  refine zn hs λa2 w' hs=>?_
  refine za hs ?_
  refine wp_lt ?_
  refine zw ?_ (by simp)
  refine za hs ?_
  refine wp_lt ?_
  have hfin0:∀ {w:World} {L:List HP},Sat w (lgQ lg M::dk M.d D::r)->Sat w (slc T.a0 7 ⟨none,0,0⟩ (([]:List BatM).flatMap zo)::z1l []::lgP lg M.A::dk M.d D::r):=λhs=>(zjf (z43 M hs)).slc_nil
  unfold z4g
  refine ze (λh=>?_) λh=>?_
  ·rw [if_pos (show most<1 by omega)]
   have hs:Sat w' (lgQ lg M::dk M.d D::r):=hs.sub
   exact ⟨rfl,⟨none,0,0⟩,[],rfl,rfl,hfin0 (L:=[]) hs⟩
  rw [if_neg (show ¬ most<1 by omega)]
  refine zf (λq w'=>q=(decide (off<z1t M.l\/off>zq M.l),())/\Sat w' (pt a2 (.cells [.int .i64 most].toArray T.a12)::pt a1 (.cells [.int .i64 off].toArray T.a13)::pt a0 (.cells [.pointer (some ⟨lg,0,none⟩)].toArray T.a27)::lgQ lg M::dk M.d D::r)) ?_ ?_
  ·refine zy hs λw' hs=>?_
   refine z0x hs ?_
   refine za hs ?_
   refine z8 (zgd (lg:=lg) hs) λ_ w' hs=>?_
   obtain ⟨rfl,hs⟩:=hs
   refine zb ?_ (by first|trivial|(repeat (first|exact trivial|exact λ_=>z08 hs|exact λ_=>z0i hs|refine And.intro ?_ ?_)))
   refine z0x hs ?_
   refine za hs ?_
   refine ze (λh1=>?_) λh1=>?_
   ·refine zd ?_
    exact zg ⟨by rw [decide_eq_true (.inl h1)],hs.sub⟩
   ·refine z8 (zab (lg:=lg) (by omega) hs) λ_ w' hs=>?_
    obtain ⟨rfl,hs⟩:=hs
    refine zb ?_ (by first|trivial|(repeat (first|exact trivial|exact λ_=>z08 hs|exact λ_=>z0i hs|refine And.intro ?_ ?_)))
    refine wp_lt ?_
    refine zd ?_
    refine zg ⟨?_,hs.sub⟩
    rw [decide_eq_decide.2 (show (off<z1t M.l\/off>zq M.l)↔off>zq M.l from ⟨λhh=>hh.resolve_left h1,.inr⟩)]
  rintro _ w2 ⟨rfl,hs⟩
  refine ze (λh1=>?_) λh1=>?_
  ·have h1:off<z1t M.l\/off>zq M.l:=by simpa using h1
   rw [if_pos h1]
   have hs:Sat w2 (lgQ lg M::dk M.d D::r):=hs.sub
   exact ⟨rfl,⟨none,0,0⟩,[],rfl,rfl,hfin0 (L:=[]) hs⟩
  have h1:¬ (off<z1t M.l\/off>zq M.l):=by simpa using h1
  rw [if_neg h1]
  obtain ⟨mN,rfl⟩:∃ mN:Nat,most=(mN:Int):=⟨most.toNat,by omega⟩
  rw [Int.toNat_natCast]
  refine zt hs λao w' hs=>?_
  refine za hs ?_
  refine zj ?_
  obtain ⟨hokm,hs⟩:=z2k (hs.pick [4])
  refine za hs ?_
  have hl:=hs.slen M.z (xs:=M.SM.map Prod.fst) (enc:=z1j)
  rw [List.length_map] at hl
  have hs:=z1h M hokm hs
  have hs:Sat w' (pt a0 (.cells [.pointer (some ⟨lg,0,none⟩)].toArray T.a27)::pt a1 (.cells [.int .i64 off].toArray T.a13)::lgQ lg M::pt ao (.cells #[.slice none 0 0] T.a34)::pt a2 (.cells [.int .i64 (mN:Int)].toArray T.a12)::dk M.d D::r):=hs.sub
  rw [hl]
  refine z8 (zky M.SM.length (by omega) F.a107 #[.pointer (some ⟨a0,0,none⟩),.pointer (some ⟨a1,0,none⟩)] (λi=>decide (((M.l.map SegA.base).getD i 0)>off)) (by kernel_rfl) (λi w hi hs=>?_) hs) λ_ w' hs=>?_
  ·have e:(M.l.map SegA.base).getD i 0=M.SM[i].2.s.base:=by
    rw [List.getD_eq_getElem?_getD,List.getElem?_map,List.getElem?_eq_getElem (by omega),z4x i hi];rfl
   simp only [e]
   exact zxj (M:=M) i a0 a1 off hi hs
  obtain ⟨i0,hi0,hs1,hs2,rfl,hs⟩:=hs
  refine zb ?_
  refine z1z (y:=(i0:Int)-1) ?_ (by rw [w64 (by omega) (by omega)])
  refine z1z (y:=((i0-1:Nat):Int)) ?_ (by split <;> omega)
  have hskip:i0-1<M.SM.length->(z06 M.l).filterMap (z0o off)=(z06 (M.l.drop (i0-1))).filterMap (z0o off):=λhlt=>by
   refine zxx hok (i:=i0-1) (by omega) ?_
   by_cases h0:i0=0
   ·right;omega
   ·left
    have h2:=hs1 (by omega)
    rw [List.getD_eq_getElem?_getD,List.getElem?_map,List.getElem?_eq_getElem (by omega)] at h2
    have h2:decide ((M.l[i0-1]'(by omega)).base>off)=false:=h2
    simpa using h2
  have hs:Sat w' (z4d ao []::lgQ lg M::dk M.d D::pt a1 (.cells [.int .i64 off].toArray T.a13)::pt a2 (.cells [.int .i64 (mN:Int)].toArray T.a12)::pt a0 (.cells [.pointer (some ⟨lg,0,none⟩)].toArray T.a27)::r):=by
   have h3:Sat w' (slc T.a0 7 ⟨none,0,0⟩ (([]:List BatM).flatMap zo)::z1l []::_):=(zjf hs).slc_nil
   have h4:Sat w' (pt ao (.cells #[.slice none 0 0] T.a34)::slc T.a0 7 ⟨none,0,0⟩ (([]:List BatM).flatMap zo)::z1l []::lgQ lg M::dk M.d D::pt a1 (.cells [.int .i64 off].toArray T.a13)::pt a2 (.cells [.int .i64 (mN:Int)].toArray T.a12)::pt a0 (.cells [.pointer (some ⟨lg,0,none⟩)].toArray T.a27)::r):=h3.sub
   exact zcd (z:=⟨none,0,0⟩) h4
  refine zf (λ_ w'=>∃ outs:List BatM,outs.map BatM.p=((z06 M.l).filterMap (z0o off)).take mN/\Sat w' (z4d ao outs::lgQ lg M::dk M.d D::pt a1 (.cells [.int .i64 off].toArray T.a13)::pt a2 (.cells [.int .i64 (mN:Int)].toArray T.a12)::pt a0 (.cells [.pointer (some ⟨lg,0,none⟩)].toArray T.a27)::r)) ?_ ?_
  rotate_left
  ·rintro _ w3 ⟨outs,h4,hs⟩
   obtain ⟨z,hs⟩:=zki hs
   refine za hs ?_
   refine ⟨rfl,z,outs,rfl,h4,?_⟩
   have hs:Sat w3 (lgQ lg M::slc T.a0 7 z (outs.flatMap zo)::z1l outs::dk M.d D::r):=hs.sub
   have hs:=z43 M hs
   exact hs.sub
  have hpre:∀ (j:Nat),i0-1<=j->j<=M.l.length->(z06 ((M.l.drop (i0-1)).take (j-(i0-1)))).length<=1000000:=λj h1 h2=>by
   refine Nat.le_trans ?_ hall
   have:∀ (a b:List SegA),a.Sublist b->(z06 a).length<=(z06 b).length:=λa b h=>by
    induction h with
    | slnil=>exact Nat.le_refl _
    | cons x _ ih=>unfold z06 at *;rw [List.flatMap_cons,List.length_append];omega
    | cons_cons x _ ih=>unfold z06 at *;rw [List.flatMap_cons,List.flatMap_cons,List.length_append,List.length_append];omega
   exact this _ _ ((List.take_sublist _ _).trans (List.drop_sublist _ _))
  refine z02 (λm v w=>∃ (j:Nat) (outs:List BatM),v=((j:Int),())/\i0-1<=j/\(j<=M.SM.length\/j=i0-1)/\M.SM.length-j=m/\outs.map BatM.p=(z06 ((M.l.drop (i0-1)).take (j-(i0-1)))).filterMap (z0o off)/\outs.length<mN /\
   Sat w (z4d ao outs::lgQ lg M::dk M.d D::pt a1 (.cells [.int .i64 off].toArray T.a13)::pt a2 (.cells [.int .i64 (mN:Int)].toArray T.a12)::pt a0 (.cells [.pointer (some ⟨lg,0,none⟩)].toArray T.a27)::r)) (M.SM.length-(i0-1))
   ⟨i0-1,[],rfl,Nat.le_refl _,.inr rfl,rfl,by simp [z06],by show 0<mN;omega,hs⟩ ?_
  clear hs
  rintro m _ w ⟨j,outs,rfl,hj1,hj2,hm,hmap,hlt,hs⟩
  refine zm ?_
  refine za hs ?_
  refine zj ?_
  obtain ⟨hokm,hs⟩:=z2k (hs.pick [1])
  refine za hs ?_
  refine ze (λhc=>?_) λhc=>?_
  rotate_left
  ·have hs:=z1h M hokm hs
   refine zh (zg ⟨outs,?_,hs.sub⟩)
   by_cases hlt2:i0-1<M.SM.length
   ·have hje:j=M.SM.length:=by omega
    rw [hskip hlt2,hmap,hje]
    rw [List.take_of_length_le (l:=M.l.drop (i0-1)) (by rw [List.length_drop];omega)] at hmap ⊢
    have:=congrArg List.length hmap
    rw [List.length_map] at this
    rw [List.take_of_length_le (by omega)]
   ·have h0:M.l=[]:=List.length_eq_zero_iff.1 (by omega)
    rw [hmap,h0]
    simp [z06]
  have hjl:j<M.SM.length:=by omega
  refine za hs ?_
  refine zj ?_
  refine za hs ?_
  refine z1y hs (xs:=M.SM.map Prod.fst) (enc:=z1j) j (by rw [List.length_map];exact hjl) ?_
  have e0:(M.SM.map Prod.fst)[j]'(by rw [List.length_map];exact hjl)=M.SM[j].1:=by simp
  rw [e0]
  have hmem:M.SM[j].2.s ∈ M.l:=List.mem_map.2 ⟨_,List.getElem_mem hjl,rfl⟩
  have hsok:=(hok.mem _ hmem).1
  obtain ⟨kp,hfile⟩:=hhas _ hmem
  have hrl:M.SM[j].2.s.file.length<=4194304:=Nat.le_trans (zcp hfile) hokD.used
  have hbl:=zgc hsok
  obtain ⟨k,hk,hpl,hskp⟩:=zub hsok hrl M.gap off
  have hlt2:i0-1<M.SM.length:=by omega
  have hstep:(M.l.drop (i0-1)).take (j+1-(i0-1))=(M.l.drop (i0-1)).take (j-(i0-1))++[M.SM[j].2.s]:=by
   rw [show j+1-(i0-1)=(j-(i0-1))+1 by omega,List.take_succ_eq_append_getElem (by rw [List.length_drop];omega),List.getElem_drop,z4x j hjl]
   congr 3
   omega
  have hnone:(M.SM[j].2.s.bs).filterMap (z0o off)=(M.SM[j].2.s.bs.drop k).filterMap (z0o off):=by
   have e:M.SM[j].2.s.bs=M.SM[j].2.s.bs.take k++M.SM[j].2.s.bs.drop k:=(List.take_append_drop _ _).symm
   calc (M.SM[j].2.s.bs).filterMap (z0o off)=(M.SM[j].2.s.bs.take k++M.SM[j].2.s.bs.drop k).filterMap (z0o off):=by rw [<- e]
    _=(M.SM[j].2.s.bs.drop k).filterMap (z0o off):=by
     rw [List.filterMap_append,za5 (l:=M.SM[j].2.s.bs.take k),List.nil_append]
     intro b hb
     exact zfa (hsok.bs.valid b (List.mem_of_mem_take hb)).1 (hskp b hb)
  have hall2:(z06 ((M.l.drop (i0-1)).take (j+1-(i0-1)))).filterMap (z0o off)=(z06 ((M.l.drop (i0-1)).take (j-(i0-1)))).filterMap (z0o off)++(M.SM[j].2.s.bs.drop k).filterMap (z0o off):=by
   rw [hstep]
   unfold z06
   rw [List.flatMap_append,List.filterMap_append,<- hnone]
   simp
  have hol:outs.length<=1000000:=by
   have:=congrArg List.length hmap
   rw [List.length_map] at this
   rw [this]
   exact Nat.le_trans (List.length_filterMap_le _ _) (hpre j hj1 (by omega))
  refine zf (λq w'=>∃ outs':List BatM,q=(decide (outs.length+((M.SM[j].2.s.bs.drop k).filterMap (z0o off)).length<mN),())/\outs'.map BatM.p=(outs.map BatM.p++(M.SM[j].2.s.bs.drop k).filterMap (z0o off)).take mN /\
    Sat w' (z4d ao outs'::lgQ lg M::dk M.d D::pt a1 (.cells [.int .i64 off].toArray T.a13)::pt a2 (.cells [.int .i64 (mN:Int)].toArray T.a12)::pt a0 (.cells [.pointer (some ⟨lg,0,none⟩)].toArray T.a27)::r)) ?_ ?_
  ·refine zy hs λw' hs=>?_
   refine z0x hs ?_
   refine za hs ?_
   have hs:=z92 (hs.pick [2]) hjl
   refine z8 (z02e (gap:=M.gap) (a:=M.SM[j].1) (t:=M.SM[j].2) off hsok hrl hs) λ_ w' hs=>?_
   obtain ⟨rfl,hs⟩:=hs
   refine zb ?_ (by first|trivial|(repeat (first|exact trivial|exact λ_=>z08 hs|exact λ_=>z0i hs|refine And.intro ?_ ?_)))
   refine zd ?_
   have hs:=z6n hjl hs
   have hs:=z1h M hokm (hs.pick [1,1])
   have hs:Sat w' (z4d ao outs::lgQ lg M::dk M.d D::pt a1 (.cells [.int .i64 off].toArray T.a13)::pt a2 (.cells [.int .i64 (mN:Int)].toArray T.a12)::pt a0 (.cells [.pointer (some ⟨lg,0,none⟩)].toArray T.a27)::r):=hs.sub
   rw [hpl]
   refine z8 (z04a off mN a1 a2 ho hjl hsok hfile hk hlt (by omega) hs) λ_ w' hs=>?_
   obtain ⟨outs',rfl,hm2,-,hs⟩:=hs
   refine zb ?_
   refine wp_lt ?_
   refine zd ?_
   exact zg ⟨outs',rfl,hm2,hs⟩
  clear hs
  rintro _ w3 ⟨outs',rfl,hm2,hs⟩
  rw [hmap,<- hall2] at hm2
  have hlm:=congrArg List.length hmap
  rw [List.length_map] at hlm
  refine ze (λh5=>?_) λh5=>?_
  ·have h5:¬ (outs.length+((M.SM[j].2.s.bs.drop k).filterMap (z0o off)).length<mN):=by simpa using h5
   refine zh (zg ⟨outs',?_,hs⟩)
   rw [hm2,hskip hlt2]
   have e:z06 (M.l.drop (i0-1))=z06 ((M.l.drop (i0-1)).take (j+1-(i0-1)))++z06 ((M.l.drop (i0-1)).drop (j+1-(i0-1))):=by
    unfold z06;rw [<- List.flatMap_append,List.take_append_drop]
   rw [e,List.filterMap_append,List.take_append_of_le_length]
   rw [hall2,List.length_append]
   omega
  ·have h5:(outs.length+((M.SM[j].2.s.bs.drop k).filterMap (z0o off)).length<mN):=by simpa using h5
   refine z1z (y:=((j+1:Nat):Int)) ?_ (by rw [w64 (by omega) (by omega)];omega)
   have hll2:((z06 ((M.l.drop (i0-1)).take (j+1-(i0-1)))).filterMap (z0o off)).length<mN:=by rw [hall2,List.length_append];omega
   rw [List.take_of_length_le (by omega)] at hm2
   have hl3:=congrArg List.length hm2
   rw [List.length_map] at hl3
   exact z0z (M.SM.length-(j+1)) ⟨j+1,outs',rfl,by omega,.inl (by omega),rfl,hm2,by omega,hs⟩
theorem zum {r1:List HP} [hf:Fo l lgP lg A r1] [hf2:Fo r1 dk A.d D r] (hok:z0b 0 A.l) (hhas:zj7 A.pre A.l D) (hlen:A.l.length<=1000000) (hall:(z06 A.l).length<=1000000) (hs:Sat w l) :
  Ret P F.a102 #[.pointer (some ⟨lg,0,none⟩)] w λvs w'=>∃ (z:Sl) (outs:List BatM),vs=[z.v]/\outs.map BatM.p=z06 A.l/\Sat w' (slc T.a0 7 z (outs.flatMap zo)::z1l outs::lgP lg A::dk A.d D::r) :=
 zm6 _ <| by
  delta zz4 AK Aa Ac Ah Ai Am Ax
  have hs:=hs.perm (hf.perm.trans (.cons _ hf2.perm))
  clear hf hf2
  have hfn:=zez hok
  have hnx:=hok.next (Int.le_refl 0)
  have hf0:0<=z1t A.l:=by
   cases hq:A.l with
   | nil=>decide
   | cons s l0=>rw [hq] at hok;have:=hok.1;exact this
  refine zw ?_ (by simp)
  obtain ⟨M,hM,hs⟩:=z7a hs
  subst hM
  refine z8 (zgd (lg:=lg) hs) λ_ w' hs=>?_
  obtain ⟨rfl,hs⟩:=hs
  refine zb ?_
  have hs:=z43 M hs
  have hfn:z1t M.l<=zq M.l:=hfn
  have hnx:0<=zq M.l/\zq M.l<=1099511627777:=hnx
  have hf0:0<=z1t M.l:=hf0
  refine z8 (zoz (lg:=lg) (A:=M.A) (D:=D) (z1t M.l) 1099511627776 (by omega) (by omega) hok hhas hlen hall hs) λ_ w' hs=>?_
  obtain ⟨z,outs,rfl,hmap,hs⟩:=hs
  refine zb ?_
  refine wp_lt ?_
  have hra:z4g M.A.l (z1t M.l) 1099511627776=(0,z06 M.A.l):=zxl hok (by omega) (by omega)
  rw [hra] at hmap
  exact ⟨rfl,z,outs,rfl,hmap,hs⟩
end
def z71 (seg gap:Int):Prop:=(64<=seg/\seg<=4194304)/\(1<=gap/\gap<=4194304)
instance (seg gap:Int):Decidable (z71 seg gap):=by unfold z71;infer_instance
section
variable {w:World} {l r:List HP} {lg d:Nat} {M:LogM} {A:LogA} {D:DiskA}
theorem zur (pre:ByteArray) (seg gap:Int) (hs:Sat w l):Ret P F.a121 #[.pointer none,.string pre,.agg #[.int .i64 seg,.int .i64 gap]] w λvs w'=>vs=[.pointer none,.int .i64 1]/\Sat w' l :=
 z7u _ pre seg gap <| by
  delta zg4 AB AF AH AK Aa Ac Ah Ai Aj Ak Al Am Ap Aq Au Av Aw Ax Bg Br Bz
  refine zn hs λa0 w' hs=>?_
  refine wp_lt ?_
  refine z0q ?_ (by rfl)
  exact ⟨rfl,rfl,hs.tail⟩
theorem zuq (pre:ByteArray) (seg gap:Int) (hbad:¬ (z30 pre=true/\z71 seg gap)) (hs:Sat w l):Ret P F.a121 #[.pointer (some ⟨d,0,none⟩),.string pre,.agg #[.int .i64 seg,.int .i64 gap]] w λvs w'=>vs=[.pointer none,.int .i64 2]/\Sat w' l :=
 z7u _ pre seg gap <| by
  delta zg4 AB AF AH AK Aa Ac Ah Ai Aj Ak Al Am Ap Aq Au Av Aw Ax Bg Br Bz
  refine zn hs λa0 w' hs=>?_
  refine wp_lt ?_
  refine zw ?_ (by simp)
  refine zf (λq w'=>q=(true,())/\Sat w' l) ?_ ?_
  rotate_left
  ·rintro _ w2 ⟨rfl,hs⟩
   refine z0q ?_ trivial
   exact ⟨rfl,rfl,hs⟩
  refine z8 (zeb pre hs) λ_ w' hs=>?_
  obtain ⟨rfl,hs⟩:=hs
  refine zb ?_
  refine zk hs ?_
  refine ze (λh=>?_) λh=>?_
  ·exact zg ⟨rfl,hs.tail⟩
  ·have h:z30 pre=true:=by simpa using h
   refine z8 (zk5 seg gap hs) λ_ w' hs=>?_
   obtain ⟨rfl,hs⟩:=hs
   refine zb ?_
   refine wp_lt ?_
   refine zg ⟨?_,hs.tail⟩
   have:¬ ((64<=seg/\seg<=4194304)/\(1<=gap/\gap<=4194304)):=λhh=>hbad ⟨h,hh⟩
   rw [decide_eq_false this]
   rfl
theorem zqv (pre:ByteArray) (seg gap:Int) (hp:z30 pre=true) (hc:z71 seg gap) (hg:D.gone=true) [hf:Fo l dk d D r] (hs:Sat w l):Ret P F.a121 #[.pointer (some ⟨d,0,none⟩),.string pre,.agg #[.int .i64 seg,.int .i64 gap]] w λvs w'=>vs=[.pointer none,.int .i64 9]/\Sat w' (dk d D::r) :=
 z7u _ pre seg gap <| by
  delta zg4 AB AF AH AK Aa Ac Ah Ai Aj Ak Al Am Ap Aq Au Av Aw Ax Bg Br Bz
  have hs:=hs.perm hf.perm
  refine zn hs λa0 w' hs=>?_
  refine wp_lt ?_
  refine zw ?_ (by simp)
  refine zf (λq w'=>q=(false,())/\Sat w' (dk d D::r)) ?_ ?_
  ·refine z8 (zeb pre hs) λ_ w' hs=>?_
   obtain ⟨rfl,hs⟩:=hs
   refine zb ?_
   refine zk hs ?_
   refine zw ?_ (by rw [hp];simp)
   refine z8 (zk5 seg gap hs) λ_ w' hs=>?_
   obtain ⟨rfl,hs⟩:=hs
   refine zb ?_
   refine wp_lt ?_
   refine zg ⟨?_,hs.tail⟩
   have:((64<=seg/\seg<=4194304)/\(1<=gap/\gap<=4194304)):=hc
   rw [decide_eq_true this]
   rfl
  rintro _ w2 ⟨rfl,hs⟩
  refine zw ?_ (by simp)
  refine z8 (zuh (d:=d) hs) λ_ w' hs=>?_
  obtain ⟨rfl,hs⟩:=hs
  refine zb ?_
  refine wp_lt ?_
  refine z0q ?_ hg
  exact ⟨rfl,rfl,hs⟩
set_option maxHeartbeats 1000000 in
theorem z01o (pre:ByteArray) (seg gap:Int) (hp:z30 pre=true) (hc:z71 seg gap) (hg:D.gone=false) [hf:Fo l dk d D r] (hs:Sat w l):Ret P F.a121 #[.pointer (some ⟨d,0,none⟩),.string pre,.agg #[.int .i64 seg,.int .i64 gap]] w λvs w' =>
  ((z45 pre D).1≠0/\vs=[.pointer none,.int .i64 (z45 pre D).1]/\Sat w' (dk d (z45 pre D).2.2::r)) \/
  ((z45 pre D).1=0/\∃ lg,vs=[.pointer (some ⟨lg,0,none⟩),.int .i64 0]/\Sat w' (lgP lg ⟨d,pre,seg,gap,(z45 pre D).2.1⟩::dk d (z45 pre D).2.2::r)) :=
 z7u _ pre seg gap <| by
  delta zg4 AB AF AH AK Aa Ac Ah Ai Aj Ak Al Am Ap Aq Au Av Aw Ax Bg Br Bz
  have hs:=hs.perm hf.perm
  obtain ⟨m_,FS_,-,hokD,-⟩:=z1w hs
  refine zn hs λa0 w' hs=>?_
  refine wp_lt ?_
  refine zw ?_ (by simp)
  refine zf (λq w'=>q=(false,())/\Sat w' (dk d D::pt a0 (.cells #[.int .i64 seg,.int .i64 gap] T.a47)::r)) ?_ ?_
  ·refine z8 (zeb pre hs) λ_ w' hs=>?_
   obtain ⟨rfl,hs⟩:=hs
   refine zb ?_
   refine zk hs ?_
   refine zw ?_ (by rw [hp];simp)
   refine z8 (zk5 seg gap hs) λ_ w' hs=>?_
   obtain ⟨rfl,hs⟩:=hs
   refine zb ?_
   refine wp_lt ?_
   refine zg ⟨?_,hs.sub⟩
   have:((64<=seg/\seg<=4194304)/\(1<=gap/\gap<=4194304)):=hc
   rw [decide_eq_true this]
   rfl
  rintro _ w2 ⟨rfl,hs⟩
  refine zw ?_ (by simp)
  refine z8 (zuh (d:=d) hs) λ_ w' hs=>?_
  obtain ⟨rfl,hs⟩:=hs
  refine zb ?_
  refine wp_lt ?_
  refine zw ?_ (by rw [hg];simp)
  refine zk hs ?_
  refine zn hs λlg w' hs=>?_
  have hokm:okM gap seg pre:=⟨hc.2,hc.1,hp⟩
  have hs:Sat w' (lgQ lg ⟨d,pre,seg,gap,⟨none,0,0⟩,[]⟩::dk d D::r):=by
   refine z1h ⟨d,pre,seg,gap,⟨none,0,0⟩,[]⟩ hokm ?_
   have h1:Sat w' (HP.all (([]:List (Nat × SegM)).map λt=>z0m gap t.1 t.2)::pt lg (.cells #[.pointer (some ⟨d,0,none⟩),.string pre,.int .i64 seg,.int .i64 gap,.slice none 0 0] T.a48)::dk d D::r):=by
    have hs:Sat w' (pt lg (.cells #[.pointer (some ⟨d,0,none⟩),.string pre,.int .i64 seg,.int .i64 gap,.slice none 0 0] T.a48)::dk d D::r):=hs.sub
    exact Sat.all_nil hs
   have h2:Sat w' (slc T.a28 1 ⟨none,0,0⟩ (((([]:List (Nat × SegM))).map Prod.fst).flatMap z1j)::_):=h1.slc_nil
   exact h2.pick [2]
  unfold z45
  refine z8 (z017 (lg:=lg) (M:=⟨d,pre,seg,gap,⟨none,0,0⟩,[]⟩) (D:=D) hs) λ_ w' hs=>?_
  have hnl:(z0s pre (z0w (z15 pre) D.fs) D).2.1.length<=128:=by
   refine Nat.le_trans zey ?_
   unfold z0w
   exact Nat.le_trans (List.length_filter_le _ _) (by rw [List.length_map];exact hokD.many)
  have hlt:=zhk (pre:=pre) (ns:=z0w (z15 pre) D.fs) (D:=D)
  rcases hs with ⟨he,rfl,hs⟩|⟨he,x,rfl,hs⟩
  ·have he:(z0s pre (z0w (z15 pre) D.fs) D).1≠0:=he
   refine zb ?_
   refine wp_lt ?_
   refine z0q ?_ he
   refine wp_lt ?_
   rw [if_pos he]
   exact ⟨rfl,.inl ⟨he,rfl,hs.tail⟩⟩
  have he:(z0s pre (z0w (z15 pre) D.fs) D).1=0:=he
  refine ⟨(x,0,()),rfl,trivial,z2p _ _ ?_⟩
  refine wp_lt ?_
  refine zw ?_ (by simp)
  rw [if_neg (by rw [he];simp)]
  have hs:Sat w' (slc T.a13 1 x ((z0s pre (z0w (z15 pre) D.fs) D).2.1.flatMap z3s)::lgQ lg ⟨d,pre,seg,gap,⟨none,0,0⟩,[]⟩::dk d (z0s pre (z0w (z15 pre) D.fs) D).2.2::r):=hs
  generalize (z0s pre (z0w (z15 pre) D.fs) D).2.2=D1 at *
  generalize (z0s pre (z0w (z15 pre) D.fs) D).2.1=bs at *
  have hl:=hs.slen x (xs:=bs) (enc:=z3s)
  have hcap:=hs.slc_cap
  refine zf (λq w'=>∃ M:LogM,q=((z1x pre bs [] D1).1,())/\(M.d=d/\M.pre=pre/\M.seg=seg/\M.gap=gap)/\M.l=(z1x pre bs [] D1).2.1/\Sat w' (lgQ lg M::dk d (z1x pre bs [] D1).2.2::r)) ?_ ?_
  rotate_left
  ·rintro _ w3 ⟨M,rfl,⟨rfl,rfl,rfl,rfl⟩,h2,hs⟩
   refine ze (λh=>?_) λh=>?_
   ·refine wp_lt ?_
    exact ⟨rfl,.inl ⟨h,rfl,hs.tail⟩⟩
   ·have h:(z1x M.pre bs [] D1).1=0:=Decidable.not_not.1 h
    refine ⟨rfl,.inr ⟨h,lg,rfl,?_⟩⟩
    have:=z43 M hs
    have e:M.A=⟨M.d,M.pre,M.seg,M.gap,(z1x M.pre bs [] D1).2.1⟩:=by rw [<- h2];rfl
    rw [<- e]
    exact this
  refine z02 (λm v w=>∃ (i:Nat) (M:LogM) (D':DiskA),v=((0:Int),((i:Int),()))/\i<=bs.length/\bs.length-i=m/\M.SM.length<=i/\z1x pre bs [] D1=z1x pre (bs.drop i) M.l D'/\(M.d=d/\M.pre=pre/\M.seg=seg/\M.gap=gap) /\
   Sat w (slc T.a13 1 x (bs.flatMap z3s)::lgQ lg M::dk d D'::r)) bs.length ⟨0,⟨d,pre,seg,gap,⟨none,0,0⟩,[]⟩,D1,rfl,by omega,rfl,by simp,rfl,⟨rfl,rfl,rfl,rfl⟩,hs⟩ ?_
  clear hs
  rintro m _ w ⟨i,M,D',rfl,hi,hm,hsm,hq,⟨rfl,rfl,rfl,rfl⟩,hsn⟩
  have hs:=hsn
  refine zm ?_
  refine ze (λhcc=>?_) λhcc=>?_
  rotate_left
  ·have e:bs.drop i=[]:=List.drop_eq_nil_of_le (by omega)
   rw [e] at hq
   have hq:z1x M.pre bs [] D1=(0,M.l,D'):=hq
   rw [hq]
   exact zh (zg ⟨M,rfl,⟨rfl,rfl,rfl,rfl⟩,rfl,hs.sub⟩)
  have hil:i<bs.length:=by omega
  rw [List.drop_eq_getElem_cons hil] at hq
  have hbb:=hlt bs[i] (List.getElem_mem hil)
  have hun:z1x M.pre (bs[i]::bs.drop (i+1)) M.l D'=if bs[i]<zq M.l then (if (z0y D' (zl M.pre bs[i] zv)).1≠0 then ((z0y D' (zl M.pre bs[i] zv)).1,M.l,(z0y D' (zl M.pre bs[i] zv)).2) else z1x M.pre (bs.drop (i+1)) M.l (z0y D' (zl M.pre bs[i] zv)).2) else
   if (z1i M.pre M.l D' bs[i]).1.2≠0 then ((z1i M.pre M.l D' bs[i]).1.2,(z1i M.pre M.l D' bs[i]).2) else
   if (z1i M.pre M.l D' bs[i]).1.1=true then z1x M.pre (bs.drop (i+1)) (z1i M.pre M.l D' bs[i]).2.1 (z1i M.pre M.l D' bs[i]).2.2 else ((z5z M.pre (bs.drop (i+1)) (z1i M.pre M.l D' bs[i]).2.2).1,(z1i M.pre M.l D' bs[i]).2.1,(z5z M.pre (bs.drop (i+1)) (z1i M.pre M.l D' bs[i]).2.2).2):=rfl
  have ei:IntKind.wrap .i64 ((i:Int)+1)=((i+1:Nat):Int):=by rw [w64 (by omega) (by omega)];omega
  refine zf (λq w'=>∃ (M2:LogM) (D2:DiskA),q=((0:Int),())/\M2.SM.length<=i+1/\z1x M.pre bs [] D1=z1x M.pre (bs.drop (i+1)) M2.l D2/\(M2.d=M.d/\M2.pre=M.pre/\M2.seg=M.seg/\M2.gap=M.gap) /\
   Sat w' (slc T.a13 1 x (bs.flatMap z3s)::lgQ lg M2::dk M.d D2::r)) ?_ ?_
  rotate_left
  ·rintro _ w3 ⟨M2,D2,rfl,h1,h2,h3,hs⟩
   rw [ei]
   exact z0z (bs.length-(i+1)) ⟨i+1,M2,D2,rfl,by omega,rfl,h1,h2,h3,hs⟩
  refine z1y hs (xs:=bs) (enc:=z3s) i hil ?_
  refine wp_lt ?_
  refine wp_lt ?_
  refine z8 (zab (lg:=lg) (by omega) hs) λ_ w' hs=>?_
  obtain ⟨rfl,hs⟩:=hs
  refine zb ?_
  refine ze (λh1=>?_) λh1=>?_
  ·rw [if_pos h1] at hun
   obtain ⟨hokm,hs⟩:=z8w hs
   refine z8 (z7d (lg:=lg) bs[i] hbb (ByteArray.mk #[46,108,111,103]) (by decide) M.pre hokm.size hs) λ_ w' hs=>?_
   obtain ⟨rfl,hs⟩:=hs
   refine zb ?_
   refine z8 (zb3 (d:=M.d) (A:=D') (zl M.pre bs[i] (bl (ByteArray.mk #[46,108,111,103]))) hs) λ_ w' hs=>?_
   obtain ⟨rfl,hs⟩:=hs
   refine zb ?_
   refine wp_lt ?_
   have en:zl M.pre bs[i] (bl (ByteArray.mk #[46,108,111,103]))=zl M.pre bs[i] zv:=rfl
   rw [en] at hs ⊢
   have hs:=z44 M hokm (hs.pick [1,1])
   refine ze (λh2=>?_) λh2=>?_
   ·rw [if_pos h2] at hun
    rw [hun] at hq
    rw [hq]
    exact zh (zh (zg ⟨M,rfl,⟨rfl,rfl,rfl,rfl⟩,rfl,hs.sub⟩))
   ·rw [if_neg h2] at hun
    rw [hun] at hq
    have h2:=Decidable.not_not.1 h2
    rw [h2]
    exact zg ⟨M,_,rfl,by omega,hq,⟨rfl,rfl,rfl,rfl⟩,hs.sub⟩
  ·rw [if_neg h1] at hun
   refine z8 (z040 (lg:=lg) (D:=D') bs[i] hbb (by omega) hs) λ_ w' hs=>?_
   obtain ⟨rfl,M2,⟨e1,e2,e3,e4⟩,hMl,hMs,hs⟩:=hs
   refine zb ?_
   refine wp_lt ?_
   refine wp_lt ?_
   have hs:Sat w' (lgQ lg M2::dk M.d (z1i M.pre M.l D' bs[i]).2.2::slc T.a13 1 x (bs.flatMap z3s)::r):=hs
   generalize z1i M.pre M.l D' bs[i]=SC at *
   obtain ⟨⟨b0,e0⟩,l0,D0⟩:=SC
   dsimp only at hun hMl hs ⊢
   refine ze (λh2=>?_) λh2=>?_
   ·obtain ⟨h2a,h2b⟩:=h2
    have h2a:e0=0:=h2a
    have h2b:b0=false:=by simpa using h2b
    rw [if_neg (by rw [h2a];simp),if_neg (by rw [h2b];simp)] at hun
    rw [ei]
    refine wp_must (by omega) ?_
    rw [Int.toNat_natCast]
    rw [<- e1] at hs
    have hx:FocR (slc T.a13 1 x (bs.flatMap z3s)::r) ⟨z1r x.a 1 (i+1) x.cap,x.len-(i+1),x.cap-(i+1)⟩ 1 ((bs.drop (i+1)).flatMap z3s):=FocR.post hcap
    refine z8 (z011 (lg:=lg) (M:=M2) (D:=D0) ⟨z1r x.a 1 (i+1) x.cap,x.len-(i+1),x.cap-(i+1)⟩ (bs.drop (i+1)) (λb hb=>hlt b (List.mem_of_mem_drop hb)) hx (by rw [List.length_drop];omega) hs) λ_ w' hs=>?_
    obtain ⟨rfl,hs⟩:=hs
    refine zb ?_
    refine wp_lt ?_
    rw [e2,e1] at hs
    rw [e2]
    rw [hun] at hq
    rw [hq]
    refine zh (zh (zg ⟨M2,rfl,⟨e1,e2,e3,e4⟩,hMl,hs.sub⟩))
   ·refine ze (λh3=>?_) λh3=>?_
    ·rw [if_pos h3] at hun
     rw [hun] at hq
     rw [hq]
     refine zh (zh (zg ⟨M2,rfl,⟨e1,e2,e3,e4⟩,hMl,hs.sub⟩))
    ·have h3:e0=0:=Decidable.not_not.1 h3
     have h4:b0=true:=by
      cases hb0:b0 with
      | true=>rfl
      | false=>exact absurd ⟨h3,by rw [hb0];simp⟩ h2
     rw [if_neg (by rw [h3];simp),if_pos h4,<- hMl] at hun
     rw [hun] at hq
     rw [h3]
     exact zg ⟨M2,D0,rfl,by omega,hq,⟨e1,e2,e3,e4⟩,hs.sub⟩
end
theorem z9n:∀ {bs:List BatM} {n:Int},0<=n->(zx n bs).1=0->z1g n ((zx n bs).2.map BatM.p)/\(∀ b ∈ (zx n bs).2,n<=b.base)
 | [],n,_,_=>⟨trivial,λ_ h=>by cases h⟩
 | b::bs,n,hn,h=>by
  unfold zx at h ⊢
  by_cases h1:z05 (b.to n)≠0
  ·rw [if_pos h1] at h;exact absurd h h1
  rw [if_neg h1] at h ⊢
  by_cases h2:(zx (n+zp b) bs).1≠0
  ·rw [if_pos h2] at h;exact absurd h h2
  rw [if_neg h2]
  have hv:=Decidable.not_not.1 h1
  obtain ⟨s1,-,-,-,-⟩:=z11 _ hv
  have s1:1<=zp b:=s1
  obtain ⟨i1,i2⟩:=z9n (n:=n+zp b) (by omega) (Decidable.not_not.1 h2)
  refine ⟨⟨hv,rfl,Int.le_refl _,i1⟩,λc hc=>?_⟩
  rcases List.mem_cons.1 hc with rfl|hc
  ·exact Int.le_refl _
  ·have:=i2 c hc;omega
theorem z1g.append:∀ {n:Int} {cs bs:List BatM},0<=n->z1g n cs->z1g (max n (z0a cs)) bs->z1g n (cs++bs)
 | n,[],bs,hn,_,h2=>h2.mono (by show n<=max n 0;omega)
 | n,a::cs,bs,hn,⟨h1,h2,h3,h4⟩,hb=>by
  obtain ⟨s1,-,⟨-,hba,-⟩,-,-⟩:=z11 a h1
  refine ⟨h1,h2,h3,h4.append (by omega) (hb.mono ?_)⟩
  have h5:a.base+zp a<=z0a (a::cs):=z1g.le_next (n:=n) (bs:=a::cs) ⟨h1,h2,h3,h4⟩ (List.mem_cons_self ..)
  have h6:z0a cs<=z0a (a::cs):=by
   cases cs with
   | nil=>show (0:Int)<=_;omega
   | cons c ds=>exact Int.le_refl _
  omega
theorem z0b.mono {m n:Int} {l:List SegA} (h:z0b n l) (hm:m<=n):z0b m l:=by
 cases l with
 | nil=>trivial
 | cons s l=>exact ⟨by have:=h.1;omega,h.2.1,h.2.2⟩
theorem z2x (l:List SegA) (s:SegA):zq (l++[s])=s.reach:=by unfold zq;rw [z1o]
theorem zep (l:List SegA) (s:SegA):z4t (l++[s])=s.base:=by unfold z4t;rw [z1o]
theorem z3i (l:List SegA) (s:SegA) (bs:List BatM):z4k (l++[s]) bs=l++[s.add bs]:=by unfold z4k;rw [z1o];simp
theorem z0b.snoc:∀ {n:Int} {l:List SegA} {s:SegA},z0b n l->SegOk s->n<=s.base->(∀ t ∈ l,t.reach<=s.base/\t.base<s.base)->z0b n (l++[s])
 | n,[],s,_,hs,hn,_=>⟨hn,hs,trivial⟩
 | n,a::l,s,⟨h1,h2,h3⟩,hs,hn,ht=>by
  have:=ht a (List.mem_cons_self ..)
  exact ⟨h1,h2,h3.snoc hs (by omega) λt h=>ht t (List.mem_cons_of_mem _ h)⟩
theorem z0b.front:∀ {n:Int} {l:List SegA} {s:SegA},z0b n (l++[s])->z0b n l/\SegOk s/\n<=s.base/\∀ t ∈ l,t.reach<=s.base/\t.base<s.base
 | n,[],s,h=>⟨trivial,h.2.1,h.1,λ_ h=>by cases h⟩
 | n,a::l,s,⟨h1,h2,h3⟩=>by
  obtain ⟨i1,i2,i3,i4⟩:=h3.front
  have:=(z50 h2).1
  refine ⟨⟨h1,h2,i1⟩,i2,by omega,λt ht=>?_⟩
  rcases List.mem_cons.1 ht with rfl|ht
  ·omega
  ·exact i4 t ht
theorem ztw {s:SegA} (hs:SegOk s) {bs:List BatM} {n:Int} (h:(zx n bs).1=0) (hn:n=s.reach):SegOk (s.add (zx n bs).2):=by
 have hr:=z50 hs
 have hb:=hs.base
 refine ⟨hs.base,hs.fin,?_⟩
 subst hn
 have hm:max s.base (z0a s.bs)<=s.reach:=by omega
 exact hs.bs.append hb.1 ((z9n (by omega) h).1.mono hm)
theorem zlr {bs:List BatM} {n:Int} (h:(zx n bs).1=0) (hb:bs≠[]):0<=n/\n<=1099511627776:=by
 cases bs with
 | nil=>exact absurd rfl hb
 | cons b bs =>
  unfold zx at h
  by_cases h1:z05 (b.to n)≠0
  ·rw [if_pos h1] at h;exact absurd h h1
  ·obtain ⟨-,-,⟨-,hba,-⟩,-,-⟩:=z11 _ (Decidable.not_not.1 h1)
   exact hba
def z1b (seg:Int) (l:List SegA) (bs:List BatM):(Int × Int) × List SegA :=
 if bs=[] then ((0,3),l) else if (zx (zq l) bs).1≠0 then ((0,(zx (zq l) bs).1),l) else
 ((zq l,0),if z6h seg l ((zx (zq l) bs).2.flatMap frL).length then z4k l (zx (zq l) bs).2 else l++[(⟨zq l,0,[]⟩:SegA).add (zx (zq l) bs).2])
theorem z9o {seg:Int} {l:List SegA} {bs:List BatM} (h:z0b 0 l):z0b 0 (z1b seg l bs).2:=by
 unfold z1b
 split
 ·exact h
 rename_i hb
 split
 ·exact h
 rename_i hp
 have hp:=Decidable.not_not.1 hp
 have hv:=zlr hp hb
 simp only
 split
 ·rename_i hr
  have hne:l≠[]:=by rintro rfl;cases hr
  obtain ⟨l0,s,rfl⟩:=z35 hne
  rw [z3i]
  obtain ⟨h1,h2,h3,h4⟩:=h.front
  exact h1.snoc (ztw h2 hp (z2x _ _)) h3 h4
 ·rename_i hr
  have hs:SegOk ((⟨zq l,0,[]⟩:SegA).add (zx (zq l) bs).2):=by
   refine ⟨hv,.inl rfl,?_⟩
   show z1g _ ([]++_)
   rw [List.nil_append]
   exact (z9n hv.1 hp).1
  refine h.snoc hs hv.1 λt ht=>?_
  show t.reach<=zq l/\t.base<zq l
  have hne:l≠[]:=List.ne_nil_of_mem ht
  obtain ⟨l0,s,rfl⟩:=z35 hne
  obtain ⟨h1,h2,h3,h4⟩:=h.front
  rw [z2x]
  have hsr:=z50 h2
  have hlast:s.base<s.reach:=by
   have hr2:z6h seg (l0++[s]) ((zx (zq (l0++[s])) bs).2.flatMap frL).length=false:=by simpa using hr
   unfold z6h at hr2
   rw [z1o] at hr2
   simp only [Bool.or_eq_false_iff,decide_eq_false_iff_not] at hr2
   have hbs:s.bs≠[]:=by rintro hbs;rw [hbs] at hr2;exact hr2.1 rfl
   have:=hsr.2.2.2.2 hbs
   omega
  rcases List.mem_append.1 ht with ht|ht
  ·have:=h4 t ht;omega
  ·simp only [List.mem_cons,List.not_mem_nil,or_false] at ht
   subst ht
   exact ⟨Int.le_refl _,hlast⟩
theorem zqq (pre:ByteArray) (seg:Int) (l:List SegA) (D:DiskA) (bs:List BatM):((z0u pre seg l D bs).1=(z1b seg l bs).1/\(z0u pre seg l D bs).2.1=(z1b seg l bs).2)\/((z0u pre seg l D bs).1.1=0/\(z0u pre seg l D bs).1.2≠0/\(z0u pre seg l D bs).2.1=l/\(z1b seg l bs).1.2=0):=by
 unfold z0u z1b
 split
 ·exact .inl ⟨rfl,rfl⟩
 split
 ·exact .inl ⟨rfl,rfl⟩
 split
 ·split
  ·rename_i h;exact .inr ⟨rfl,h,rfl,rfl⟩
  ·exact .inl ⟨rfl,rfl⟩
 ·split
  ·rename_i h;exact .inr ⟨rfl,h,rfl,rfl⟩
  split
  ·rename_i h;exact .inr ⟨rfl,h,rfl,rfl⟩
  ·exact .inl ⟨rfl,rfl⟩
theorem zun {pre:ByteArray} {seg:Int} {l:List SegA} {D:DiskA} {bs:List BatM} (h:z0b 0 l):z0b 0 (z0u pre seg l D bs).2.1:=by
 rcases zqq pre seg l D bs with ⟨-,h2⟩|⟨-,-,h2,-⟩
 ·rw [h2];exact z9o h
 ·rw [h2];exact h
def aP:ByteArray:=ByteArray.mk #[112]
theorem zp9:∀ (bs:List BatM) (n:Int),(zx n (bs.map BatM.p)).1=(zx n bs).1/\(zx n (bs.map BatM.p)).2.map BatM.p=(zx n bs).2.map BatM.p
 | [],n=>⟨rfl,rfl⟩
 | b::bs,n=>by
  rw [List.map_cons]
  unfold zx
  have e1:z05 (b.p.to n)=z05 (b.to n):=rfl
  have e2:zp b.p=zp b:=rfl
  obtain ⟨i1,i2⟩:=zp9 bs (n+zp b)
  rw [e1,e2,i1]
  split
  ·exact ⟨rfl,rfl⟩
  split
  ·exact ⟨rfl,rfl⟩
  ·exact ⟨rfl,by rw [List.map_cons,List.map_cons,i2];rfl⟩
theorem zuf {a b:List BatM} (h:a.map BatM.p=b.map BatM.p):a.flatMap frL=b.flatMap frL:=by
 rw [<- zjv a,h,zjv]
theorem zyl {a b:List BatM} (h:a.map BatM.p=b.map BatM.p) (s:SegA):s.add a=s.add b:=by unfold SegA.add;rw [h]
theorem ztv {a b:List BatM} (h:a.map BatM.p=b.map BatM.p) (l:List SegA):z4k l a=z4k l b:=by
 unfold z4k
 split
 ·rfl
 ·rw [zyl h]
theorem zkl (seg:Int) (l:List SegA) (bs:List BatM):z1b seg l (bs.map BatM.p)=z1b seg l bs:=by
 obtain ⟨h1,h2⟩:=zp9 bs (zq l)
 unfold z1b
 rw [h1,zuf h2,ztv h2,zyl h2]
 by_cases hb:bs=[]
 ·subst hb;rfl
 ·rw [if_neg hb,if_neg (by intro h;exact hb (List.map_eq_nil_iff.1 h))]
end Go.Dec
