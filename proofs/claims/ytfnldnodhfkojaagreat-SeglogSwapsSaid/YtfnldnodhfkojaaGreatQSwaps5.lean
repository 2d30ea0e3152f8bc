/- What the claim of this folder leans on: our own texts, joined, without what it does not use. -/
import Derived.Test.YtfnldnodhfkojaaGreatRows
import Derived.WalkKit
import Derived.ProofKit
import Derived.OpenShut
import Derived.RowKit3
import Derived.OrdersHeld
import Derived.Scope
import Derived.KernelRfl
import Derived.Laws.Sem
import Derived.Laws.StructEq
import Derived.Deep.AppendSrc
import Derived.Laws.BytesArg
import Derived.Laws.RangeString
import Derived.Maps.RangeRun
import Derived.Lib.ConvBytes
import Derived.Lib.SlBytesConst
import Derived.ChangeSlices
import Derived.ChangeMaps5
import Derived.ChangeSame
import Derived.Deep.Slices
import Derived.Deep.Fields
import Derived.Test.YtfnldnodhfkojaaGreatProg
import Derived.Laws.MakeOwn
import Derived.Sort.MapsRangeIn
import Derived.Sort.KeysCollected
import Derived.RangeFuncNested
import Derived.RangeFuncBound
import Derived.RangeFuncCalls
import Derived.RangeFuncLeaves
import Derived.RangeFuncBox
import Derived.OwnWalkIn
import Derived.TacticsInMore
import Derived.RegionIn
import Derived.LoopNIn
import Derived.LoopIn
import Derived.Maps.AppendAt
import Derived.Shelf.Abstract
import Derived.Shelf.Sort.Plain
import Derived.Shelf.Slices.In.SortNone
import Derived.Test.YtfnldnodhfkojaaGreatQSwaps1
import Derived.Test.YtfnldnodhfkojaaGreatQSwaps2
import Derived.Test.YtfnldnodhfkojaaGreatQSwaps3
import Derived.Test.YtfnldnodhfkojaaGreatQSwaps4
set_option linter.unusedVariables false
set_option linter.unusedSimpArgs false
namespace Go.Dec
open Go.Proofs Go.Proofs.YtfnldnodhfkojaaGreat
def z11 (p:ByteArray) (fs:List FileA):List ByteArray:=(fs.map (·.name)).filter (preF p)
def zd0 (W:World) (X:Nat->Bool):PH:=⟨λb=>if X b then W.heap[b]? else none,World.env' W⟩
section
variable {w W:World} {l:List HP} {X:Nat->Bool}
theorem zu2 (hs:Sat w l) (hB:RowKit.Below w.heap.size w W):z6w l (zd0 W λb=>decide (b<w.heap.size)):=by
 refine z9b ⟨λb o h=>?_,?_⟩ hs
 ·have h:w.heap[b]? = some o:=h
  have hlt:b<w.heap.size:=(Array.getElem?_eq_some_iff.1 h).1
  show (if decide (b<w.heap.size)=true then W.heap[b]? else none)=some o
  rw [if_pos (decide_eq_true hlt),hB.block b hlt,h]
 ·show World.env' w=World.env' W
  unfold World.env'
  rw [hB.os,hB.output]
theorem zet {b:Nat} {o:Obj} (hs:z6w l (zd0 W X)) (hX:X b=false) (hb:W.heap[b]? = some o):z6w (pt b o::l) (zd0 W λc=>X c || decide (c=b)):=by
 refine ⟨⟨λc=>if c=b then some o else none,World.env' W⟩,zd0 W X,⟨λc u h=>?_,rfl⟩,⟨λc u h=>?_,rfl⟩,λc=>?_,by simp [pt],hs⟩
 ·simp only at h
  split at h
  ·rename_i hc;subst hc
   obtain rfl:=Option.some.inj h
   show (if (X c || decide (c=c))=true then W.heap[c]? else none)=some o
   rw [if_pos (by simp),hb]
  ·cases h
 ·have h:(if X c=true then W.heap[c]? else none)=some u:=h
  split at h
  ·rename_i hc
   show (if (X c || decide (c=b))=true then W.heap[c]? else none)=some u
   rw [if_pos (by rw [hc];rfl),h]
  ·cases h
 ·by_cases hc:c=b
  ·subst hc;right
   show (if X c=true then W.heap[c]? else none)=none
   rw [if_neg (by rw [hX];simp)]
  ·left;simp [hc]
theorem zhe (hs:z6w l (zd0 W X)):Sat W l:=by
 refine z9b (p:=zd0 W X) ⟨λb o h=>?_,rfl⟩ hs
 have h:(if X b=true then W.heap[b]? else none)=some o:=h
 split at h
 ·exact h
 ·cases h
end
theorem zbi:∀ {a b:List ByteArray},a.Perm b->(a.Pairwise λx y=>ltS y x=false)->(b.Pairwise λx y=>ltS x y=true)->a=b
 | a,[],hp,_,_=>hp.eq_nil
 | [],y::b,hp,_,_=>absurd hp.symm.eq_nil (by simp)
 | x::a,y::b,hp,ha,hb=>by
  rw [List.pairwise_cons] at ha hb
  have hxy:x=y:=by
   by_cases h:x=y
   ·exact h
   ·have hx:x ∈ b:=(List.mem_cons.1 (hp.mem_iff.1 (List.mem_cons_self ..))).resolve_left h
    have hy:y ∈ a:=(List.mem_cons.1 (hp.mem_iff.2 (List.mem_cons_self ..))).resolve_left (λe=>h e.symm)
    have h1:=hb.1 x hx
    rw [ha.1 y hy] at h1;cases h1
  subst hxy
  rw [zbi (List.Perm.cons_inv hp) ha.2 hb.2]
def z4g (x:List UInt8):ByteArray:=⟨x.toArray⟩
theorem zs0 (xs:List ByteArray):xs.flatMap z22=xs.map Value.string:=by
 induction xs with
 | nil=>rfl
 | cons x r ih=>rw [List.flatMap_cons,ih];rfl
theorem zh7 {fs:List FileA} (h:fs.Pairwise λa b=>ltS a.name b.name=true) (p:ByteArray):(z11 p fs).Pairwise λx y=>ltS x y=true:=by
 unfold z11
 refine List.Pairwise.filter _ ?_
 rw [List.pairwise_map];exact h
theorem zxw {w:World} {m:Nat} {es:List (ByteArray × Nat)} {l:List HP} (hs:Sat w (z3c ekS evF m es::l)) (hlen:es.length<=1000) (hn:∀ x ∈ es,x.1.size<=24) :
  ∃ D0:DataW Unit,w.ownsMap Tryz.prog 9 (λ_=>some (.lit (.bool true),[])) m 1000 D0/\Maps.size D0<=1000/\((strKeys D0).map z4g).Perm (es.map Prod.fst):=by
 obtain ⟨E,c,hm,hs⟩:=hs.mapOpen
 have hsz:=hm.size
 obtain ⟨xs,h1,h2,h3,h4,h5⟩:=hm
 have hE:E.size<=1000:=by omega
 have hml:1000<=maxLen:=by decide
 have hkeys:∀ e ∈ E.toList,∃ x ∈ xs,e.key=.string x.1:=λe he=>by
  have:(e.key,e.val) ∈ E.toList.map (λe=>(e.key,e.val)):=List.mem_map.2 ⟨e,he,rfl⟩
  rw [h3] at this
  obtain ⟨x,hx,hxe⟩:=List.mem_map.1 this
  exact ⟨x,hx,(Prod.mk.inj hxe).1.symm⟩
 have hrd:∀ e ∈ E.toList,∀ s,e.key=.string s->WideElems.rd (H:=Unit) Tryz.prog 9 (λ_=>some (.lit (.bool true),[])) e=some (.string s.data.toList,.lit (.bool true)):=λe he s hk=>by
  obtain ⟨x,hx,hxe⟩:=hkeys e he
  rw [hk] at hxe
  obtain rfl:s=x.1:=by cases hxe;rfl
  have h24:=hn x (h1.mem_iff.1 hx)
  have:keyOf Tryz.prog 9 (.string x.1)=some (.string x.1.data.toList):=WideMaps.keyOf_string_mk (by kernel_rfl) (by omega)
  unfold WideElems.rd
  rw [hk,this];rfl
 refine ⟨.map ((E.toList.map (WideElems.rg Tryz.prog 9 λ_=>some (.lit (.bool true),[]))).foldr DataW.insert []),⟨E,c,hs.get,⟨by omega,⟨h5,?_,?_⟩,λe he=>?_⟩,hE,rfl⟩,?_,?_⟩
 ·rw [List.Nodup,List.pairwise_map]
  exact h4.imp λh=>Nat.ne_of_lt h
 ·have hk:E.toList.map (·.key)=xs.map λx=>Value.string x.1:=by
   have:=congrArg (List.map Prod.fst) h3
   rw [List.map_map,List.map_map] at this
   exact this
  rw [hk,List.Nodup,List.pairwise_map]
  rw [List.Nodup,List.pairwise_map] at h2
  exact h2.imp λh e=>h (Value.string.inj e)
 ·obtain ⟨x,hx,hxe⟩:=hkeys e he
  exact ⟨_,hrd e he x.1 hxe⟩
 ·show ((E.toList.map _).foldr DataW.insert []).length<=1000
  rw [length_sorted,List.length_map,Array.length_toList];exact hE
 ·have hp:=(WideShapes.sorted_perm (E.toList.map (WideElems.rg (H:=Unit) Tryz.prog 9 λ_=>some (.lit (.bool true),[])))).map (λp:Lit × DataW Unit=>z4g (Go.strOf p.1))
  have e1:(strKeys (DataW.map ((E.toList.map (WideElems.rg (H:=Unit) Tryz.prog 9 λ_=>some (.lit (.bool true),[]))).foldr DataW.insert []))).map z4g=((E.toList.map (WideElems.rg (H:=Unit) Tryz.prog 9 λ_=>some (.lit (.bool true),[]))).foldr DataW.insert []).map (λp:Lit × DataW Unit=>z4g (Go.strOf p.1)):=by
   simp only [strKeys,List.map_map];rfl
  rw [e1]
  refine hp.trans ?_
  rw [List.map_map]
  have e2:E.toList.map ((λp:Lit × DataW Unit=>z4g (Go.strOf p.1))∘WideElems.rg Tryz.prog 9 λ_=>some (.lit (.bool true),[]))=xs.map Prod.fst:=by
   have h6:E.toList.map (λe=>match e.key with | .string s=>s|_=>⟨#[]⟩)=xs.map Prod.fst:=by
    have:=congrArg (List.map λx:Value × Value=>match x.1 with | .string s=>s|_=>⟨#[]⟩) h3
    rw [List.map_map,List.map_map] at this
    exact this
   rw [<- h6]
   refine List.map_congr_left λe he=>?_
   obtain ⟨x,hx,hxe⟩:=hkeys e he
   show z4g (Go.strOf (WideElems.rg (H:=Unit) Tryz.prog 9 (λ_=>some (.lit (.bool true),[])) e).1)=_
   rw [WideElems.rg_of (hrd e he x.1 hxe),hxe]
   show z4g x.1.data.toList=x.1
   exact zsh rfl
  rw [e2]
  exact h1.map _
section
variable {w:World} {l r:List HP} {d:Nat} {A:DiskA}
theorem zgx (p:ByteArray) [hf:Fo l dk d A r] (hs:Sat w l):Ret P F.a9 #[.pointer (some ⟨d,0,none⟩),.string p] w λvs w'=>∃ x:Sl,vs=[x.v]/\Sat w' (slc T.a31 1 x ((z11 p A.fs).flatMap z22)::dk d A::r):=by
 have hs0:=hs.perm hf.perm
 obtain ⟨m,FS,hp,hok,hs1⟩:=z20 hs0
 have hkv:(FS.map λt=>(t.f.name,t.at_)).map Prod.fst=(FS.map FileM.f).map (·.name):=by rw [List.map_map,List.map_map];rfl
 have hlen:(FS.map λt=>(t.f.name,t.at_)).length<=1000:=by
  have:=hp.length_eq;have:=hok.many;simp at *;omega
 obtain ⟨D0,hown,hsz,hkeys⟩:=zxw (hs1.pick [1]) hlen λx hx=>by
  obtain ⟨t,ht,rfl⟩:=List.mem_map.1 hx
  exact hok.names _ (hp.mem_iff.1 (List.mem_map.2 ⟨t,ht,rfl⟩))
 rw [hkv] at hkeys
 have hkeys:=hkeys.trans (hp.map (·.name))
 have hb:=hs1.get
 have hd:d<w.heap.size:=(Array.getElem?_eq_some_iff.1 hb).1
 have hc:w.cell? ⟨d,4,none⟩=some (.map (some m)):=by rw [z4i hb];rfl
 have hfin:=callsIn_wide.1 (zuu (n:=3) (Nat.le_refl _) d m 1000 p w D0 hown hd hc hsz (λv W=>∃ x:Sl,v=x.v/\Sat W (slc T.a31 1 x ((z11 p A.fs).flatMap z22)::dk d A::r)) ?_)
 ·exact Calls.mono hfin λe w' ⟨v,he,x,hv,hs⟩=>⟨[x.v],by rw [he,hv];rfl,x,rfl,hs⟩
 intro D ss v W hD hS hbox hrow hB hK
 have hsR:=zu2 hs0 hB
 have hsR:=zet hsR (b:=w.heap.size+1) (by simp) hbox
 have hDB:D≠w.heap.size+1:=by omega
 have hsR:=zet hsR (b:=D) (by simp;omega) hK
 have hpS:((z56 p ss).map z4g).Perm (z11 p A.fs):=by
  have h1:=((hS.map z4g).trans hkeys).filter (preF p)
  rw [List.filter_map] at h1
  exact h1
 have hflat:((z56 p ss).map z4g).flatMap z22=(z56 p ss).map encStr:=by
  rw [zs0,List.map_map];rfl
 have hlen2:((z56 p ss).map z4g).length<576460752303423488:=by
  rw [hpS.length_eq]
  have h1:(z11 p A.fs).length<=A.fs.length:=by unfold z11;exact Nat.le_trans (List.length_filter_le _ _) (by simp)
  have:=hok.many
  omega
 obtain ⟨x,rfl,hsx⟩:∃ x:Sl,v=x.v/\Sat W (slc T.a31 1 x (((z56 p ss).map z4g).flatMap z22)::pt D (.deferred (some []))::pt (w.heap.size+1) (.cells #[v] 68)::dk d A::r):=by
  rw [hflat]
  obtain ⟨hxl,h|⟨g,cap,cur,rfl,hg,hgb,hcap,-,hcur,htk⟩⟩:=hrow
  ·obtain ⟨rfl,hn0⟩:=h
   have:z56 p ss=[]:=List.length_eq_zero_iff.1 hn0
   rw [this]
   exact ⟨⟨none,0,0⟩,rfl,(zhe hsR).slc_nil⟩
  ·have hgB:g≠w.heap.size+1:=λe=>by
    subst e
    have hbox:W.heap[w.heap.size+1]? = some (.cells #[_] 68 (0,0)):=hbox
    rw [hbox] at hgb
    cases hgb
   have hgD:g≠D:=λe=>by subst e;rw [hK] at hgb;cases hgb
   have hsR:=zhe (zet hsR (b:=g) (by simp;omega) hgb)
   refine ⟨⟨some ⟨g,0,none⟩,(z56 p ss).length,cap⟩,rfl,hsR.imp λq hq=>.inr ⟨g,0,cur,(0,0),rfl,hq,by simp,hcap,by simp [hcur],λi hi=>?_,z2s _ _⟩⟩
   rw [<- htk,List.length_take] at hi
   rw [<- htk,Nat.zero_add,List.getElem?_take,if_pos (by omega)]
   simp
 refine callsIn_wide.2 (Calls.mono (zil x _ (Nat.lt_trans hlen2 (by omega)) hsx) ?_)
 rintro e w' ⟨vs,rfl,rfl,ys,hys,hso,hs'⟩
 have hB1:=(hs'.pick [2]).get
 have hD1:=(hs'.pick [1]).get
 refine ⟨rfl,by rw [z4i hB1];rfl,hD1,x,rfl,?_⟩
 have hset:Sat (z3b w' D (.deferred none)) _:=(hs'.pick [1]).set (o':=.deferred none)
 rw [zbi (hys.trans hpS) hso (zh7 hok.sorted p)] at hset
 exact hset.sub
end
def zbw (x:Sl):List Value:=[x.v]
instance:Enc1 zbw .slc (λx=>x):=⟨λ_=>rfl⟩
instance:EncN zbw 1:=⟨λ_=>rfl,by decide,by simp [zbw,Value.oneCell']⟩
def z9k (l:List HP):List Sl->List (List UInt8)->Prop
 | [],[]=>True
 | x::xs,b::bs=>(∀ w,Sat w l->Rd w 1 x (b.flatMap zf))/\z9k l xs bs
 | _,_=>False
theorem z9k.length {l:List HP}:∀ {xs:List Sl} {bs:List (List UInt8)},z9k l xs bs->xs.length=bs.length
 | [],[],_=>rfl
 | _::_,_::_,h=>by rw [List.length_cons,List.length_cons,h.2.length]
theorem z9k.get {l:List HP}:∀ {xs:List Sl} {bs:List (List UInt8)} (h:z9k l xs bs) (i:Nat) (h1:i<xs.length) (h2:i<bs.length),∀ w,Sat w l->Rd w 1 xs[i] (bs[i].flatMap zf)
 | _::_,_::_,h,0,_,_=>h.1
 | _::_,_::_,h,i+1,h1,h2=>h.2.get i (by simpa using h1) (by simpa using h2)
theorem z3r {bs:List (List UInt8)} {i:Nat} (hi:i<bs.length):(bs.take (i+1)).flatten=(bs.take i).flatten++bs[i]:=by
 rw [List.take_add_one,List.getElem?_eq_getElem hi,List.flatten_append];simp
section
variable {w:World} {l r r0:List HP} {d:Nat} {A:DiskA}
theorem zfd (hok:okA A) {n:ByteArray} (hn:z2t n=true) {bs:List UInt8} (hb:bs.length<=A.free) (hm:¬ (z2b A.fs n=false/\A.fs.length>=128)) :
  okA { A with fs:=if z2b A.fs n then A.fs.map (z1v n λf=>{ f with b:=f.b++bs }) else z2v ⟨n,bs,0⟩ A.fs }:=by
 have hr:=hok.room
 have hu:=hok.used
 unfold DiskA.free at hb
 by_cases h:z2b A.fs n=true
 ·rw [if_pos h]
  obtain ⟨f,hf,rfl⟩:=z66.1 h
  obtain ⟨s,u,hsu⟩:=List.append_of_mem hf
  have hpm:A.fs.Perm (f::(s++u)):=by rw [hsu];exact List.perm_middle
  have hnd:=(hpm.map (·.name)).nodup_iff.1 (z1j hok.sorted)
  rw [List.map_cons,List.nodup_cons] at hnd
  have hne:∀ g ∈ s++u,g.name≠f.name:=λg hg e=>hnd.1 (List.mem_map.2 ⟨g,hg,e⟩)
  have h1:=zbc (g:=λf=>{ f with b:=f.b++bs }) hpm hne
  have h2:used A.fs=f.b.length+used (s++u):=by rw [z1o hpm,z0w]
  refine ⟨hok.room,?_,by show (A.fs.map _).length<=_;rw [List.length_map];exact hok.many,hok.left,z8h (z60 λ_=>rfl) hok.sorted,λg hg=>?_,λg hg=>?_⟩
  ·show used (A.fs.map _)<=_
   rw [h1]
   show (f.b++bs).length+_<=_
   rw [List.length_append];omega
  ·obtain ⟨g,hg',rfl⟩:=List.mem_map.1 hg
   have:=hok.kept g hg'
   unfold z1v
   split
   ·show g.kept<=(g.b++bs).length;rw [List.length_append];omega
   ·exact this
  ·obtain ⟨g,hg',rfl⟩:=List.mem_map.1 hg
   rw [z60 (by intro _;rfl)];exact hok.names g hg'
 ·have h:z2b A.fs n=false:=by simpa using h
  rw [if_neg (by rw [h];simp)]
  have hne:=z5v.1 h
  have hp:=z37 ⟨n,bs,0⟩ A.fs
  refine ⟨hok.room,?_,?_,hok.left,za2 _ hne hok.sorted,λg hg=>?_,λg hg=>?_⟩
  ·show used (z2v _ _)<=_
   rw [z1o hp,z0w];show bs.length+_<=_;omega
  ·show (z2v _ _).length<=_
   rw [hp.length_eq,List.length_cons]
   have:=hok.many
   have:A.fs.length≠128:=λe=>hm ⟨h,by omega⟩
   omega
  ·rcases z9a.1 hg with rfl|hg
   ·exact Nat.zero_le _
   ·exact hok.kept g hg
  ·rcases z9a.1 hg with rfl|hg
   ·exact zb5 hn
   ·exact hok.names g hg
theorem zkc (x:FileA) (g:FileA->FileA) (hg:(g x).name=x.name):∀ {fs:List FileA},(∀ f ∈ fs,f.name≠x.name)->(z2v x fs).map (z1v x.name g)=z2v (g x) fs
 | [],_=>by simp [z2v,z1v]
 | f::r,h=>by
  have hf:z1v x.name g f=f:=by rw [z1v,if_neg (h f (List.mem_cons_self ..))]
  have hr:r.map (z1v x.name g)=r:=by
   conv=>rhs;rw [<- List.map_id r]
   exact List.map_congr_left λy hy=>by rw [z1v,if_neg (h y (List.mem_cons_of_mem _ hy))];rfl
  rw [z2v,z2v,hg]
  split
  ·rw [List.map_cons,List.map_cons,hf,hr,z1v,if_pos rfl]
  ·rw [List.map_cons,hf,zkc x g hg λy hy=>h y (List.mem_cons_of_mem _ hy)]
theorem zeo (n:ByteArray) (ps:Sl) (xs:List Sl) (bs:List (List UInt8)) [hps:FocR r ps 1 (xs.flatMap zbw)] (hbs:z9k r xs bs) (hlen:bs.length<=1000) (hsum:∀ b ∈ bs,b.length<=100000000) [hf:Fo l dk d A r] (hs:Sat w l) :
  Ret P F.a3 #[.pointer (some ⟨d,0,none⟩),.string n,ps.v] w λvs w'=>vs=[.int .i64 (zw A n bs.flatten).1]/\Sat w' (dk d (zw A n bs.flatten).2::r) :=
 zs1 _ n ps <| by
  unfold zf4 zw
  have hxl:=hbs.length
  have hok0:okA A:=by obtain ⟨m,FS,hp,hok,hs⟩:=z20 (hs.perm hf.perm);exact hok
  have hfr:A.free<=4194304:=by have:=hok0.room;unfold DiskA.free;omega
  refine zbu hs (λhg w' hs=>?_) λhg w' hs=>?_
  ·rw [if_pos hg];exact ⟨rfl,hs⟩
  rw [if_neg (by rw [hg];simp)]
  have hpl:=hs.slen ps (xs:=xs) (enc:=zbw)
  refine za (zsk n hs) λ_ _ hs=>?_
  obtain ⟨rfl,hs⟩:=hs
  refine zd ?_
  refine zg (λh=>?_) λh=>?_
  ·have h:z2t n=false:=by simpa using h
   rw [if_pos h];exact ⟨rfl,rfl,hs⟩
  have hn:z2t n=true:=by simpa using h
  rw [if_neg (by rw [hn];simp)]
  refine zp (λv w'=>bs.flatten.length<=A.free/\v=(((bs.flatten.length:Nat):Int),())/\Sat w' (dk d A::r)) ?_ ?_
  ·refine z08 (λk v w=>∃ i:Nat,v=((((bs.take i).flatten.length:Nat):Int),(i:Int),())/\i<=xs.length/\xs.length-i=k/\(bs.take i).flatten.length<=A.free/\Sat w (dk d A::r)) xs.length ⟨0,rfl,by omega,rfl,by simp,hs⟩ ?_
   clear hs
   rintro k _ w ⟨i,rfl,hi,hk,hsm,hs⟩
   refine zk ?_
   refine zg (λhc=>?_) λhc=>?_
   ·have hil:i<xs.length:=by omega
    have hib:i<bs.length:=by omega
    refine z1k hs i hil ?_
    have hrl:xs[i].len=bs[i].length:=(hbs.get i hil hib _ hs.tail).len (enc:=zf) (λ_=>rfl) (by decide)
    have hbi:=hsum _ (List.getElem_mem hib)
    refine za (z001 hs) λ_ _ hs=>?_
    obtain ⟨rfl,hs⟩:=hs
    refine zd ?_
    have ew:IntKind.wrap .i64 ((A.free:Int)-((bs.take i).flatten.length:Nat))=(A.free:Int)-((bs.take i).flatten.length:Nat):=zue
    rw [ew]
    refine zg (λh3=>?_) λh3=>?_
    ·refine zn (zn ?_)
     rw [if_pos]
     ·exact ⟨rfl,rfl,hs⟩
     ·left
      have h4:(bs.take (i+1)).flatten.length<=bs.flatten.length:=by
       have:=congrArg (λl:List (List UInt8)=>l.flatten.length) (List.take_append_drop (i+1) bs)
       simp only [List.flatten_append,List.length_append] at this
       omega
      rw [z3r hib,List.length_append] at h4
      omega
    ·refine z1n (y:=(((bs.take (i+1)).flatten.length:Nat):Int)) ?_ ?_
     ·refine z4c (us':=[.int .i64 (((bs.take (i+1)).flatten.length:Nat):Int),.int .i64 ((i+1:Nat):Int)]) (by (try simp (disch:=omega) only [w64]);first|rfl|(congr;omega)) ?_
      refine z0n (xs.length-(i+1)) ?_
      refine ⟨i+1,rfl,by omega,rfl,?_,hs⟩
      rw [z3r hib,List.length_append];omega
     ·rw [z3r hib,List.length_append,w64 (by omega) (by omega)];omega
   ·refine zn (zh ?_)
    rw [List.take_of_length_le (by omega)] at hsm ⊢
    exact ⟨hsm,rfl,hs⟩
  clear hs
  rintro _ w ⟨hfit,rfl,hs⟩
  refine zk ?_
  obtain ⟨m,FS,hp,hok,hs⟩:=z20 hs
  have hou:=hok.used
  have hor:=hok.room
  have hfit':=hfit
  unfold DiskA.free at hfit'
  (repeat (first|with_reducible (first|refine zk ?_|refine zm ?_|refine z0k ?_|refine zb hs ?_|refine zt hs ?_|refine zi ?_|refine z07 hs λ_ hs=>?_|refine zy hs λ_ _ hs=>?_|refine z00 hs λ_ _ hs=>?_|refine z0f hs λ_ hs=>?_|refine z03 hs λ_ hs=>?_)|(apply wp_must;(focus first|trivial|omega|assumption))|refine z19 ?_|refine wp_lt ?_))
  have hnot:∀ (g:Bool),z2b A.fs n=g->¬ (g=false/\A.fs.length>=128)->(if bs.flatten.length>A.free\/(z2b A.fs n=false/\A.fs.length>=128) then ((5:Int),A) else
    (0,z2o { A with fs:=if z2b A.fs n then A.fs.map (z1v n λf=>{ f with b:=f.b++bs.flatten }) else z2v ⟨n,bs.flatten,0⟩ A.fs })) =
    (0,z2o { A with fs:=if z2b A.fs n then A.fs.map (z1v n λf=>{ f with b:=f.b++bs.flatten }) else z2v ⟨n,bs.flatten,0⟩ A.fs }):=λg hg h=>by
   rw [if_neg]
   rintro (h1|⟨h1,h2⟩)
   ·omega
   ·exact h ⟨by rw [<- hg,h1],h2⟩
  refine zt7 hs (λb hb=>?_) λhb=>?_
  all_goals refine wp_lt ?_
  all_goals refine zp (λv w'=>∃ (t:FileM) (FS':List FileM) (fs1:List FileA),v=(some ⟨t.at_,0,none⟩,())/\t.f.name=n/\fs1.Perm (t.f::FS'.map FileM.f)/\(∀ g ∈ FS'.map FileM.f,g.name≠t.f.name)/\used fs1=used A.fs/\¬ (z2b A.fs n=false/\A.fs.length>=128) /\
    fs1.map (z1v n λf=>{ f with b:=f.b++bs.flatten })=(if z2b A.fs n then A.fs.map (z1v n λf=>{ f with b:=f.b++bs.flatten }) else z2v ⟨n,bs.flatten,0⟩ A.fs) /\
    Sat w' (pt t.at_ (.cells #[t.x.v,.int .i64 t.f.kept] T.a6)::slc T.a34 1 t.x (t.f.b.flatMap zf)::HP.all (FS'.map z3j)::pt d (.cells #[.int .i64 A.left,.bool A.gone,.int .i64 A.room,.int .i64 (used A.fs),.map (some m)] T.a5)::z3c ekS evF m ((t::FS').map λt=>(t.f.name,t.at_))::r)) ?_ ?_
  ·obtain ⟨t,ht,rfl,rfl,hA⟩:=z7z hp hb
   have hhas:z2b A.fs t.f.name=true:=z66.2 ⟨_,hA,rfl⟩
   refine z0g ?_ (by simp)
   obtain ⟨FS',hpm,hs⟩:=z63 hs ht
   obtain ⟨h1,h2,-⟩:=apart hp hok hpm
   refine zh ?_
   refine ⟨t,FS',A.fs,rfl,rfl,h1,h2,rfl,by rw [hhas];simp,by rw [if_pos hhas],?_⟩
   have hs:=(hs.pick [4]).mapPerm (hpm.map λt=>(t.f.name,t.at_))
   exact hs.sub
  rotate_left
  ·have hno:=z7k hp hb
   have hhas:=z5v.2 hno
   refine z17 ?_ (by simp)
   (repeat (first|with_reducible (first|refine zk ?_|refine zm ?_|refine z0k ?_|refine zb hs ?_|refine zt hs ?_|refine zi ?_|refine z07 hs λ_ hs=>?_|refine zy hs λ_ _ hs=>?_|refine z00 hs λ_ _ hs=>?_|refine z0f hs λ_ hs=>?_|refine z03 hs λ_ hs=>?_)|(apply wp_must;(focus first|trivial|omega|assumption))|refine z19 ?_|refine wp_lt ?_))
   refine zyf hs ?_
   have hml:(FS.map λt=>(t.f.name,t.at_)).length=A.fs.length:=by rw [List.length_map,<- hp.length_eq,List.length_map]
   rw [hml]
   refine zg (λh3=>?_) λh3=>?_
   ·refine zn ?_
    rw [if_pos (.inr ⟨hhas,by omega⟩)]
    exact ⟨rfl,rfl,z1z m hp hok hs⟩
   refine z00 hs λa w' hs=>?_
   (repeat (first|with_reducible (first|refine zk ?_|refine zm ?_|refine z0k ?_|refine zb hs ?_|refine zt hs ?_|refine zi ?_|refine z07 hs λ_ hs=>?_|refine zy hs λ_ _ hs=>?_|refine z00 hs λ_ _ hs=>?_|refine z0f hs λ_ hs=>?_|refine z03 hs λ_ hs=>?_)|(apply wp_must;(focus first|trivial|omega|assumption))|refine z19 ?_|refine wp_lt ?_))
   refine zgu hs (FS.map λt=>(t.f.name,t.at_)) (.inr ⟨hb,rfl⟩) a λw' hs=>?_
   refine zh ?_
   refine ⟨⟨a,⟨none,0,0⟩,⟨n,[],0⟩⟩,FS,z2v ⟨n,[],0⟩ A.fs,rfl,rfl,(z37 _ _).trans (.cons _ hp.symm),λg hg=>hno g (hp.mem_iff.1 hg),?_,by omega,?_,?_⟩
   ·rw [z1o (z37 _ _),z0w];exact Nat.zero_add _
   ·rw [if_neg (by rw [hhas];simp)]
    exact zkc ⟨n,[],0⟩ (λf=>{ f with b:=f.b++bs.flatten }) rfl hno
   ·exact (hs.slc_nil (T:=T.a34) (sz:=1)).pick [2,0,2,1,0]
  all_goals clear hs
  all_goals rintro _ w ⟨t,FS',fs1,rfl,htn,h1,h2,hus,hno,hfin,hs⟩
  all_goals refine zk ?_
  all_goals rw [hnot _ rfl hno,<- hfin]
  all_goals subst htn
  all_goals refine zp (λ_ w'=>∃ x1:Sl,Sat w' (pt t.at_ (.cells #[x1.v,.int .i64 t.f.kept] T.a6)::slc T.a34 1 x1 ((t.f.b++bs.flatten).flatMap zf)::HP.all (FS'.map z3j)::pt d (.cells #[.int .i64 A.left,.bool A.gone,.int .i64 A.room,.int .i64 (used A.fs),.map (some m)] T.a5)::z3c ekS evF m ((t::FS').map λt=>(t.f.name,t.at_))::r)) ?_ ?_
  ·refine z08 (λk v w=>∃ (i:Nat) (x1:Sl),v=((i:Int),())/\i<=xs.length/\xs.length-i=k/\Sat w (pt t.at_ (.cells #[x1.v,.int .i64 t.f.kept] T.a6)::slc T.a34 1 x1 ((t.f.b++(bs.take i).flatten).flatMap zf)::HP.all (FS'.map z3j)::pt d (.cells #[.int .i64 A.left,.bool A.gone,.int .i64 A.room,.int .i64 (used A.fs),.map (some m)] T.a5)::z3c ekS evF m ((t::FS').map λt=>(t.f.name,t.at_))::r)) xs.length ⟨0,t.x,rfl,by omega,rfl,by simpa using hs⟩ ?_
   clear hs
   rintro k _ w ⟨i,x1,rfl,hi,hk,hs⟩
   refine zk ?_
   refine zg (λhc=>?_) λhc=>?_
   ·have hil:i<xs.length:=by omega
    have hib:i<bs.length:=by omega
    refine z1k hs i hil ?_
    have hrd:FocR r xs[i] 1 (bs[i].flatMap zf):=⟨hbs.get i hil hib⟩
    have hbi:=hsum _ (List.getElem_mem hib)
    have hsm:(bs.take i).flatten.length<=bs.flatten.length:=by
     have:=congrArg (λl:List (List UInt8)=>l.flatten.length) (List.take_append_drop i bs)
     simp only [List.flatten_append,List.length_append] at this
     omega
    have htb:t.f.b.length<=used fs1:=z6x (h1.mem_iff.2 (List.mem_cons_self ..))
    (repeat (first|with_reducible (first|refine zk ?_|refine zm ?_|refine z0k ?_|refine zb hs ?_|refine zt hs ?_|refine zi ?_|refine z07 hs λ_ hs=>?_|refine zy hs λ_ _ hs=>?_|refine z00 hs λ_ _ hs=>?_|refine z0f hs λ_ hs=>?_|refine z03 hs λ_ hs=>?_)|(apply wp_must;(focus first|trivial|omega|assumption))|refine z19 ?_|refine wp_lt ?_))
    refine wp_app' hs (xs:=t.f.b++(bs.take i).flatten) (ys:=bs[i]) (enc:=zf) (λz w' hs=>?_) (by rw [List.length_append];omega)
    (repeat (first|with_reducible (first|refine zk ?_|refine zm ?_|refine z0k ?_|refine zb hs ?_|refine zt hs ?_|refine zi ?_|refine z07 hs λ_ hs=>?_|refine zy hs λ_ _ hs=>?_|refine z00 hs λ_ _ hs=>?_|refine z0f hs λ_ hs=>?_|refine z03 hs λ_ hs=>?_)|(apply wp_must;(focus first|trivial|omega|assumption))|refine z19 ?_|refine wp_lt ?_))
    refine z4c (us':=[.int .i64 ((i+1:Nat):Int)]) (by (try simp (disch:=omega) only [w64]);first|rfl|(congr;omega)) ?_
    refine z0n (xs.length-(i+1)) ?_
    refine ⟨i+1,z,rfl,by omega,rfl,?_⟩
    rw [z3r hib,<- List.append_assoc]
    exact hs.sub
   ·refine zn (zh ⟨x1,?_⟩)
    rwa [List.take_of_length_le (l:=bs) (by omega)] at hs
  rotate_left
  ·refine z08 (λk v w=>∃ (i:Nat) (x1:Sl),v=((i:Int),())/\i<=xs.length/\xs.length-i=k/\Sat w (pt t.at_ (.cells #[x1.v,.int .i64 t.f.kept] T.a6)::slc T.a34 1 x1 ((t.f.b++(bs.take i).flatten).flatMap zf)::HP.all (FS'.map z3j)::pt d (.cells #[.int .i64 A.left,.bool A.gone,.int .i64 A.room,.int .i64 (used A.fs),.map (some m)] T.a5)::z3c ekS evF m ((t::FS').map λt=>(t.f.name,t.at_))::r)) xs.length ⟨0,t.x,rfl,by omega,rfl,by simpa using hs⟩ ?_
   clear hs
   rintro k _ w ⟨i,x1,rfl,hi,hk,hs⟩
   refine zk ?_
   refine zg (λhc=>?_) λhc=>?_
   ·have hil:i<xs.length:=by omega
    have hib:i<bs.length:=by omega
    refine z1k hs i hil ?_
    have hrd:FocR r xs[i] 1 (bs[i].flatMap zf):=⟨hbs.get i hil hib⟩
    have hbi:=hsum _ (List.getElem_mem hib)
    have hsm:(bs.take i).flatten.length<=bs.flatten.length:=by
     have:=congrArg (λl:List (List UInt8)=>l.flatten.length) (List.take_append_drop i bs)
     simp only [List.flatten_append,List.length_append] at this
     omega
    have htb:t.f.b.length<=used fs1:=z6x (h1.mem_iff.2 (List.mem_cons_self ..))
    (repeat (first|with_reducible (first|refine zk ?_|refine zm ?_|refine z0k ?_|refine zb hs ?_|refine zt hs ?_|refine zi ?_|refine z07 hs λ_ hs=>?_|refine zy hs λ_ _ hs=>?_|refine z00 hs λ_ _ hs=>?_|refine z0f hs λ_ hs=>?_|refine z03 hs λ_ hs=>?_)|(apply wp_must;(focus first|trivial|omega|assumption))|refine z19 ?_|refine wp_lt ?_))
    refine wp_app' hs (xs:=t.f.b++(bs.take i).flatten) (ys:=bs[i]) (enc:=zf) (λz w' hs=>?_) (by rw [List.length_append];omega)
    (repeat (first|with_reducible (first|refine zk ?_|refine zm ?_|refine z0k ?_|refine zb hs ?_|refine zt hs ?_|refine zi ?_|refine z07 hs λ_ hs=>?_|refine zy hs λ_ _ hs=>?_|refine z00 hs λ_ _ hs=>?_|refine z0f hs λ_ hs=>?_|refine z03 hs λ_ hs=>?_)|(apply wp_must;(focus first|trivial|omega|assumption))|refine z19 ?_|refine wp_lt ?_))
    refine z4c (us':=[.int .i64 ((i+1:Nat):Int)]) (by (try simp (disch:=omega) only [w64]);first|rfl|(congr;omega)) ?_
    refine z0n (xs.length-(i+1)) ?_
    refine ⟨i+1,z,rfl,by omega,rfl,?_⟩
    rw [z3r hib,<- List.append_assoc]
    exact hs.sub
   ·refine zn (zh ⟨x1,?_⟩)
    rwa [List.take_of_length_le (l:=bs) (by omega)] at hs
  all_goals clear hs
  all_goals rintro _ w ⟨x1,hs⟩
  all_goals refine zk ?_
  all_goals have hu3:=zbc (g:=λf=>{ f with b:=f.b++bs.flatten }) h1 h2
  all_goals have hu4:used fs1=t.f.b.length+used (FS'.map FileM.f):=by rw [z1o h1,z0w]
  all_goals have hu5:used (fs1.map (z1v t.f.name λf=>{ f with b:=f.b++bs.flatten }))=used A.fs+bs.flatten.length:=by (rw [hu3];show (t.f.b++bs.flatten).length+_=_;rw [List.length_append];omega)
  all_goals have ew:IntKind.wrap .i64 (((used A.fs:Nat):Int)+((bs.flatten.length:Nat):Int))=((used (fs1.map (z1v t.f.name λf=>{ f with b:=f.b++bs.flatten })):Nat):Int):=by rw [hu5,w64 (by omega) (by omega)];omega
  all_goals refine zm ?_
  all_goals refine zb hs ?_
  all_goals rw [ew]
  all_goals (repeat (first|with_reducible (first|refine zk ?_|refine zm ?_|refine z0k ?_|refine zb hs ?_|refine zt hs ?_|refine zi ?_|refine z07 hs λ_ hs=>?_|refine zy hs λ_ _ hs=>?_|refine z00 hs λ_ _ hs=>?_|refine z0f hs λ_ hs=>?_|refine z03 hs λ_ hs=>?_)|(apply wp_must;(focus first|trivial|omega|assumption))|refine z19 ?_|refine wp_lt ?_))
  all_goals have hs:=z4l (FS:=FS') ⟨t.at_,x1,{ t.f with b:=t.f.b++bs.flatten }⟩ hs
  all_goals have hp':(((⟨t.at_,x1,{ t.f with b:=t.f.b++bs.flatten }⟩:FileM)::FS').map FileM.f).Perm (fs1.map (z1v t.f.name λf=>{ f with b:=f.b++bs.flatten })):=(z6s (g:=λf=>{ f with b:=f.b++bs.flatten }) h1 h2).symm
  all_goals have hok':=zfd hok hn hfit hno
  all_goals rw [<- hfin] at hok'
  all_goals have hs:Sat _ (z3c ekS evF m (((⟨t.at_,x1,{ t.f with b:=t.f.b++bs.flatten }⟩:FileM)::FS').map λt=>(t.f.name,t.at_))::_):=hs.pick [2]
  all_goals rw [hg] at hs
  all_goals refine za (z7v (l':=r) hg hok' hp' hs) λ_ _ hs=>?_
  all_goals obtain ⟨rfl,hs⟩:=hs
  all_goals refine zd ?_
  all_goals exact ⟨rfl,rfl,hs⟩
end
theorem zb2 {fs:List FileA} {g:FileA->FileA} (hb:∀ f,(g f).b=f.b):used (fs.map g)=used fs:=by
 unfold used
 rw [List.map_map]
 congr 1
 exact List.map_congr_left λf _=>by show (g f).b.length=_;rw [hb]
theorem zn9 {A:DiskA} (hok:okA A) {g:FileA->FileA} (hn:∀ f,(g f).name=f.name) (hb:∀ f,(g f).b=f.b) (hk:∀ f,f.kept<=f.b.length->(g f).kept<=f.b.length):okA { A with fs:=A.fs.map g }:=by
 refine ⟨hok.room,by show used (A.fs.map g)<=_;rw [zb2 hb];exact hok.used,by show (A.fs.map g).length<=_;rw [List.length_map];exact hok.many,hok.left,z8h hn hok.sorted,λf hf=>?_,λf hf=>?_⟩
 ·obtain ⟨f,hf',rfl⟩:=List.mem_map.1 hf
  rw [hb];exact hk f (hok.kept f hf')
 ·obtain ⟨f,hf',rfl⟩:=List.mem_map.1 hf
  rw [hn];exact hok.names f hf'
def z85 (f:FileA):FileA:={ f with kept:=f.b.length }
def z34 (ns:List ByteArray) (f:FileA):FileA:=if ns.any (λm=>decide (m=f.name)) then z85 f else f
theorem zap (ns:List ByteArray) (f:FileA):(z34 ns f).name=f.name:=by unfold z34;split <;> rfl
theorem zgz (ns:List ByteArray) (f:FileA):(z34 ns f).b=f.b:=by unfold z34;split <;> rfl
theorem zr6 (ns:List ByteArray) (f:FileA) (h:f.kept<=f.b.length):(z34 ns f).kept<=f.b.length:=by
 unfold z34;split
 ·exact Nat.le_refl _
 ·exact h
theorem zry:z34 []=id:=by funext f;simp [z34]
theorem zr5 (ns:List ByteArray) (n:ByteArray) (f:FileA):z1v n z85 (z34 ns f)=z34 (ns++[n]) f:=by
 unfold z1v
 rw [zap]
 unfold z34
 rw [List.any_append]
 by_cases h1:f.name=n
 ·rw [if_pos h1]
  have:(ns.any (λm=>decide (m=f.name)) || [n].any (λm=>decide (m=f.name)))=true:=by simp [h1]
  rw [if_pos this]
  split <;> rfl
 ·rw [if_neg h1]
  have:(ns.any (λm=>decide (m=f.name)) || [n].any (λm=>decide (m=f.name)))=ns.any (λm=>decide (m=f.name)):=by simp [Ne.symm h1]
  rw [this]
theorem zu3 (s:ByteArray):Go.Proofs.YtfnldnodhfkojaaGreat.preF (ByteArray.mk #[]) s=true:=by
 unfold Go.Proofs.YtfnldnodhfkojaaGreat.preF
 rw [show (ByteArray.mk #[]).toList=[] from by rw [ByteArray.toList_eq]]
 rfl
theorem z8l (fs:List FileA):z11 (ByteArray.mk #[]) fs=fs.map (·.name):=List.filter_eq_self.2 λs _=>zu3 s
theorem zun (fs:List FileA):fs.map (z34 (fs.map (·.name)))=fs.map (z4a []):=by
 refine List.map_congr_left λf hf=>?_
 unfold z34 z4a
 rw [if_pos (show ((fs.map (·.name)).any λm=>decide (m=f.name))=true by simp;exact ⟨f,hf,rfl⟩),if_pos (show zb4 [] f.name=true from rfl)]
 rfl
theorem zsb {ns:List ByteArray} (h:ns≠[]) (fs:List FileA):fs.map (z34 ns)=fs.map (z4a ns):=by
 refine List.map_congr_left λf hf=>?_
 have e:zb4 ns f.name=ns.any (λm=>decide (m=f.name)):=by
  unfold zb4
  cases ns with
  | nil=>exact absurd rfl h
  | cons _ _=>rfl
 unfold z34 z4a
 rw [e];rfl
theorem zum {fs:List FileA} {g:FileA->FileA} (hn:∀ f,(g f).name=f.name) (n:ByteArray):z2b (fs.map g) n=z2b fs n:=by
 unfold z2b
 rw [List.any_map]
 congr 1
 funext f
 show decide ((g f).name=n)=_
 rw [hn]
section
variable {w:World} {l r r0:List HP} {d:Nat} {A:DiskA}
theorem zsw (nx:Sl) (ns:List ByteArray) [hns:FocR r nx 1 (ns.flatMap z22)] (hlen:ns.length<=100000) [hf:Fo l dk d A r] (hs:Sat w l) :
  Ret P F.a13 #[.pointer (some ⟨d,0,none⟩),nx.v] w λvs w'=>vs=[.int .i64 (z0x A ns).1]/\Sat w' (dk d (z0x A ns).2::r) :=
 zou _ nx <| by
  unfold zzm z0x
  refine zbu hs (λhg w' hs=>?_) λhg w' hs=>?_
  ·rw [if_pos hg];exact ⟨rfl,hs⟩
  rw [if_neg (by rw [hg];simp)]
  have hpl:=hs.slen nx (xs:=ns) (enc:=z22)
  have hok0:okA A:=by obtain ⟨m,FS,hp,hok,hs⟩:=z20 hs;exact hok
  refine zp (λv w'=>ns.all (z2b A.fs)=true/\Sat w' (dk d A::r)) ?_ ?_
  ·refine z08 (λk v w=>∃ i:Nat,v=((i:Int),())/\i<=ns.length/\ns.length-i=k/\(ns.take i).all (z2b A.fs)=true/\Sat w (dk d A::r)) ns.length ⟨0,rfl,by omega,rfl,rfl,hs⟩ ?_
   clear hs
   rintro k _ w ⟨i,rfl,hi,hk,hall,hs⟩
   refine zk ?_
   refine zg (λhc=>?_) λhc=>?_
   ·have hil:i<ns.length:=by omega
    refine z1k hs i hil ?_
    have htk:(ns.take (i+1)).all (z2b A.fs)=z2b A.fs ns[i]:=by
     rw [List.take_add_one,List.getElem?_eq_getElem hil,List.all_append,hall];simp
    obtain ⟨m,FS,hp,hok,hs⟩:=z20 hs
    (repeat (first|with_reducible (first|refine zk ?_|refine zm ?_|refine z0k ?_|refine zb hs ?_|refine zt hs ?_|refine zi ?_|refine z07 hs λ_ hs=>?_|refine zy hs λ_ _ hs=>?_|refine z00 hs λ_ _ hs=>?_|refine z0f hs λ_ hs=>?_|refine z03 hs λ_ hs=>?_)|(apply wp_must;(focus first|trivial|omega|assumption))|refine z19 ?_|refine wp_lt ?_))
    refine z78 hs (λb hb=>?_) λhb=>?_
    ·obtain ⟨t,ht,rfl,hnm,hA⟩:=z7z hp hb
     refine z0g ?_ (by simp)
     refine z4c (us':=[.int .i64 ((i+1:Nat):Int)]) (by (try simp (disch:=omega) only [w64]);first|rfl|(congr;omega)) ?_
     refine z0n (ns.length-(i+1)) ?_
     exact ⟨i+1,rfl,by omega,rfl,by rw [htk];exact z66.2 ⟨_,hA,hnm⟩,z1z m hp hok hs⟩
    ·refine z17 ?_ (by rfl)
     refine zn (zn ?_)
     have:ns.all (z2b A.fs)=false:=by
      rw [<- List.take_append_drop (i+1) ns,List.all_append,htk,z5v.2 (z7k hp hb)];rfl
     rw [if_pos this]
     exact ⟨rfl,rfl,z1z m hp hok hs⟩
   ·refine zn (zh ⟨?_,hs⟩)
    rwa [List.take_of_length_le (by omega)] at hall
  clear hs
  rintro _ w ⟨hall,hs⟩
  refine zk ?_
  rw [if_neg (by rw [hall];simp)]
  refine zp (λv w'=>∃ (nx1:Sl) (ns1:List ByteArray) (r1:List HP),v=(nx1,())/\ns1.length<=100000/\ns1.all (z2b A.fs)=true/\A.fs.map (z34 ns1)=A.fs.map (z4a ns)/\(∃ h:FocR (slc T.a31 1 nx1 (ns1.flatMap z22)::r) nx1 1 (ns1.flatMap z22),True) /\
    (Sat w' (dk d A::r1))/\(r1=r/\(∃ _h:FocR r nx1 1 (ns1.flatMap z22),True)\/r1=slc T.a31 1 nx1 (ns1.flatMap z22)::r)) ?_ ?_
  ·refine zg (λh=>?_) λh=>?_
   ·have hnil:ns=[]:=List.length_eq_zero_iff.1 (by omega)
    subst hnil
    refine za (zgx (ByteArray.mk #[]) hs) λ_ _ hs=>?_
    obtain ⟨x,rfl,hs⟩:=hs
    refine zd ?_
    refine zh ?_
    refine ⟨x,z11 (ByteArray.mk #[]) A.fs,_,rfl,?_,?_,?_,⟨inferInstance,trivial⟩,(hs.pick [1]),.inr rfl⟩
    ·rw [z8l,List.length_map];have:=hok0.many;omega
    ·rw [z8l,List.all_map,List.all_eq_true]
     exact λf hf=>z66.2 ⟨f,hf,rfl⟩
    ·rw [z8l];exact zun A.fs
   ·refine zh ?_
    refine ⟨nx,ns,r,rfl,hlen,hall,zsb (λe=>by subst e;simp at hpl;omega) A.fs,⟨inferInstance,trivial⟩,hs,.inl ⟨rfl,hns,trivial⟩⟩
  clear hs
  rintro _ w ⟨nx1,ns1,r1,rfl,hlen1,hall1,hmark,-,hs,hr1⟩
  refine zk ?_
  have hR1:FocR r1 nx1 1 (ns1.flatMap z22):=by
   rcases hr1 with ⟨rfl,h,-⟩|rfl
   ·exact h
   ·infer_instance
  have hsub:∀ {H:HP} {w:World},Sat w (H::r1)->Sat w (H::r):=λ{H w} h=>by
   rcases hr1 with ⟨rfl,-⟩|rfl
   ·exact h
   ·exact h.sub
  have hpl1:=hs.slen nx1 (xs:=ns1) (enc:=z22)
  refine zp (λv w'=>Sat w' (dk d { A with fs:=A.fs.map (z34 ns1) }::r1)) ?_ ?_
  ·refine z08 (λk v w=>∃ i:Nat,v=((i:Int),())/\i<=ns1.length/\ns1.length-i=k/\Sat w (dk d { A with fs:=A.fs.map (z34 (ns1.take i)) }::r1)) ns1.length ⟨0,rfl,by omega,rfl,by rw [List.take_zero,zry,List.map_id];exact hs⟩ ?_
   clear hs
   rintro k _ w ⟨i,rfl,hi,hk,hs⟩
   refine zk ?_
   refine zg (λhc=>?_) λhc=>?_
   ·have hil:i<ns1.length:=by omega
    refine z1k hs i hil ?_
    obtain ⟨m,FS,hp,hok,hs⟩:=z20 hs
    (repeat (first|with_reducible (first|refine zk ?_|refine zm ?_|refine z0k ?_|refine zb hs ?_|refine zt hs ?_|refine zi ?_|refine z07 hs λ_ hs=>?_|refine zy hs λ_ _ hs=>?_|refine z00 hs λ_ _ hs=>?_|refine z0f hs λ_ hs=>?_|refine z03 hs λ_ hs=>?_)|(apply wp_must;(focus first|trivial|omega|assumption))|refine z19 ?_|refine wp_lt ?_))
    refine z78 hs (λb hb=>?_) λhb=>?_
    ·obtain ⟨t,ht,rfl,hnm,hA⟩:=z7z hp hb
     obtain ⟨FS',hpm,hs⟩:=z63 hs ht
     obtain ⟨h1,h2,-⟩:=apart hp hok hpm
     (repeat (first|with_reducible (first|refine zk ?_|refine zm ?_|refine z0k ?_|refine zb hs ?_|refine zt hs ?_|refine zi ?_|refine z07 hs λ_ hs=>?_|refine zy hs λ_ _ hs=>?_|refine z00 hs λ_ _ hs=>?_|refine z0f hs λ_ hs=>?_|refine z03 hs λ_ hs=>?_)|(apply wp_must;(focus first|trivial|omega|assumption))|refine z19 ?_|refine wp_lt ?_))
     rw [hs.slen t.x (xs:=t.f.b) (enc:=zf)] at hs
     have hs:=z4l (FS:=FS') ⟨t.at_,t.x,z85 t.f⟩ hs
     have hs:Sat _ (z3c ekS evF m (((⟨t.at_,t.x,z85 t.f⟩:FileM)::FS').map λt=>(t.f.name,t.at_))::_):=(hs.pick [2]).mapPerm (hpm.map λt=>(t.f.name,t.at_))
     have hstep:(A.fs.map (z34 (ns1.take i))).map (z1v t.f.name z85)=A.fs.map (z34 (ns1.take (i+1))):=by
      rw [List.map_map,List.take_add_one,List.getElem?_eq_getElem hil]
      refine List.map_congr_left λf _=>?_
      show z1v t.f.name z85 (z34 _ f)=_
      rw [zr5,hnm];rfl
     have hp':(((⟨t.at_,t.x,z85 t.f⟩:FileM)::FS').map FileM.f).Perm (A.fs.map (z34 (ns1.take (i+1)))):=by
      rw [<- hstep]
      exact (z6s (g:=z85) h1 h2).symm
     refine z4c (us':=[.int .i64 ((i+1:Nat):Int)]) (by (try simp (disch:=omega) only [w64]);first|rfl|(congr;omega)) ?_
     refine z0n (ns1.length-(i+1)) ?_
     refine ⟨i+1,rfl,by omega,rfl,?_⟩
     exact z1z m (A:={ A with fs:=A.fs.map (z34 (ns1.take (i+1))) }) hp' (zn9 hok0 (zap _) (zgz _) (zr6 _)) hs (by rw [zb2 (zgz _),zb2 (zgz _)])
    ·exfalso
     have h3:=z5v.2 (z7k hp hb)
     have h4:z2b A.fs ns1[i]=true:=List.all_eq_true.1 hall1 _ (List.getElem_mem hil)
     rw [zum (zap _),h4] at h3
     cases h3
   ·refine zn (zh ?_)
    rwa [List.take_of_length_le (by omega)] at hs
  clear hs
  rintro _ w hs
  refine zk ?_
  rw [hmark] at hs
  obtain ⟨m,FS,hp,hok,hs⟩:=z20 (hsub hs)
  have hs:Sat w (pt d (.cells #[.int .i64 A.left,.bool A.gone,.int .i64 A.room,.int .i64 (used (A.fs.map (z4a ns))),.map (some m)] T.a5)::_):=hs
  (repeat (first|with_reducible (first|refine zk ?_|refine zm ?_|refine z0k ?_|refine zb hs ?_|refine zt hs ?_|refine zi ?_|refine z07 hs λ_ hs=>?_|refine zy hs λ_ _ hs=>?_|refine z00 hs λ_ _ hs=>?_|refine z0f hs λ_ hs=>?_|refine z03 hs λ_ hs=>?_)|(apply wp_must;(focus first|trivial|omega|assumption))|refine z19 ?_|refine wp_lt ?_))
  rw [hg] at hs
  refine za (z7v (l':=r) (A:=A) hg hok hp hs) λ_ _ hs=>?_
  obtain ⟨rfl,hs⟩:=hs
  refine zd ?_
  exact ⟨rfl,rfl,hs⟩
theorem zzs (t:FileM) (hlen:t.f.b.length<=4194304) [hb:FocB l t.at_ (.cells [.slice t.x.a t.x.len t.x.cap,.int .i64 t.f.kept].toArray T.a6) r] [hr:FocS r t.x T.a34 1 (t.f.b.flatMap zf) r0] (hs:Sat w l) :
  Ret P F.a18 #[.pointer (some ⟨t.at_,0,none⟩)] w λvs w'=>∃ (b:Nat) (x:Sl),vs=[.pointer (some ⟨b,0,none⟩)]/\Sat w' (pt b (.cells #[x.v,.int .i64 t.f.kept] T.a6)::slc T.a34 1 x (t.f.b.flatMap zf)::l) :=
 zq8 _ <| by
  unfold z01y
  have hR:FocR l t.x 1 (t.f.b.flatMap zf):=⟨λw hs=>((hs.perm hb.perm).tail.focS t.x).rd⟩
  refine z3z ?_
  refine z07 hs λw' hs=>?_
  refine zm ?_
  refine zb hs ?_
  refine zm ?_
  refine z1m hs ?_
  refine za (znz t.x t.f.b (by omega) hs) λvs w' h=>?_
  obtain ⟨z,rfl,hs⟩:=h
  refine zd ?_ ⟨trivial,λ_=>z0i hs⟩
  refine zi ?_
  refine z00 hs λb w' hs=>?_
  refine zi ?_
  refine z3f ?_
  exact ⟨rfl,b,z,rfl,hs.sub⟩
end
theorem zaq {a b:List FileA} (h:a.Sublist b):used a<=used b:=by
 induction h with
 | slnil=>exact Nat.le_refl _
 | cons x _ ih=>rw [z0w];omega
 | cons_cons x _ ih=>rw [z0w,z0w];omega
theorem zmz {A:DiskA} (hok:okA A) {fs:List FileA} (h:fs.Sublist A.fs):okA { A with fs:=fs } :=
 ⟨hok.room,Nat.le_trans (zaq h) hok.used,Nat.le_trans h.length_le hok.many,hok.left,hok.sorted.sublist h,λf hf=>hok.kept f (h.mem hf),λf hf=>hok.names f (h.mem hf)⟩
theorem zen {f:FileA} (h:f.kept<=f.b.length) (m:Int):z3e f m<=f.b.length:=by unfold z3e;omega
theorem zdv {g:Nat->FileA->FileA} (hg:∀ i f,(g i f).b.length<=f.b.length):∀ (fs:List FileA),used (fs.mapIdx g)<=used fs:=by
 intro fs
 induction fs generalizing g with
 | nil=>exact Nat.le_refl _
 | cons f r ih =>
  rw [List.mapIdx_cons,z0w,z0w]
  have:=hg 0 f
  have:=ih (g:=λi=>g (i+1)) λi f=>hg (i+1) f
  omega
theorem zjv {g:Nat->FileA->FileA} (hg:∀ i f,(g i f).name=f.name):∀ (fs:List FileA),(fs.mapIdx g).map (·.name)=fs.map (·.name):=by
 intro fs
 induction fs generalizing g with
 | nil=>rfl
 | cons f r ih=>rw [List.mapIdx_cons,List.map_cons,List.map_cons,hg,ih λi f=>hg (i+1) f]
theorem z72 {A:DiskA} (hok:okA A) (ps:List Int):okA (z1c A ps):=by
 have hn:=zjv (g:=λi f=>z41 ps f i) (λi f=>rfl) A.fs
 refine ⟨hok.room,?_,?_,by show (-1:Int) <= -1/\(-1:Int)<=_;omega,?_,λf hf=>?_,λf hf=>?_⟩
 ·refine Nat.le_trans (zdv (λi f=>?_) A.fs) hok.used
  show (f.b.take _).length<=_
  rw [List.length_take];omega
 ·show (A.fs.mapIdx _).length<=_
  rw [List.length_mapIdx];exact hok.many
 ·have h:=hok.sorted
  show (A.fs.mapIdx λi f=>z41 ps f i).Pairwise _
  have e:∀ fs:List FileA,(fs.Pairwise λa b=>ltS a.name b.name=true)↔(fs.map (·.name)).Pairwise λa b=>ltS a b=true:=λfs=>by rw [List.pairwise_map]
  rw [e] at h ⊢
  rw [hn];exact h
 ·obtain ⟨i,hi,rfl⟩:=List.mem_mapIdx.1 hf
  have:=hok.kept _ (List.getElem_mem hi)
  show z3e _ _<=(List.take _ _).length
  rw [List.length_take]
  have:=zen this (z3o ps i)
  omega
 ·obtain ⟨i,hi,rfl⟩:=List.mem_mapIdx.1 hf
  show A.fs[i].name.size<=24
  exact hok.names _ (List.getElem_mem hi)
theorem zof {A:DiskA} (ps:List Int) {i:Nat} (hi:i<A.fs.length):(A.fs.take (i+1)).mapIdx (λi f=>z41 ps f i)=(A.fs.take i).mapIdx (λi f=>z41 ps f i)++[z41 ps A.fs[i] i]:=by
 rw [List.take_add_one,List.getElem?_eq_getElem hi,Option.toList_some,List.mapIdx_append]
 simp only [List.mapIdx_cons,List.mapIdx_nil,List.length_take]
 rw [Nat.min_eq_left (by omega),Nat.zero_add]
theorem z02y (i n:Nat):Int.tmod (i:Int) (n:Int)=((i % n:Nat):Int):=by
 rw [Int.tmod_eq_emod_of_nonneg (by omega)];exact (Int.natCast_emod i n).symm
section
variable {w:World} {l r:List HP} {d:Nat} {A:DiskA}
theorem znw     (px : Sl) (ps : List Int) [hps : FocR r px 1 (ps.flatMap z21 )] (hlen : ps.length ≤ 1000000) [hf : Fo l dk d A r] (hs : Sat w l) :
    Ret P F.a4 #[.pointer (some ⟨d, 0, none⟩), px.v] w fun vs w' => ∃ c : Nat, vs = [.pointer (some ⟨c, 0, none⟩)] ∧ Sat w' (dk c (z1c    A ps) :: dk d A :: r) :=
  zsc       _ px <| by
    unfold zf5
    refine z0g    ?_ (by simp)
    have hpl := (hs.perm hf.perm).slen px (xs := ps) (enc := z21 )
    obtain ⟨m, FS, hp, hok, hs⟩ := z20     (hs.perm hf.perm)
    have hroom := hok.room
    refine zm    ?_
    refine zb     hs ?_
    have hs : Sat w (dk d A :: r) := z1z      m hp hok hs
    refine za      (zkh    A.room hroom hs) fun _ _ hs => ?_
    obtain ⟨c, rfl, hs⟩ := hs
    refine zd     ?_
    refine wp_lt ?_
    refine za      (zgx     (d := d) (ByteArray.mk #[]) hs) fun _ _ hs => ?_
    obtain ⟨nx, rfl, hs⟩ := hs
    refine zd     ?_
    rw [z8l       ] at hs
    have hnl := hs.slen nx (xs := A.fs.map fun f : FileA => f.name) (enc := z22 )
    rw [List.length_map] at hnl
    have hmany := hok.many
    have hkeep : ∀ i, okA { A with fs := A.fs.take i } := fun i => zmz     hok (List.take_sublist i A.fs)
    refine zp     (fun _ w' => Sat w' (dk c (z1c    A ps) :: dk d A :: r)) ?_ ?_
    · refine z08     (fun k v w => ∃ i : Nat, v = ((i : Int), ()) ∧ i ≤ A.fs.length ∧ A.fs.length - i = k ∧ Sat w (dk c (z1c    { A with fs := A.fs.take i } ps) :: slc T.a31 1 nx ((A.fs.map (·.name)).flatMap z22 ) :: dk d A :: r)) A.fs.length ⟨0, rfl, by omega, rfl, hs.pick [2, 0, 0]⟩ ?_
      clear hs
      rintro k _ w ⟨i, rfl, hi, hk, hs⟩
      refine zk    ?_
      refine zg    (fun hc => ?_) fun hc => ?_
      · have hil : i < A.fs.length := by omega
        refine z1k    hs i (by rw [List.length_map]; exact hil) ?_
        rw [List.getElem_map]
        obtain ⟨m, FS, hp, hok', hs⟩ := z20     (hs.pick [2])
        refine wp_lt (wp_lt ?_)
        refine zm    ?_
        refine zb     hs ?_
        refine z78     hs (fun b hb => ?_) fun hb => absurd rfl (z7k    hp hb _ (List.getElem_mem hil))
        obtain ⟨t, ht, rfl, htn, hA⟩ := z7z   hp hb
        have htf : t.f = A.fs[i] := by
          have h1 := z88       (z1j         hok.sorted) hA htn
          have h2 := z88       (z1j         hok.sorted) (List.getElem_mem hil) rfl
          rw [h1] at h2; exact Option.some.inj h2
        obtain ⟨FS', hpm, hs⟩ := z63       hs ht
        have hb4 : t.f.b.length ≤ 4194304 := Nat.le_trans (z6x      hA) hok.used
        have hkt := hok.kept _ hA
        refine za      (zzs    t hb4 hs) fun _ _ hs => ?_
        obtain ⟨bc, xc, rfl, hs⟩ := hs
        refine zd     ?_
        have hcl := hs.slen xc (xs := t.f.b) (enc := zf  )
        have hcc := (hs.focS xc).slc_cap
        refine zm    ?_
        refine zb     hs ?_
        refine wp_lt ?_
        refine zp     (fun v w' => v = (((z3e   t.f (z3o   ps i) : Nat) : Int), ()) ∧ Sat w' (pt bc (.cells #[xc.v, .int .i64 t.f.kept] T.a6) :: slc T.a34 1 xc (t.f.b.flatMap zf  ) :: dk c (z1c    { A with fs := A.fs.take i } ps) :: slc T.a31 1 nx ((A.fs.map (·.name)).flatMap z22 ) :: dk d A :: r)) ?_ ?_
        · have hclose : ∀ {w'}, Sat w' (pt bc (.cells #[xc.v, .int .i64 t.f.kept] T.a6) :: slc T.a34 1 xc (t.f.b.flatMap zf  ) :: pt t.at_ (.cells #[t.x.v, .int .i64 t.f.kept] T.a6) :: slc T.a34 1 t.x (t.f.b.flatMap zf  ) :: HP.all (FS'.map z3j  ) :: pt d (.cells #[.int .i64 A.left, .bool A.gone, .int .i64 A.room, .int .i64 (used A.fs), .map (some m)] T.a5) :: z3c  ekS evF m (FS.map fun t => (t.f.name, t.at_)) :: dk c (z1c    { A with fs := A.fs.take i } ps) :: slc T.a31 1 nx ((A.fs.map (·.name)).flatMap z22 ) :: r) →
              Sat w' (pt bc (.cells #[xc.v, .int .i64 t.f.kept] T.a6) :: slc T.a34 1 xc (t.f.b.flatMap zf  ) :: dk c (z1c    { A with fs := A.fs.take i } ps) :: slc T.a31 1 nx ((A.fs.map (·.name)).flatMap z22 ) :: dk d A :: r) := fun hs => by
            have hs := (z4l        (FS := FS') t (hs.pick [2, 2, 2])).all_perm (hpm.symm.map z3j  )
            have hs := z1z      (d := d) (A := A) (l' := pt bc (.cells #[xc.v, .int .i64 t.f.kept] T.a6) :: slc T.a34 1 xc (t.f.b.flatMap zf  ) :: dk c (z1c    { A with fs := A.fs.take i } ps) :: slc T.a31 1 nx ((A.fs.map (·.name)).flatMap z22 ) :: r) m hp hok hs
            exact hs.pick [1, 1, 1, 1]
          refine zg    (fun h => ?_) fun h => ?_
          · have hpos : 0 < ps.length := by omega
            have hmod := Nat.mod_lt i hpos
            refine z07   hs fun w' hs => ?_
            refine wp_must (by omega) ?_
            refine z1k    hs (i % ps.length) hmod ?_ (by rw [hpl, z02y ])
            refine zm    ?_
            refine zb     hs ?_
            refine z1n    (y := ((z3e   t.f (z3o   ps i) : Nat) : Int)) ?_ ?_
            · refine zi        ?_
              exact zh    ⟨rfl, hclose hs⟩
            · have e1 : z3o   ps i = ps[i % ps.length] := by
                unfold z3o  
                rw [if_neg (fun e => by rw [e] at hpos; simp at hpos), List.getD_eq_getElem?_getD, List.getElem?_eq_getElem hmod]; rfl
              have e2 : IntKind.wrap .i64 (((xc.len : Nat) : Int) - ((t.f.kept : Nat) : Int)) = ((t.f.b.length - t.f.kept : Nat) : Int) := by rw [hcl, w64 (by omega) (by omega)]; omega
              rw [e2, e1]
              unfold z3e  
              rw [w64 (by split <;> split <;> omega) (by split <;> split <;> omega)]
              split <;> split <;> omega
          · have hnil : ps = [] := List.length_eq_zero_iff.1 (by omega)
            refine zh    ⟨?_, hclose hs⟩
            subst hnil
            have : z3e   t.f (z3o   [] i) = t.f.kept := by simp [z3e  , z3o  ]
            rw [this]
        clear hs
        rintro _ w ⟨rfl, hs⟩
        refine zk    ?_
        have hlast := zen      hkt (z3o   ps i)
        rw [Int.toNat_natCast]
        obtain ⟨mc, FSc, hpc, hokc, hs⟩ := z20     (hs.pick [2])
        (repeat (first | with_reducible (first | refine zk    ?_ | refine zm    ?_ | refine z0k    ?_ | refine zb     hs ?_ | refine zt     hs ?_ | refine zi        ?_ | refine z07   hs fun _ hs => ?_ | refine zy      hs fun _ _ hs => ?_ | refine z00     hs fun _ _ hs => ?_ | refine z0f    hs fun _ hs => ?_ | refine z03    hs fun _ hs => ?_) | (apply wp_must; (focus first | trivial | omega | assumption)) | refine z19    ?_ | refine wp_lt ?_))
        have hs := (hs.focS xc).slc_cut (n := z3e   t.f (z3o   ps i)) (by omega)
        rw [z87      ] at hs
        have hnew : ∀ f ∈ (z1c    { A with fs := A.fs.take i } ps).fs, f.name ≠ A.fs[i].name := fun f hf e => by
          obtain ⟨j, hj, rfl⟩ := List.mem_mapIdx.1 hf
          rw [List.length_take] at hj
          have hlt := List.pairwise_iff_getElem.1 hok.sorted j i (by omega) hil (by omega)
          have e : ((A.fs.take i)[j]'(by rw [List.length_take]; omega)).name = A.fs[i].name := e
          rw [List.getElem_take] at e
          rw [e, z7g       ] at hlt; cases hlt
        have hno : ∀ v, (A.fs[i].name, v) ∉ FSc.map fun t => (t.f.name, t.at_) := fun v hv => by
          obtain ⟨t', ht', -, hn', hA'⟩ := z7z   hpc hv
          exact hnew _ hA' hn'
        refine zgu     hs (FSc.map fun t => (t.f.name, t.at_)) (.inr ⟨hno, rfl⟩) bc fun w' hs => ?_
        have hC := zof        ps hil
        have hu1 : used (z1c    { A with fs := A.fs.take (i + 1) } ps).fs = used (z1c    { A with fs := A.fs.take i } ps).fs + z3e   t.f (z3o   ps i) := by
          show used ((A.fs.take (i + 1)).mapIdx _) = _
          rw [hC, z1o       List.perm_append_comm, List.singleton_append, z0w      , ← htf]
          show (t.f.b.take _).length + _ = _
          rw [List.length_take, Nat.min_eq_left hlast, Nat.add_comm]; rfl
        have hokc2 := z72       (hkeep (i + 1)) ps
        have hub := hokc2.used
        have ew : IntKind.wrap .i64 (((used (z1c    { A with fs := A.fs.take i } ps).fs : Nat) : Int) + ((z3e   t.f (z3o   ps i) : Nat) : Int)) = ((used (z1c    { A with fs := A.fs.take (i + 1) } ps).fs : Nat) : Int) := by rw [hu1, w64 (by omega) (by omega)]; omega
        refine zm    ?_
        refine zb     hs ?_
        rw [ew]
        (repeat (first | with_reducible (first | refine zk    ?_ | refine zm    ?_ | refine z0k    ?_ | refine zb     hs ?_ | refine zt     hs ?_ | refine zi        ?_ | refine z07   hs fun _ hs => ?_ | refine zy      hs fun _ _ hs => ?_ | refine z00     hs fun _ _ hs => ?_ | refine z0f    hs fun _ hs => ?_ | refine z03    hs fun _ hs => ?_) | (apply wp_must; (focus first | trivial | omega | assumption)) | refine z19    ?_ | refine wp_lt ?_))
        refine z4c   (us' := [.int .i64 ((i + 1 : Nat) : Int)]) (by (try simp (disch := omega) only [w64]); first | rfl | (congr; omega)) ?_
        refine z0n   (A.fs.length - (i + 1)) ?_
        refine ⟨i + 1, rfl, by omega, rfl, ?_⟩
        have hs := z4l        (FS := FSc) ⟨bc, ⟨xc.a, z3e   t.f (z3o   ps i), z3e   t.f (z3o   ps i)⟩, z41    ps t.f i⟩ hs
        have hp' : (((⟨bc, ⟨xc.a, z3e   t.f (z3o   ps i), z3e   t.f (z3o   ps i)⟩, z41    ps t.f i⟩ : FileM) :: FSc).map FileM.f).Perm (z1c    { A with fs := A.fs.take (i + 1) } ps).fs := by
          show (z41    ps t.f i :: FSc.map FileM.f).Perm ((A.fs.take (i + 1)).mapIdx _)
          rw [hC, ← htf]
          exact (List.Perm.cons _ hpc).trans (List.perm_append_comm (l₁ := [z41    ps t.f i]))
        have hkv : (A.fs[i].name, bc) :: FSc.map (fun t => (t.f.name, t.at_)) = ((⟨bc, ⟨xc.a, z3e   t.f (z3o   ps i), z3e   t.f (z3o   ps i)⟩, z41    ps t.f i⟩ : FileM) :: FSc).map fun t => (t.f.name, t.at_) := by rw [← htf]; rfl
        rw [hkv] at hs
        exact z1z      mc (A := z1c    { A with fs := A.fs.take (i + 1) } ps) hp' hokc2 hs
      · refine zn      (zh    ?_)
        rw [List.take_of_length_le (by omega)] at hs
        exact hs.sub
    · rintro _ w' hs
      refine zk    ?_
      exact ⟨rfl, c, rfl, hs⟩
end
def zu (fs:List FileA) (n:ByteArray):Option (List UInt8 × Nat):=(fs.find? λf=>decide (f.name=n)).map λf=>(f.b,f.kept)
theorem zi6 (n:ByteArray):zu [] n=none:=rfl
theorem z2c (f:FileA) (fs:List FileA) (n:ByteArray):zu (f::fs) n=if f.name=n then some (f.b,f.kept) else zu fs n:=by
 unfold zu
 rw [List.find?_cons]
 by_cases h:f.name=n
 ·simp [h]
 ·simp [h]
theorem z8o {fs:List FileA} {n:ByteArray}:zu fs n=none↔∀ f ∈ fs,f.name≠n:=by
 unfold zu
 rw [Option.map_eq_none_iff,List.find?_eq_none]
 simp
theorem z5x {fs:List FileA} {f:FileA} (hn:(fs.map (·.name)).Nodup) (h:f ∈ fs):zu fs f.name=some (f.b,f.kept):=by
 unfold zu
 rw [z88 hn h rfl]
 rfl
theorem zqw {fs:List FileA} {n:ByteArray} {p:List UInt8 × Nat} (h:zu fs n=some p):(⟨n,p.1,p.2⟩:FileA) ∈ fs:=by
 unfold zu at h
 rw [Option.map_eq_some_iff] at h
 obtain ⟨f,hf,rfl⟩:=h
 have h1:=List.mem_of_find?_eq_some hf
 have h2:=List.find?_some hf
 have h2:f.name=n:=by simpa using h2
 subst h2
 exact h1
theorem z3u {fs:List FileA} {n:ByteArray}:z2b fs n=(zu fs n).isSome:=by
 unfold z2b zu
 rw [Option.isSome_map,Bool.eq_iff_iff,List.any_eq_true,List.find?_isSome]
theorem zqg {fs:List FileA} {n:ByteArray} {p:List UInt8 × Nat} (h:zu fs n=some p):zj6 fs n=p.1.length:=by
 unfold zu at h
 unfold zj6
 cases hf:fs.find? λf=>decide (f.name=n) with
 | none=>rw [hf] at h;cases h
 | some f=>rw [hf] at h;simp only [Option.map_some,Option.some.injEq] at h;subst h;rfl
theorem zcf (n:ByteArray) (g:FileA->FileA) (hg:∀ f,(g f).name=f.name) (m:ByteArray):∀ fs:List FileA,
  zu (fs.map (z1v n g)) m=if m=n then (zu fs n).map λp=>((g ⟨n,p.1,p.2⟩).b,(g ⟨n,p.1,p.2⟩).kept) else zu fs m
 | []=>by simp [zi6]
 | f::fs=>by
  rw [List.map_cons,z2c,zcf n g hg m fs,z2c,z2c,z60 hg]
  by_cases h1:m=n
  ·subst h1
   rw [if_pos rfl,if_pos rfl]
   by_cases h2:f.name=m
   ·rw [if_pos h2,if_pos h2]
    subst h2
    unfold z1v
    rw [if_pos rfl]
    rfl
   ·rw [if_neg h2,if_neg h2]
  ·rw [if_neg h1,if_neg h1]
   by_cases h2:f.name=m
   ·rw [if_pos h2,if_pos h2]
    unfold z1v
    rw [if_neg (by rw [h2];exact h1)]
   ·rw [if_neg h2,if_neg h2]
theorem zbq (x:FileA) (m:ByteArray):∀ {fs:List FileA},(∀ f ∈ fs,f.name≠x.name)->zu (z2v x fs) m=if m=x.name then some (x.b,x.kept) else zu fs m
 | [],_=>by
  show zu [x] m=_
  rw [z2c]
  by_cases h:m=x.name
  ·rw [if_pos h.symm,if_pos h]
  ·rw [if_neg h,if_neg λe=>h e.symm]
 | f::fs,h=>by
  have hf:=h f (List.mem_cons_self ..)
  have ih:=zbq x m (fs:=fs) λg hg=>h g (List.mem_cons_of_mem _ hg)
  unfold z2v
  split
  ·rw [z2c]
   by_cases h:m=x.name
   ·rw [if_pos h.symm,if_pos h]
   ·rw [if_neg h,if_neg λe=>h e.symm]
  ·rw [z2c,ih,z2c]
   by_cases h:m=x.name
   ·subst h;simp [hf]
   ·rw [if_neg h,if_neg h]
theorem z8p (n m:ByteArray):∀ fs:List FileA,zu (z14 n fs) m=if m=n then none else zu fs m
 | []=>by simp [z14,zi6]
 | f::fs=>by
  have ih:=z8p n m fs
  unfold z14 at ih ⊢
  rw [List.filter_cons]
  by_cases h:f.name=n
  ·rw [if_neg (by simp [h]),ih,z2c]
   by_cases h2:m=n
   ·rw [if_pos h2,if_pos h2]
   ·rw [if_neg h2,if_neg h2,if_neg (by rw [h];exact λe=>h2 e.symm)]
  ·rw [if_pos (by simp [h]),z2c,ih,z2c]
   by_cases h2:m=n
   ·subst h2;simp [h]
   ·rw [if_neg h2,if_neg h2]
theorem zfi (ns:List ByteArray) (m:ByteArray):∀ fs:List FileA,zu (fs.map (z4a ns)) m=(zu fs m).map λp=>if zb4 ns m then (p.1,p.1.length) else p
 | []=>rfl
 | f::fs=>by
  have hn:(z4a ns f).name=f.name:=by unfold z4a;split <;> rfl
  rw [List.map_cons,z2c,zfi ns m fs,z2c,hn]
  by_cases h:f.name=m
  ·subst h
   rw [if_pos rfl,if_pos rfl]
   unfold z4a
   split
   ·rename_i h;simp [h]
   ·rename_i h;simp [h]
  ·rw [if_neg h,if_neg h]
theorem z6l {A:DiskA} (hok:okA A) (ps:List Int) (m:ByteArray):(zu A.fs m=none->zu (z1c A ps).fs m=none) /\
  ∀ p,zu A.fs m=some p->∃ k,p.2<=k/\k<=p.1.length/\zu (z1c A ps).fs m=some (p.1.take k,k):=by
 show (_->zu (A.fs.mapIdx λi f=>z41 ps f i) m=none)/\∀ p,_->∃ k,_/\_/\zu (A.fs.mapIdx λi f=>z41 ps f i) m=_
 have key:∀ (fs:List FileA) (g:Nat->Nat),(∀ f ∈ fs,f.kept<=f.b.length)->(zu fs m=none->zu (fs.mapIdx λi f=>z41 ps f (g i)) m=none) /\
   ∀ p,zu fs m=some p->∃ k,p.2<=k/\k<=p.1.length/\zu (fs.mapIdx λi f=>z41 ps f (g i)) m=some (p.1.take k,k):=by
  intro fs
  induction fs with
  | nil=>exact λg _=>⟨λ_=>rfl,λp h=>by cases h⟩
  | cons f fs ih =>
   intro g hk
   obtain ⟨i1,i2⟩:=ih (λi=>g (i+1)) λx hx=>hk x (List.mem_cons_of_mem _ hx)
   rw [List.mapIdx_cons,z2c,z2c]
   show (_->(if f.name=m then _ else _)=none)/\∀ p,_->∃ k,_/\_/\(if f.name=m then _ else _)=_
   by_cases h:f.name=m
   ·rw [if_pos h,if_pos h]
    refine ⟨(λh=>by cases h),λp hp=>?_⟩
    simp only [Option.some.injEq] at hp
    subst hp
    have:=hk f (List.mem_cons_self ..)
    exact ⟨z3e f (z3o ps (g 0)),by unfold z3e;simp only;omega,zen this _,rfl⟩
   ·rw [if_neg h,if_neg h]
    exact ⟨i1,i2⟩
 exact key A.fs (λi=>i) hok.kept
theorem z6g {A:DiskA} {n:ByteArray} {bs:List UInt8} (h:(zw A n bs).1≠0):(zw A n bs).2=A:=by
 unfold zw at h ⊢
 split
 ·rfl
 ·split
  ·rfl
  ·split
   ·rfl
   ·rename_i h1 h2 h3
    rw [if_neg h1,if_neg h2,if_neg h3] at h
    exact absurd rfl h
theorem z76 {A:DiskA} {n:ByteArray} {bs:List UInt8} (hok:okA A) (h:(zw A n bs).1=0):A.gone=false/\z2t n=true/\bs.length<=A.free/\okA (zw A n bs).2 /\
  (zw A n bs).2.room=A.room/\used (zw A n bs).2.fs=used A.fs+bs.length /\
  ∀ m,zu (zw A n bs).2.fs m=if m=n then some (((zu A.fs n).map Prod.fst).getD []++bs,((zu A.fs n).map Prod.snd).getD 0) else zu A.fs m:=by
 unfold zw at h ⊢
 split at h
 ·cases h
 rename_i h1
 split at h
 ·cases h
 rename_i h2
 split at h
 ·cases h
 rename_i h3
 rw [if_neg h1,if_neg h2,if_neg h3]
 have hn:z2t n=true:=by simpa using h2
 have h4:=zfd hok hn (bs:=bs) (by omega) (λhh=>h3 (.inr hh))
 refine ⟨by simpa using h1,hn,by omega,z7t h4,by rw [z7e],?_,λm=>?_⟩
 ·rw [z2u]
  show used (if z2b A.fs n=true then _ else _)=_
  have hnd:=z1j hok.sorted
  split
  ·rename_i hh
   obtain ⟨f,hf,rfl⟩:=z66.1 hh
   obtain ⟨s,u,hsu⟩:=List.append_of_mem hf
   have hp:A.fs.Perm (f::(s++u)):=by rw [hsu];exact List.perm_middle
   have hne:∀ g ∈ s++u,g.name≠f.name:=λg hg e=>by
    have h5:=(hp.map (·.name)).nodup_iff.1 hnd
    rw [List.map_cons,List.nodup_cons] at h5
    exact h5.1 (List.mem_map.2 ⟨g,hg,e⟩)
   rw [zbc hp hne,z1o hp,z0w,List.length_append]
   omega
  ·rw [z1o (z37 _ _),z0w]
   show bs.length+_=_
   omega
 ·rw [z2u]
  show zu (if z2b A.fs n=true then _ else _) m=_
  split
  ·rename_i hh
   rw [zcf n (λf=>{ f with b:=f.b++bs }) (λf=>rfl)]
   by_cases hm:m=n
   ·rw [if_pos hm,if_pos hm]
    rw [z3u] at hh
    obtain ⟨p,hp⟩:=Option.isSome_iff_exists.1 hh
    rw [hp]
    rfl
   ·rw [if_neg hm,if_neg hm]
  ·rename_i hh
   have hh:z2b A.fs n=false:=by simpa using hh
   rw [zbq _ _ (z5v.1 hh)]
   by_cases hm:m=n
   ·rw [if_pos hm,if_pos hm,z8o.2 (z5v.1 hh)]
    rfl
   ·rw [if_neg hm,if_neg hm]
theorem z6q {A:DiskA} {n:ByteArray} {bs:List UInt8} (hg:A.gone=false) (hn:z2t n=true) (hb:bs.length<=A.free) (hf:zu A.fs n≠none\/A.fs.length<128):(zw A n bs).1=0:=by
 unfold zw
 rw [if_neg (by rw [hg];simp),if_neg (by rw [hn];simp),if_neg]
 rintro (h|⟨h1,h2⟩)
 ·omega
 ·rcases hf with hf|hf
  ·rw [z3u] at h1
   cases hq:zu A.fs n with
   | none=>exact hf hq
   | some q=>rw [hq] at h1;cases h1
  ·omega
theorem zlw {A:DiskA} {n:ByteArray} {bs:List UInt8} (hg:A.gone=true):zw A n bs=(9,A):=by
 unfold zw
 rw [if_pos hg]
theorem z7x {A:DiskA} {n:ByteArray} {bs:List UInt8} (hn:z2t n=true):(zw A n bs).1=0\/((zw A n bs).1=9/\A.gone=true)\/((zw A n bs).1=5/\A.gone=false):=by
 unfold zw
 split
 ·exact .inr (.inl ⟨rfl,by assumption⟩)
 ·rename_i h
  rw [if_neg (by rw [hn];simp)]
  split
  ·exact .inr (.inr ⟨rfl,by simpa using h⟩)
  ·exact .inl rfl
theorem z9f {A:DiskA} {n:ByteArray}:((z0x A [n]).1=0/\A.gone=false/\(zu A.fs n).isSome=true/\(z0x A [n]).2=z2o { A with fs:=A.fs.map (z4a [n]) })\/((z0x A [n]).1=9/\A.gone=true/\(z0x A [n]).2=A)\/((z0x A [n]).1=3/\A.gone=false/\zu A.fs n=none/\(z0x A [n]).2=A):=by
 unfold z0x
 split
 ·exact .inr (.inl ⟨rfl,by assumption,rfl⟩)
 ·rename_i h
  have hg:A.gone=false:=by simpa using h
  split
  ·rename_i h2
   refine .inr (.inr ⟨rfl,hg,?_,rfl⟩)
   simp only [List.all_cons,List.all_nil,Bool.and_true] at h2
   rw [z3u] at h2
   cases hq:zu A.fs n with
   | none=>rfl
   | some q=>rw [hq] at h2;cases h2
  ·rename_i h2
   refine .inl ⟨rfl,hg,?_,rfl⟩
   simp only [List.all_cons,List.all_nil,Bool.and_true] at h2
   rw [z3u] at h2
   cases hq:zu A.fs n with
   | none=>rw [hq] at h2;exact absurd rfl h2
   | some q=>rfl
theorem zuj {A:DiskA} (hok:okA A) (ns:List ByteArray):okA { A with fs:=A.fs.map (z4a ns) } :=
 zn9 hok (λf=>by unfold z4a;split <;> rfl) (λf=>by unfold z4a;split <;> rfl) (λf h=>by unfold z4a;split;exact Nat.le_refl _;exact h)
theorem zt8 (n m:ByteArray):zb4 [n] m=decide (n=m):=by
 unfold zb4
 simp
theorem zcx {A:DiskA} {n:ByteArray} (hok:okA A) (h:(z0x A [n]).1=0):A.gone=false/\okA (z0x A [n]).2/\(z0x A [n]).2.room=A.room/\used (z0x A [n]).2.fs=used A.fs/\(z0x A [n]).2.fs.length=A.fs.length /\
  ∀ m,zu (z0x A [n]).2.fs m=(zu A.fs m).map λp=>if n=m then (p.1,p.1.length) else p:=by
 rcases z9f (A:=A) (n:=n) with ⟨h1,h2,h3,h4⟩|⟨h1,-,-⟩|⟨h1,-,-,-⟩
 ·rw [h4]
  refine ⟨h2,z7t (zuj hok _),by rw [z7e],?_,?_,λm=>?_⟩
  ·rw [z2u]
   exact zb2 λf=>by unfold z4a;split <;> rfl
  ·rw [z2u]
   exact List.length_map ..
  ·rw [z2u]
   show zu (A.fs.map (z4a [n])) m=_
   rw [zfi]
   congr 1
   funext p
   rw [zt8]
   by_cases hm:n=m <;> simp [hm]
 ·rw [h1] at h;cases h
 ·rw [h1] at h;cases h
theorem zfg {A:DiskA} {n:ByteArray} (hok:okA A) (h:(z0t A n).1=0):A.gone=false/\okA (z0t A n).2/\(z0t A n).2.room=A.room/\used (z0t A n).2.fs<=used A.fs/\(z0t A n).2.fs.length<=A.fs.length/\(zu A.fs n).isSome=true /\
  ∀ m,zu (z0t A n).2.fs m=if m=n then none else zu A.fs m:=by
 unfold z0t at h ⊢
 split at h
 ·cases h
 rename_i h1
 split at h
 ·cases h
 rename_i h2
 rw [if_neg h1,if_neg h2]
 refine ⟨by simpa using h1,z7t (zmz hok (List.filter_sublist ..)),by rw [z7e],?_,?_,?_,λm=>?_⟩
 ·rw [z2u];exact zaq (List.filter_sublist ..)
 ·rw [z2u];exact zie _ _
 ·rw [<- z3u];simpa using h2
 ·rw [z2u];exact z8p n m A.fs
theorem z89 {A:DiskA} {n:ByteArray} (hf:(zu A.fs n).isSome=true):((z0t A n).1=0/\A.gone=false)\/((z0t A n).1=9/\A.gone=true/\(z0t A n).2=A):=by
 unfold z0t
 split
 ·exact .inr ⟨rfl,by assumption,rfl⟩
 ·rename_i h
  rw [if_neg (by rw [z3u,hf];simp)]
  exact .inl ⟨rfl,by simpa using h⟩
theorem z02g {A:DiskA} {n:ByteArray} {k:Int} (hok:okA A) (h:(cutA' A n k).1=0):A.gone=false/\okA (cutA' A n k).2/\(cutA' A n k).2.room=A.room/\(cutA' A n k).2.fs.length=A.fs.length /\
  ∀ m,zu (cutA' A n k).2.fs m=if m=n then (zu A.fs n).map (λp=>(p.1.take k.toNat,min p.2 k.toNat)) else zu A.fs m:=by
 unfold cutA' at h ⊢
 split at h
 ·cases h
 rename_i h1
 split at h
 ·cases h
 rename_i h2
 split at h
 ·cases h
 rename_i h3
 rw [if_neg h1,if_neg h2,if_neg h3]
 have hnd:=z1j hok.sorted
 have hup:okA { A with fs:=A.fs.map (z1v n λf=>{ f with b:=f.b.take k.toNat,kept:=min f.kept k.toNat }) }:=by
  refine ⟨hok.room,?_,?_,hok.left,z8h (λf=>z60 (g:=λf=>{ f with b:=f.b.take k.toNat,kept:=min f.kept k.toNat }) (λ_=>rfl) f) hok.sorted,λf hf=>?_,λf hf=>?_⟩
  ·refine Nat.le_trans ?_ hok.used
   show used (A.fs.map _)<=used A.fs
   generalize A.fs=fs
   induction fs with
   | nil=>exact Nat.le_refl _
   | cons f fs ih =>
    rw [List.map_cons,z0w,z0w]
    have:(z1v n (λf=>{ f with b:=f.b.take k.toNat,kept:=min f.kept k.toNat }) f).b.length<=f.b.length:=by
     unfold z1v
     split
     ·show (f.b.take _).length<=_;rw [List.length_take];omega
     ·exact Nat.le_refl _
    omega
  ·show (A.fs.map _).length<=_;rw [List.length_map];exact hok.many
  ·obtain ⟨g,hg,rfl⟩:=List.mem_map.1 hf
   have:=hok.kept g hg
   unfold z1v
   split
   ·show min g.kept _<=(g.b.take _).length;rw [List.length_take];omega
   ·exact this
  ·obtain ⟨g,hg,rfl⟩:=List.mem_map.1 hf
   rw [z60 (g:=λf=>{ f with b:=f.b.take k.toNat,kept:=min f.kept k.toNat }) (λ_=>rfl)]
   exact hok.names g hg
 refine ⟨by simpa using h1,z7t hup,by rw [z7e],by rw [z2u];exact List.length_map ..,λm=>?_⟩
 rw [z2u]
 show zu (A.fs.map _) m=_
 rw [zcf n (λf=>{ f with b:=f.b.take k.toNat,kept:=min f.kept k.toNat }) (λf=>rfl)]
theorem zs5 {A:DiskA} {n:ByteArray} {k:Int} {p:List UInt8 × Nat} (hf:zu A.fs n=some p) (hk:0<=k/\k<=p.1.length):((cutA' A n k).1=0/\A.gone=false)\/((cutA' A n k).1=9/\A.gone=true/\(cutA' A n k).2=A):=by
 unfold cutA'
 split
 ·exact .inr ⟨rfl,by assumption,rfl⟩
 ·rename_i h
  rw [if_neg (by rw [z3u,hf];simp),if_neg (by rw [zqg hf];omega)]
  exact .inl ⟨rfl,by simpa using h⟩
theorem z01m {A:DiskA} {a b:ByteArray} (hok:okA A) (hab:a≠b) (h:(z32 A a b).1=0):A.gone=false/\okA (z32 A a b).2/\(z32 A a b).2.room=A.room/\used (z32 A a b).2.fs<=used A.fs/\(z32 A a b).2.fs.length<=A.fs.length/\(zu A.fs a).isSome=true /\
  ∀ m,zu (z32 A a b).2.fs m=if m=b then zu A.fs a else if m=a then none else zu A.fs m:=by
 unfold z32 at h ⊢
 split at h
 ·cases h
 rename_i h1
 rw [if_neg h1]
 cases hf:A.fs.find? λf=>decide (f.name=a) with
 | none=>rw [hf] at h;cases h
 | some f =>
  rw [hf] at h
  simp only at h ⊢
  split at h
  ·cases h
  rename_i h2
  have h2:z2t b=true:=by simpa using h2
  rw [if_neg (by rw [h2];simp),if_neg hab]
  have hm:=List.mem_of_find?_eq_some hf
  have hn:f.name=a:=by simpa using List.find?_some hf
  subst hn
  have hfd:zu A.fs f.name=some (f.b,f.kept):=z5x (z1j hok.sorted) hm
  obtain ⟨s,u,hsu⟩:=List.append_of_mem hm
  have hp:A.fs.Perm (f::(s++u)):=by rw [hsu];exact List.perm_middle
  have hne:∀ g ∈ s++u,g.name≠f.name:=λg hg e=>by
   have h5:=(hp.map (·.name)).nodup_iff.1 (z1j hok.sorted)
   rw [List.map_cons,List.nodup_cons] at h5
   exact h5.1 (List.mem_map.2 ⟨g,hg,e⟩)
  have hd:=z8g hp hne
  have hsub:(z14 b (z14 f.name A.fs)).Sublist (z14 f.name A.fs):=List.filter_sublist ..
  refine ⟨by simpa using h1,z7t (zmv hok hm b hab (zb5 h2)),by rw [z7e],?_,?_,by rw [hfd];rfl,λm=>?_⟩
  ·rw [z2u]
   show used (z2v _ _)<=_
   rw [z1o (z37 _ _),z0w,z1o hp,z0w,<- z1o hd]
   have:=zaq hsub
   show f.b.length+_<=_
   omega
  ·rw [z2u]
   show (z2v _ _).length<=_
   rw [(z37 _ _).length_eq,List.length_cons,hp.length_eq,List.length_cons,<- hd.length_eq]
   have:=hsub.length_le
   omega
  ·rw [z2u]
   show zu (z2v _ _) m=_
   rw [zbq _ _ (λg hg=>(z9l.1 hg).2),hfd,z8p,z8p]
   by_cases h3:m=b
   ·subst h3;rw [if_pos rfl,if_pos rfl]
   ·rw [if_neg (show ¬ m=({ f with name:=b }:FileA).name from h3),if_neg h3,if_neg h3]
def z4f (e:EntA):List Value:=[.int .i64 e.offset,.int .i64 e.place,.int .i64 e.before]
instance:EncA z4f [.int .i64,.int .i64,.int .i64] (λe=>(e.offset,e.place,e.before,())):=⟨λ_=>rfl⟩
instance:EncN z4f 3:=⟨λ_=>rfl,by decide,by simp [z4f,Value.oneCell']⟩
instance:EncF z4f 0 (.int .i64) (λe=>e.offset):=⟨λ_=>rfl⟩
instance:EncF z4f 1 (.int .i64) (λe=>e.place):=⟨λ_=>rfl⟩
instance:EncF z4f 2 (.int .i64) (λe=>e.before):=⟨λ_=>rfl⟩
structure okX (X:IdxA):Prop where
 gap:1<=X.gap/\X.gap<=4194304
 place : -1<=X.place/\X.place<=4194304
 ent:∀ e ∈ X.l,0<=e.place/\e.place<=X.place
 len:(X.l.length:Int)<=X.place+1
def z2k (b:Nat) (X:IdxA):HP:=HP.ex λz:Sl=>HP.and (okX X) (HP.star (pt b (.cells #[.int .i64 X.offset,.int .i64 X.place,.int .i64 X.late,.int .i64 X.gap,.slice z.a z.len z.cap] T.a8)) (slc T.a7 3 z (X.l.flatMap z4f)))
section
variable {w:World} {l r:List HP} {b:Nat} {X:IdxA}
theorem zey (hs:Sat w (z2k b X::l)):∃ z:Sl,okX X/\Sat w (pt b (.cells #[.int .i64 X.offset,.int .i64 X.place,.int .i64 X.late,.int .i64 X.gap,.slice z.a z.len z.cap] T.a8)::slc T.a7 3 z (X.l.flatMap z4f)::l):=by
 obtain ⟨z,hs⟩:=hs.ex
 obtain ⟨h,hs⟩:=hs.and
 exact ⟨z,h,hs.star⟩
theorem z8b (X:IdxA) {z:Sl} (h:okX X) (hs:Sat w (pt b (.cells #[.int .i64 X.offset,.int .i64 X.place,.int .i64 X.late,.int .i64 X.gap,.slice z.a z.len z.cap] T.a8)::slc T.a7 3 z (X.l.flatMap z4f)::l)):Sat w (z2k b X::l) :=
 .ex_mk z (.and_mk h (.star_mk hs))
theorem z03g {gap:Int} (h:1<=gap/\gap<=4194304):okX (zcs gap):=⟨h,by show -1<=(-1:Int)/\(-1:Int)<=4194304;omega,(λ_ h=>by cases h),by show (0:Int) <= -1+1;omega⟩
theorem z020 (gap:Int) (h:1<=gap/\gap<=4194304) (hs:Sat w l):Ret P F.a30 #[.int .i64 gap] w λvs w'=>∃ b,vs=[.pointer (some ⟨b,0,none⟩),.int .i64 0]/\Sat w' (z2k b (zcs gap)::l) :=
 zq1 gap <| by
  unfold z01u
  refine z0g ?_
  refine z00 hs λa w' hs=>?_
  refine ⟨rfl,a,rfl,?_⟩
  have h0:Sat w' (slc T.a7 3 ⟨none,0,0⟩ ((zcs gap).l.flatMap z4f)::_):=hs.slc_nil
  exact z8b (zcs gap) (z:=⟨none,0,0⟩) (z03g h) (h0.pick [1])
theorem z00f (o p t:Int) (hs:Sat w l):Ret P F.a31 #[.int .i64 o,.int .i64 p,.int .i64 t] w λvs w'=>vs=[.bool (decide (zay o p t))]/\Sat w' l :=
 zrf o p t <| by
  unfold z002
  refine wp_lt ?_
  refine ⟨rfl,?_,hs⟩
  congr 2
  rw [Bool.eq_iff_iff,decide_eq_true_iff (p:=zay o p t)]
  unfold zay
  simp only [Bool.and_eq_true,decide_eq_true_eq]
  constructor
  ·rintro ⟨⟨⟨⟨⟨h1,h2⟩,h3⟩,h4⟩,h5⟩,h6⟩
   exact ⟨⟨h1,h2⟩,⟨h3,h4⟩,h5,h6⟩
  ·rintro ⟨⟨h1,h2⟩,⟨h3,h4⟩,h5,h6⟩
   exact ⟨⟨⟨⟨⟨h1,h2⟩,h3⟩,h4⟩,h5⟩,h6⟩
theorem zuz {X:IdxA} (h:okX X) {o p t:Int} (hm:zay o p t) (h2:¬ (o<=X.offset\/p<=X.place)):okX ⟨o,p,max X.late t,X.gap,z4s X o p⟩:=by
 obtain ⟨h3,h4,h5,h6⟩:=h
 obtain ⟨-,hp,-⟩:=hm
 refine ⟨h3,by show -1<=p/\p<=4194304;omega,λe he=>?_,?_⟩
 ·show 0<=e.place/\e.place<=p
  have he:e ∈ z4s X o p:=he
  unfold z4s at he
  split at he
  ·rcases List.mem_append.1 he with he|he
   ·have:=h5 e he;omega
   ·simp at he;subst he;simp only;omega
  ·have:=h5 e he;omega
 ·show ((z4s X o p).length:Int)<=p+1
  unfold z4s
  split
  ·rw [List.length_append];simp only [List.length_cons,List.length_nil];omega
  ·omega
theorem z009 (o p t:Int) (ho : -9223372036854775808<=o/\o<9223372036854775808) (hp : -9223372036854775808<=p/\p<9223372036854775808) [hf:Fo l z2k b X r] (hs:Sat w l) :
  Ret P F.a28 #[.pointer (some ⟨b,0,none⟩),.int .i64 o,.int .i64 p,.int .i64 t] w λvs w'=>vs=[.int .i64 (z9u X o p t).1]/\Sat w' (z2k b (z9u X o p t).2::r) :=
 zps _ o p t <| by
  unfold z01r
  have hs:=hs.perm hf.perm
  refine wp_lt ?_
  refine z0g ?_ (by simp)
  refine za (z00f o p t hs) λ_ w' hs=>?_
  obtain ⟨rfl,hs⟩:=hs
  refine zd ?_
  refine wp_lt ?_
  unfold z9u
  refine zg (λh=>?_) λh=>?_
  ·have h:¬ zay o p t:=by simpa using h
   rw [if_pos h]
   exact ⟨rfl,rfl,hs⟩
  have h:zay o p t:=by simpa using h
  rw [if_neg (λhh=>hh h)]
  obtain ⟨z,hok,hs⟩:=zey hs
  have hl:=hs.slen z (xs:=X.l) (enc:=z4f)
  refine zm ?_
  refine zb hs ?_
  refine z0k ?_
  refine zb hs ?_
  refine wp_lt ?_
  refine zg (λh2=>?_) λh2=>?_
  ·rw [if_pos h2]
   exact ⟨rfl,rfl,z8b X hok hs⟩
  rw [if_neg h2]
  have hok2:=zuz hok h h2
  have hlen:=hok.len
  have hpl:=hok.place
  refine zm ?_
  refine zb hs ?_
  refine wp_lt ?_
  refine z07 hs λw' hs=>?_
  refine z0k ?_
  refine zb hs ?_
  have hgl:∀ (h0:X.l≠[]),X.l.getLast? = some (X.l[X.l.length-1]'(by have:=List.length_pos_iff.2 h0;omega)):=λh0=>by
   have:=List.length_pos_iff.2 h0
   rw [List.getLast?_eq_getElem?,List.getElem?_eq_getElem (by omega)]
  refine zez (xs:=X.l) (enc:=z4f) hs (match X.l.getLast? with|none=>0|some e=>e.place) (λhg=>?_) ?_
  ·have h0:X.l≠[]:=by
    rintro h0
    rw [h0] at hl
    rw [hl] at hg
    cases hg
   have:=List.length_pos_iff.2 h0
   refine ⟨X.l.length-1,by omega,?_,?_⟩
   ·rw [w64 (by omega) (by omega)];omega
   ·rw [hgl h0]
  refine z0k ?_
  refine zb hs ?_
  refine zi ?_
  refine zp (λ_ w'=>∃ z':Sl,Sat w' (pt b (.cells #[.int .i64 X.offset,.int .i64 X.place,.int .i64 X.late,.int .i64 X.gap,.slice z'.a z'.len z'.cap] T.a8)::slc T.a7 3 z' ((z4s X o p).flatMap z4f)::r)) ?_ ?_
  ·have hnew:zve X p=true↔(((z.len:Nat):Int)=0\/IntKind.wrap .i64 (p-match X.l.getLast? with|none=>0|some e=>e.place)>=X.gap):=by
    unfold zve
    by_cases h0:X.l=[]
    ·rw [h0]
     simp only [List.getLast?_nil,true_iff]
     left
     rw [hl,h0];rfl
    ·rw [hgl h0]
     have hlp:=List.length_pos_iff.2 h0
     have hb:=hok.ent _ (List.getElem_mem (show X.l.length-1<X.l.length by omega))
     simp only [decide_eq_true_eq]
     rw [w64 (by omega) (by omega)]
     omega
   unfold z4s
   refine zg (λh3=>?_) λh3=>?_
   ·rw [if_pos (hnew.2 h3)]
    refine zp (λq w'=>∃ z':Sl,q=(z',())/\Sat w' (slc T.a7 3 z' ((X.l++[(⟨o,p,X.late⟩:EntA)]).flatMap z4f)::pt b (.cells #[.int .i64 X.offset,.int .i64 X.place,.int .i64 X.late,.int .i64 X.gap,.slice z.a z.len z.cap] T.a8)::r)) ?_ ?_
    ·refine z07 hs λw' hs=>?_
     refine zm ?_
     refine z1m hs ?_
     refine zm ?_
     refine zb hs ?_
     refine z6e hs (enc:=z4f) [(⟨o,p,X.late⟩:EntA)] λy w' hs=>⟨(by first|trivial|(repeat (first|exact trivial|exact λ_=>z0i hs|exact λ_=>z0o hs|refine And.intro ?_ ?_))),?_⟩
     refine zi ?_
     refine wp_app' (xs:=X.l) (ys:=[(⟨o,p,X.late⟩:EntA)]) (enc:=z4f) hs (λz' w' hs=>?_) (by simp only [List.length_cons,List.length_nil];omega)
     refine zi ?_
     exact zh ⟨z',rfl,hs.sub⟩
    ·rintro _ w2 ⟨z',rfl,hs⟩
     refine zm ?_
     refine z0f hs λw' hs=>?_
     exact zh ⟨z',hs.sub⟩
   ·rw [if_neg λhh=>h3 (hnew.1 hh)]
    exact zh ⟨z,hs⟩
  rintro _ w2 ⟨z',hs⟩
  refine zm ?_
  refine zb hs ?_
  refine zm ?_
  have e:(if t>X.late then t else X.late)=max X.late t:=by split <;> omega
  rw [e]
  have hA:(Addr.add ⟨b,0,none⟩ 0)=⟨b,0,none⟩:=rfl
  rw [hA]
  refine z024 hs (by rfl) (by rfl) (by simp [Value.oneCell']) λw' hs=>⟨trivial,?_⟩
  refine ⟨rfl,rfl,?_⟩
  exact z8b ⟨o,p,max X.late t,X.gap,z4s X o p⟩ (z:=z') hok2 hs
theorem zzb (i:Int) (hi:i<X.l.length) [hf:Fo l z2k b X r] (hs:Sat w l) :
  Ret P F.a29 #[.pointer (some ⟨b,0,none⟩),.int .i64 i] w λvs w'=>vs=[.agg (z4f (if i<0 then ⟨0,0,0⟩ else X.l.getD i.toNat ⟨0,0,0⟩)).toArray,.bool (decide (0<=i))]/\Sat w' (z2k b X::r) :=
 zoe _ i <| by
  unfold z02n
  have hs:=hs.perm hf.perm
  refine zy hs λa w' hs=>?_
  refine zg (λh=>?_) λh=>?_
  ·refine z03 hs λw' hs=>?_
   refine zt hs ?_
   rw [if_pos h]
   refine ⟨rfl,?_,hs.tail⟩
   rw [decide_eq_false (by omega)]
   rfl
  ·refine zm ?_
   obtain ⟨z,hok,hs⟩:=zey (hs.pick [1])
   refine zb hs ?_
   refine z1p hs (xs:=X.l) (enc:=z4f) i.toNat (by omega) ?_
   refine z03 hs λw' hs=>?_
   refine zt hs ?_
   rw [if_neg h]
   refine ⟨rfl,?_,z8b X (z:=z) hok hs.sub⟩
   rw [decide_eq_true (by omega),List.getD_eq_getElem?_getD,List.getElem?_eq_getElem (by omega)]
   rfl
theorem ziy (n : Nat) (hn : n < 4611686018427387904) (f : FuncId) (cap : Array Value) (p : Nat → Bool) (hok : (P.funcs[f]?).any (fun fn => fn.body.isSome && fn.name != "runtime.NumGoroutine") = true)
  (hp:∀ (i:Nat) (w:World),i<n->Sat w l->Ret P f (#[.int .i64 (i:Int)]++cap) w λvs w'=>vs=[.bool (p i)]/\Sat w' l) (hs:Sat w l) :
  Ret P F.a99 #[.int .i64 (n:Int),.func (.func f) #[] cap] w λvs w'=>∃ i:Nat,i<=n/\(0<i->p (i-1)=false)/\(i<n->p i=true)/\vs=[.int .i64 (i:Int)]/\Sat w' l :=
 zlx _ _ <| by
  unfold zw8
  refine wp_lt ?_
  refine zp (λq w'=>∃ i:Nat,i<=n/\(0<i->p (i-1)=false)/\(i<n->p i=true)/\q=((i:Int),())/\Sat w' l) ?_ ?_
  rotate_left
  ·rintro _ w' ⟨i,h1,h2,h3,rfl,hs⟩
   refine wp_lt ?_
   exact ⟨rfl,i,h1,h2,h3,rfl,hs⟩
  refine z08 (λm v w=>∃ i j:Nat,v=((i:Int),((j:Int),()))/\i<=j/\j<=n/\j-i=m/\(0<i->p (i-1)=false)/\(j<n->p j=true)/\Sat w l) n ⟨0,n,rfl,by omega,by omega,rfl,(λh=>by omega),(λh=>by omega),hs⟩ ?_
  clear hs
  rintro m _ w ⟨i,j,rfl,hij,hjn,hm,h1,h2,hs⟩
  refine zk ?_
  refine zg (λhc=>?_) λhc=>?_
  rotate_left
  ·have:i=j:=by omega
   subst this
   exact zn (zh ⟨i,hjn,h1,h2,rfl,hs⟩)
  have hc:i<j:=by omega
  have e:IntKind.wrap .i64 (Int.fdiv (IntKind.wrap .u64 (IntKind.wrap .i64 ((i:Int)+j))) 2)=(((i+j) / 2:Nat):Int):=by
   rw [w64 (x:=(i:Int)+j) (by omega) (by omega),zjn (by omega) (by omega)]
   have:Int.fdiv ((i:Int)+j) 2=(((i+j) / 2:Nat):Int):=by
    rw [Int.fdiv_eq_ediv_of_nonneg _ (by omega)]
    omega
   rw [this,w64 (by omega) (by omega)]
  refine z1n (y:=(((i+j) / 2:Nat):Int)) ?_ e
  refine zte hok (p ((i+j) / 2),()) (hp ((i+j) / 2) w (by omega) hs) rfl λw' hs=>⟨trivial,?_⟩
  refine zk ?_
  refine z3z ?_
  refine zg (λh3=>?_) λh3=>?_
  ·have h3:p ((i+j) / 2)=false:=by simpa using h3
   refine z1n (y:=(((i+j) / 2+1:Nat):Int)) ?_ (by rw [w64 (by omega) (by omega)];omega)
   refine z3f ?_
   refine z0n (j-((i+j) / 2+1)) ⟨(i+j) / 2+1,j,rfl,by omega,hjn,rfl,λ_=>by rw [Nat.add_sub_cancel];exact h3,h2,hs⟩
  ·have h3:p ((i+j) / 2)=true:=by simpa using h3
   refine wp_lt ?_
   refine z3f ?_
   refine z0n ((i+j) / 2-i) ⟨i,(i+j) / 2,rfl,by omega,by omega,rfl,h1,λ_=>h3,hs⟩
theorem zyb (i:Nat) (a0 a1:Nat) (o:Int) {r1 r2:List HP} {z:Sl} (hi:i<X.l.length) [h0:FocB l a0 (.cells [.pointer (some ⟨b,0,none⟩)].toArray T.a15) r1] [h1:FocB l a1 (.cells [.int .i64 o].toArray T.a11) r2]
  [h2:FocB l b (.cells [.int .i64 X.offset,.int .i64 X.place,.int .i64 X.late,.int .i64 X.gap,.slice z.a z.len z.cap].toArray T.a8) r] [h3:FocR l z 3 (X.l.flatMap z4f)] (hs:Sat w l) :
  Ret P F.a27 #[.int .i64 (i:Int),.pointer (some ⟨a0,0,none⟩),.pointer (some ⟨a1,0,none⟩)] w λvs w'=>vs=[.bool (decide (X.l[i].offset>o))]/\Sat w' l :=
 zrr _ _ _ <| by
  unfold z01h
  refine z07 hs λw' hs=>?_
  refine zb hs ?_
  refine zm ?_
  refine zb hs ?_
  refine zal hs (xs:=X.l) (enc:=z4f) i hi ?_
  refine zb hs ?_
  refine wp_lt ?_
  refine zi ?_
  exact ⟨rfl,rfl,hs⟩
def orE (o:Option EntA):EntA:=o.getD ⟨0,0,0⟩
theorem zt0 {l:List EntA} {i:Nat} (hi:i<=l.length):(if ((i:Int)-1)<0 then (⟨0,0,0⟩:EntA) else l.getD ((i:Int)-1).toNat ⟨0,0,0⟩)=orE (l.take i).getLast? /\ decide (0<=(i:Int)-1)=(l.take i).getLast?.isSome:=by
 rw [zhx hi]
 by_cases h:i=0
 ·subst h;exact ⟨rfl,rfl⟩
 ·rw [if_neg h,if_neg (by omega),List.getD_eq_getElem?_getD,show ((i:Int)-1).toNat=i-1 by omega,List.getElem?_eq_getElem (by omega)]
  exact ⟨rfl,decide_eq_true (by omega)⟩
theorem z01e (o:Int) (hm:X.l.Pairwise λa b=>a.offset<b.offset) [hf:Fo l z2k b X r] (hs:Sat w l) :
  Ret P F.a26 #[.pointer (some ⟨b,0,none⟩),.int .i64 o] w λvs w'=>vs=[.agg (z4f (orE (z3h X.l o))).toArray,.bool (z3h X.l o).isSome]/\Sat w' (z2k b X::r) :=
 zpz _ o <| by
  unfold z014
  have hs:=hs.perm hf.perm
  refine z00 hs λa0 w' hs=>?_
  refine z00 hs λa1 w' hs=>?_
  refine zy hs λa2 w' hs=>?_
  refine zb hs ?_
  refine z0g ?_ (by simp)
  refine zp (λq w'=>q=((z3h X.l o).isSome,())/\Sat w' (pt a2 (.cells [.int .i64 (orE (z3h X.l o)).offset,.int .i64 (orE (z3h X.l o)).place,.int .i64 (orE (z3h X.l o)).before].toArray T.a7)::z2k b X::r)) ?_ ?_
  rotate_left
  ·rintro _ w2 ⟨rfl,hs⟩
   refine zt hs ?_
   exact ⟨rfl,rfl,hs.tail⟩
  obtain ⟨z,hok,hs⟩:=zey (hs.pick [3])
  have hl:=hs.slen z (xs:=X.l) (enc:=z4f)
  have hlen:=hok.len
  have hpl:=hok.place
  refine z07 hs λw' hs=>?_
  refine z1m hs ?_
  refine zb hs ?_
  refine zm ?_
  refine zb hs ?_
  rw [hl]
  refine za (ziy X.l.length (by omega) F.a27 #[.pointer (some ⟨a0,0,none⟩),.pointer (some ⟨a1,0,none⟩)] (λi=>decide ((X.l.getD i ⟨0,0,0⟩).offset>o)) (by kernel_rfl) (λi w hi hs=>?_) hs) λ_ w' hs=>?_
  ·have e:X.l.getD i ⟨0,0,0⟩=X.l[i]:=by rw [List.getD_eq_getElem?_getD,List.getElem?_eq_getElem hi];rfl
   simp only [e]
   exact zyb (X:=X) i a0 a1 o hi hs
  obtain ⟨i,hi,h1,h2,rfl,hs⟩:=hs
  refine zd ?_ (by first|trivial|(repeat (first|exact trivial|exact λ_=>z0i hs|exact λ_=>z0o hs|refine And.intro ?_ ?_)))
  refine zi ?_
  rw [w64 (by omega) (by omega)]
  replace hs:Sat _ (z2k b X::pt a2 (.cells [.int .i64 0,.int .i64 0,.int .i64 0].toArray T.a7)::pt a0 (.cells [.pointer (some ⟨b,0,none⟩)].toArray T.a15)::r):=z8b X (z:=z) hok hs.sub
  refine za (zzb (b:=b) ((i:Int)-1) (by omega) hs) λ_ w' hs=>?_
  obtain ⟨rfl,hs⟩:=hs
  have hcut:z3h X.l o=(X.l.take i).getLast? := by
   unfold z3h
   rw [zq3 hi (hm.imp λ{a b} hab=>by simp only [decide_eq_true_eq];omega)]
   ·intro h h0
    have:=h1 h0
    rw [List.getD_eq_getElem?_getD,List.getElem?_eq_getElem h] at this
    have:decide (X.l[i-1].offset>o)=false:=this
    simpa using this
   ·intro h
    have:=h2 h
    rw [List.getD_eq_getElem?_getD,List.getElem?_eq_getElem h] at this
    have:decide (X.l[i].offset>o)=true:=this
    simpa using this
  obtain ⟨c1_,c2_⟩:=zt0 (l:=X.l) hi
  rw [c1_,c2_,<- hcut]
  refine ⟨((orE (z3h X.l o)).offset,(orE (z3h X.l o)).place,(orE (z3h X.l o)).before,(z3h X.l o).isSome,()),rfl,(by first|trivial|(repeat (first|exact trivial|exact λ_=>z0i hs|exact λ_=>z0o hs|refine And.intro ?_ ?_))),zxf _ _ _ _ ?_⟩
  refine z03 hs λw' hs=>?_
  refine wp_lt ?_
  refine zi ?_
  exact zh ⟨rfl,hs.sub⟩
end
structure SegM where
 ix:Nat
 s:SegA
structure LogM where
 d:Nat
 pre:ByteArray
 seg:Int
 gap:Int
 z:Sl
 SM:List (Nat × SegM)
structure LogA where
 d:Nat
 pre:ByteArray
 seg:Int
 gap:Int
 l:List SegA
def LogM.l (M:LogM):List SegA:=M.SM.map λt=>t.2.s
def LogM.A (M:LogM):LogA:=⟨M.d,M.pre,M.seg,M.gap,M.l⟩
def z0l (b:Nat):List Value:=[.pointer (some ⟨b,0,none⟩)]
instance:Enc1 z0l .ptr (λb=>some ⟨b,0,none⟩):=⟨λ_=>rfl⟩
instance:EncN z0l 1:=⟨λ_=>rfl,by decide,by simp [z0l,Value.oneCell']⟩
def z05 (gap:Int) (a:Nat) (t:SegM):HP:=HP.star (pt a (.cells #[.pointer (some ⟨t.ix,0,none⟩),.int .i64 t.s.base,.int .i64 t.s.fin,.int .i64 (z0c t.s.bs),.int .i64 (z1i (-1) t.s.bs),.int .i64 (t.s.file.length:Nat)] T.a29)) (z2k t.ix (t.s.idx gap))
structure okM (gap seg:Int) (pre:ByteArray):Prop where
 gap:1<=gap/\gap<=4194304
 seg:64<=seg/\seg<=4194304
 pre:z42 pre=true
def lgQ (lg:Nat) (M:LogM):HP:=HP.and (okM M.gap M.seg M.pre) (HP.star (pt lg (.cells #[.pointer (some ⟨M.d,0,none⟩),.string M.pre,.int .i64 M.seg,.int .i64 M.gap,.slice M.z.a M.z.len M.z.cap] T.a28))
 (HP.star (slc T.a17 1 M.z ((M.SM.map Prod.fst).flatMap z0l)) (HP.all (M.SM.map λt=>z05 M.gap t.1 t.2))))
def lgP (lg:Nat) (A:LogA):HP:=HP.ex λM:LogM=>HP.and (M.A=A) (lgQ lg M)
def zuk:Option Nat->Option Addr
 | none=>none
 | some b=>some ⟨b,0,none⟩
section
variable {w:World} {l r:List HP} {lg:Nat} {M:LogM} {A:LogA} {gap:Int} {a:Nat} {t:SegM}
theorem z2e (hs:Sat w (z05 gap a t::l)):Sat w (pt a (.cells #[.pointer (some ⟨t.ix,0,none⟩),.int .i64 t.s.base,.int .i64 t.s.fin,.int .i64 (z0c t.s.bs),.int .i64 (z1i (-1) t.s.bs),.int .i64 (t.s.file.length:Nat)] T.a29)::z2k t.ix (t.s.idx gap)::l):=hs.star
theorem z1s (t:SegM) (hs:Sat w (pt a (.cells #[.pointer (some ⟨t.ix,0,none⟩),.int .i64 t.s.base,.int .i64 t.s.fin,.int .i64 (z0c t.s.bs),.int .i64 (z1i (-1) t.s.bs),.int .i64 (t.s.file.length:Nat)] T.a29)::z2k t.ix (t.s.idx gap)::l)):Sat w (z05 gap a t::l):=.star_mk hs
theorem z2j (hs:Sat w (lgQ lg M::l)):okM M.gap M.seg M.pre/\Sat w (pt lg (.cells #[.pointer (some ⟨M.d,0,none⟩),.string M.pre,.int .i64 M.seg,.int .i64 M.gap,.slice M.z.a M.z.len M.z.cap] T.a28)::slc T.a17 1 M.z ((M.SM.map Prod.fst).flatMap z0l)::HP.all (M.SM.map λt=>z05 M.gap t.1 t.2)::l):=by
 obtain ⟨h,hs⟩:=hs.and
 have hs:=hs.star
 exact ⟨h,((hs.pick [1]).star).pick [2]⟩
theorem z1a (M:LogM) (h:okM M.gap M.seg M.pre) (hs:Sat w (pt lg (.cells #[.pointer (some ⟨M.d,0,none⟩),.string M.pre,.int .i64 M.seg,.int .i64 M.gap,.slice M.z.a M.z.len M.z.cap] T.a28)::slc T.a17 1 M.z ((M.SM.map Prod.fst).flatMap z0l)::HP.all (M.SM.map λt=>z05 M.gap t.1 t.2)::l)):Sat w (lgQ lg M::l):=by
 refine .and_mk h (.star_mk ?_)
 exact ((hs.pick [1,1]).star_mk).pick [1]
theorem z4w (hs:Sat w (lgP lg A::l)):∃ M:LogM,M.A=A/\Sat w (lgQ lg M::l):=by
 obtain ⟨M,hs⟩:=hs.ex
 obtain ⟨h,hs⟩:=hs.and
 exact ⟨M,h,hs⟩
theorem z2w (M:LogM) (hs:Sat w (lgQ lg M::l)):Sat w (lgP lg M.A::l):=.ex_mk M (.and_mk rfl hs)
theorem zi8:∀ (j n:Nat),z2z (j+1) n=z5i (n / 16 ^ j % 16)::z2z j n
 | 0,n=>by simp [z2z]
 | j+1,n=>by
  show z2z (j+1) (n / 16)++[z5i (n % 16)]=_
  rw [zi8 j (n / 16)]
  have e:n / 16 / 16 ^ j=n / 16 ^ (j+1):=by rw [Nat.div_div_eq_div_mul,Nat.pow_succ,Nat.mul_comm]
  rw [e]
  rfl
theorem zzc (k:Nat) (c:UInt8):∀ (xs:List UInt8),(List.replicate (k+1) (0:UInt8)++xs).set k c=List.replicate k 0++c::xs:=by
 induction k with
 | zero=>intro xs;rfl
 | succ k ih=>intro xs;rw [List.replicate_succ,List.cons_append,List.set_cons_succ,ih,List.replicate_succ,List.cons_append]
theorem z034 (n:Nat) (h:n<18446744073709551616):BitVec.toNat (BitVec.ofInt 64 (n:Int) &&& BitVec.ofInt 64 15)=n % 16:=by
 rw [BitVec.ofInt_natCast,BitVec.toNat_and,BitVec.toNat_ofNat,Nat.mod_eq_of_lt h]
 show n &&& 15=n % 16
 exact Nat.and_two_pow_sub_one_eq_mod n 4
theorem z00k {k:Nat} (h:k<16):bt (ByteArray.mk #[48,49,50,51,52,53,54,55,56,57,97,98,99,100,101,102]) (k:Int)=(((z5i k).toNat:Nat):Int):=by
 have:∀ k:Fin 16,bt (ByteArray.mk #[48,49,50,51,52,53,54,55,56,57,97,98,99,100,101,102]) (k.val:Int)=(((z5i k.val).toNat:Nat):Int):=by decide +kernel
 exact this ⟨k,h⟩
theorem z00g {P:Program} {t el:TypeId} {bytes:Nat} {Q:Post} {S:World->Prop} {k:Sl->Prog} [ht:SlT P t el 1 bytes] [hz:Zer P el (.int .u8 0)] (n:Nat) (hs:Sat w l) (h:∀ x w',Sat w' (slc el 1 x ((List.replicate n (0:UInt8)).flatMap zf)::l)->(k x).wp P S w' Q) (hb:n*bytes<=281474976710656/\n<=9223372036854775807) (hS:∀ w',S w':=by exact λ_=>trivial) :
  (Prog.act (Instr.makeSlice t (.int .i64 (n:Int)) (.int .i64 (n:Int))) sL (u1 k)).wp P S w Q:=by
 obtain ⟨i,z,hi,h2,h3,h4,h5⟩:=ht.parts
 have hz':z=.int .u8 0:=by
  have:=hz.ok
  unfold z90 at this
  rw [hi] at this
  simp only at this
  rw [h4] at this
  exact Option.some.inj this
 have hrun:=run_make (P:=P) w t el i z ht.ok.1 hi h4 .i64 .i64 n n (by omega) (Int.le_refl _) (by rw [h3,<- Int.natCast_mul,Nat.mul_comm];omega) (by omega)
 simp only [Int.toNat_natCast] at hrun
 have hp:=hs.push (o:=.cells (madeCells z.cells (n*i.size)) el) (w':=w.alloc (.cells (madeCells z.cells (n*i.size)) el)) rfl
 refine ⟨(⟨some ⟨w.heap.size,0,none⟩,n,n⟩,()),_,hrun,hS _,h ⟨some ⟨w.heap.size,0,none⟩,n,n⟩ _ ?_⟩
 refine hp.imp λp hp=>.inr ⟨w.heap.size,0,_,_,rfl,hp,by rw [z44,List.length_replicate],Nat.le_refl _,by rw [size_madeCells,h2];simp,λj hj=>?_,z2s _ _⟩
 rw [z44,List.length_replicate,Nat.mul_one] at hj
 rw [h2,Nat.mul_one,Nat.zero_add,z9j,hz']
 have e1:(madeCells (Value.int .u8 0).cells n)[j]? = some (.int .u8 0):=by
  rw [Array.getElem?_eq_getElem (by rw [size_madeCells];exact hj)]
  simp [madeCells,Value.cells,Nat.mod_one]
 rw [e1,List.getElem?_map,List.getElem?_replicate,if_pos hj]
 rfl
theorem z5l (base:Int) (h:0<=base/\base<17592186044416) (x:ByteArray) (hx:x.size<=100) {d_:Value} {seg gp:Value} {zz:Value} (pre:ByteArray) (hp:pre.size<=100) [hf:FocB l lg (.cells [d_,.string pre,seg,gp,zz].toArray T.a28) r] (hs:Sat w l) :
  Ret P F.a68 #[.pointer (some ⟨lg,0,none⟩),.int .i64 base,.string x] w λvs w'=>vs=[.string (ze pre base (bl x))]/\Sat w' l :=
 zrm _ base x <| by
  unfold z013
  refine z00g 11 hs (λz w' hs=>?_) (by omega)
  refine zp (λ_ w'=>Sat w' (slc T.a34 1 z ((z2z 11 base.toNat).flatMap zf)::l)) ?_ ?_
  ·refine z08 (λm v w=>∃ j:Nat,v=(((base.toNat / 16 ^ j:Nat):Int),((10-(j:Int)),()))/\j<=11/\11-j=m/\Sat w (slc T.a34 1 z ((List.replicate (11-j) 0++z2z j base.toNat).flatMap zf)::l)) 11 ⟨0,by rw [Nat.pow_zero,Nat.div_one,Int.toNat_of_nonneg h.1];rfl,by omega,rfl,by simpa [z2z] using hs⟩ ?_
   clear hs
   rintro m _ w ⟨j,rfl,hj,hm,hs⟩
   refine zk ?_
   refine zg (λhc=>?_) λhc=>?_
   rotate_left
   ·have:j=11:=by omega
    subst this
    exact zn (zh (by simpa using hs))
   have hj2:j<=10:=by omega
   have hb:base.toNat / 16 ^ j<18446744073709551616:=by
    have:=Nat.div_le_self base.toNat (16 ^ j)
    omega
   have hmod:=Nat.mod_lt (base.toNat / 16 ^ j) (show 0<16 by omega)
   rw [z034 _ hb,w64 (by omega) (by omega)]
   refine wp_must (by omega) ?_
   rw [z00k hmod]
   refine z00a hs (xs:=List.replicate (11-j) 0++z2z j base.toNat) (enc:=zf) (10-j) (by rw [List.length_append,List.length_replicate];omega) (z5i (base.toNat / 16 ^ j % 16)) λw' hs=>?_
   refine z1n (y:=((base.toNat / 16 ^ (j+1):Nat):Int)) ?_ ?_
   ·refine z1n (y:=10-((j+1:Nat):Int)) ?_ (by rw [w64 (by omega) (by omega)];omega)
    refine z0n (11-(j+1)) ⟨j+1,rfl,by omega,rfl,?_⟩
    have e:=zzc (10-j) (z5i (base.toNat / 16 ^ j % 16)) (z2z j base.toNat)
    rw [show 10-j+1=11-j by omega] at e
    rw [e,<- zi8] at hs
    rw [show 11-(j+1)=10-j by omega]
    exact hs
   ·rw [z6y _ (by omega)]
    show ((base.toNat / 16 ^ j / 16:Nat):Int)=_
    rw [Nat.div_div_eq_div_mul,<- Nat.pow_succ]
  clear hs
  rintro _ w hs
  refine zk ?_
  refine z07 hs λw' hs=>?_
  refine zm ?_
  refine zb hs ?_
  refine wp_must (by omega) ?_
  refine zs7 (bs:=z2z 11 base.toNat) hs ?_
  have h11:=z52 11 base.toNat
  have s1:(pre++ByteArray.mk #[45]).size=pre.size+1:=ByteArray.size_append ..
  have s2:(ByteArray.mk (z2z 11 base.toNat).toArray).size=11:=h11
  refine wp_must (by omega) ?_
  have s3:(pre++ByteArray.mk #[45]++ByteArray.mk (z2z 11 base.toNat).toArray).size=pre.size+12:=by rw [ByteArray.size_append,s1,s2]
  refine wp_must (by omega) ?_
  refine wp_lt ?_
  refine zi ?_
  refine ⟨rfl,?_,hs.tail⟩
  congr 2
  apply zck
  rw [z50]
  unfold bl
  simp only [ByteArray.data_append,Array.toList_append,List.append_assoc]
  rfl
theorem z03f {a d:Nat} (hd:d<16) (ha:a<576460752303423488):BitVec.toNat (BitVec.ofInt 64 ((a:Int)*16) ||| BitVec.ofInt 64 (d:Int))=16*a+d:=by
 have e:(a:Int)*16=((16*a:Nat):Int):=by omega
 rw [e,BitVec.ofInt_natCast,BitVec.ofInt_natCast,BitVec.toNat_or,BitVec.toNat_ofNat,BitVec.toNat_ofNat,Nat.mod_eq_of_lt (show 16*a<2 ^ 64 by omega),Nat.mod_eq_of_lt (show d<2 ^ 64 by omega)]
 exact (Nat.two_pow_add_eq_or_of_lt (i:=4) hd a).symm
theorem zha:∀ {r:List UInt8} {x v k:Nat},z3s x r=some v->x<16 ^ k->v<16 ^ (k+r.length)
 | [],x,v,k,h,hx=>by simp [z3s] at h;subst h;simpa using hx
 | c::r,x,v,k,h,hx=>by
  unfold z3s at h
  cases hd:z64 c with
  | none=>rw [hd] at h;cases h
  | some d =>
   rw [hd] at h
   have hd:=(z00m hd).2
   have:=zha (k:=k+1) h (by rw [Nat.pow_succ];omega)
   rw [List.length_cons,show k+(r.length+1)=k+1+r.length by omega]
   exact this
theorem zbe (s:ByteArray) (i j:Nat):bl (s.extract i j)=((bl s).drop i).take (j-i):=by
 unfold bl
 rw [ByteArray.data_extract,Array.toList_extract,List.extract_eq_take_drop]
theorem znr (n x:ByteArray) (hn:n.size<=1000) (hx:x.size<=100) {d_:Value} {seg gp:Value} {zz:Value} (pre:ByteArray) (hp:pre.size<=100) [hf:FocB l lg (.cells [d_,.string pre,seg,gp,zz].toArray T.a28) r] (hs:Sat w l) :
  Ret P F.a62 #[.pointer (some ⟨lg,0,none⟩),.string n,.string x] w λvs w'=>vs=[.int .i64 (((z1d pre n (bl x)).getD 0:Nat):Int),.bool (z1d pre n (bl x)).isSome]/\Sat w' l :=
 zqk _ n x <| by
  unfold z01i
  refine zm ?_
  refine zb hs ?_
  have e1:IntKind.wrap .i64 (((ByteArray.size pre:Nat):Int)+1)=((pre.size+1:Nat):Int):=by rw [w64 (by omega) (by omega)];omega
  have e2:IntKind.wrap .i64 (((pre.size+1:Nat):Int)+11)=((pre.size+12:Nat):Int):=by rw [w64 (by omega) (by omega)];omega
  have e3:IntKind.wrap .i64 (((pre.size+12:Nat):Int)+((ByteArray.size x:Nat):Int))=((pre.size+12+x.size:Nat):Int):=by rw [w64 (by omega) (by omega)];omega
  rw [e1]
  refine wp_lt ?_
  rw [e2,e3]
  refine wp_must ?_ ?_
  ·intro h
   have h:((n.size:Nat):Int)=((pre.size+12+x.size:Nat):Int):=by simpa using h
   omega
  have hb:z1d pre n (bl x)=if n.size=pre.size+12+x.size/\(bl n).drop (pre.size+12)=bl x then z3s 0 (((bl n).drop (pre.size+1)).take 11) else none:=by
   unfold z1d
   rw [z0z,z0z,z0z]
  refine zg (λh=>?_) λh=>?_
  ·have:z1d pre n (bl x)=none:=by
    rw [hb,if_neg]
    rintro ⟨h1,h2⟩
    rcases h with h|h
    ·apply h;rw [h1]
    ·apply h
     rw [Int.toNat_natCast]
     apply zck
     rw [zbe,h2,List.take_of_length_le]
     rw [z0z];omega
   rw [this]
   exact ⟨rfl,rfl,hs⟩
  have h1:n.size=pre.size+12+x.size:=by
   have:¬ (((n.size:Nat):Int)≠((pre.size+12+x.size:Nat):Int)):=λhh=>h (.inl hh)
   omega
  have h2:(bl n).drop (pre.size+12)=bl x:=by
   have h3:ByteArray.extract n (pre.size+12) n.size=x:=by
    apply Decidable.byContradiction
    intro hh
    exact h (.inr (by rw [Int.toNat_natCast];exact hh))
   rw [<- h3,zbe,List.take_of_length_le]
   rw [List.length_drop,z0z];omega
  rw [if_pos ⟨h1,h2⟩] at hb
  refine wp_must (by omega) ?_
  rw [Int.toNat_natCast,Int.toNat_natCast]
  have h4:(ByteArray.extract n (pre.size+1) (pre.size+12)).data.toList=((bl n).drop (pre.size+1)).take 11:=by
   have:=zbe n (pre.size+1) (pre.size+12)
   rw [show pre.size+12-(pre.size+1)=11 by omega] at this
   exact this
  refine zjr hs λy w' hs=>?_
  rw [h4] at hs
  generalize hcs:((bl n).drop (pre.size+1)).take 11=cs at *
  have hcl:cs.length=11:=by rw [<- hcs,List.length_take,List.length_drop,z0z];omega
  have hl:=hs.slen y (xs:=cs) (enc:=zf)
  rw [hb]
  refine zp (λq w'=>∃ v:Nat,z3s 0 cs=some v/\q=((v:Int),())/\Sat w' l) ?_ ?_
  rotate_left
  ·rintro _ w2 ⟨v,hv,rfl,hs⟩
   refine wp_lt ?_
   rw [hv]
   exact ⟨rfl,rfl,hs⟩
  refine z08 (λm q w=>∃ i v:Nat,q=((v:Int),((i:Int),()))/\i<=11/\11-i=m/\z3s 0 (cs.take i)=some v/\Sat w (slc T.a34 1 y (cs.flatMap zf)::l)) 11 ⟨0,0,rfl,by omega,rfl,rfl,hs⟩ ?_
  clear hs
  rintro m _ w ⟨i,v,rfl,hi,hm,hv,hs⟩
  refine zk ?_
  refine zg (λhc=>?_) λhc=>?_
  rotate_left
  ·refine zn (zh ⟨v,?_,rfl,hs.tail⟩)
   rwa [List.take_of_length_le (by omega)] at hv
  have hil:i<cs.length:=by omega
  have hvl:=zha (k:=0) hv (by omega)
  rw [List.length_take] at hvl
  have hvl2:v<1152921504606846976 / 16:=by
   have h5:16 ^ (0+min i cs.length)<=16 ^ 10:=Nat.pow_le_pow_right (by omega) (by omega)
   omega
  have hstep:z3s 0 (cs.take (i+1))=(z64 cs[i]).map λd=>16*v+d:=by
   rw [List.take_succ_eq_append_getElem hil,ze9,hv]
   show z3s v [cs[i]]=_
   unfold z3s
   cases z64 cs[i] <;> rfl
  have hcut:∀ j,z3s 0 (cs.take j)=none->z3s 0 cs=none:=λj hj=>by
   rw [<- List.take_append_drop j cs,ze9,hj];rfl
  refine z1k hs (xs:=cs) (enc:=zf) i hil ?_
  refine wp_lt ?_
  refine wp_lt ?_
  have hgo:∀ {w:World} (d:Nat),z64 cs[i]=some d->Sat w (slc T.a34 1 y (cs.flatMap zf)::l)->∃ i' v':Nat,((((16*v+d:Nat):Int),(((i+1:Nat):Int),())):Int × Int × Unit)=((v':Int),((i':Int),()))/\i'<=11/\11-i'=11-(i+1)/\z3s 0 (cs.take i')=some v'/\Sat w (slc T.a34 1 y (cs.flatMap zf)::l):=λd hd hs =>
   ⟨i+1,16*v+d,rfl,by omega,rfl,by rw [hstep,hd];rfl,hs⟩
  have hcb:=(cs[i]).toNat_lt
  have ei:IntKind.wrap .i64 ((i:Int)+1)=((i+1:Nat):Int):=by rw [w64 (by omega) (by omega)];omega
  refine zp (λq w'=>∃ d:Nat,z64 cs[i]=some d/\q=(((16*v+d:Nat):Int),())/\Sat w' (slc T.a34 1 y (cs.flatMap zf)::l)) ?_ ?_
  rotate_left
  ·rintro _ w2 ⟨d,hd,rfl,hs⟩
   rw [ei]
   exact z0n (11-(i+1)) (hgo d hd hs)
  have hor:∀ d:Nat,d<16->IntKind.wrap .i64 (((BitVec.toNat (BitVec.ofInt 64 (IntKind.wrap .i64 ((v:Int)*16)) ||| BitVec.ofInt 64 (d:Int)):Nat):Int))=((16*v+d:Nat):Int):=λd hd=>by
   rw [w64 (x:=(v:Int)*16) (by omega) (by omega),z03f hd (by omega),w64 (by omega) (by omega)]
  refine zg (λh5=>?_) λh5=>?_
  ·have hd:z64 cs[i]=some ((cs[i]).toNat-48):=by unfold z64;rw [if_pos (by omega)]
   have e5:IntKind.wrap .i64 (IntKind.wrap .u8 ((((cs[i]).toNat:Nat):Int)-48))=(((cs[i]).toNat-48:Nat):Int):=by
    rw [wu8 (by omega) (by omega),w64 (by omega) (by omega)];omega
   rw [e5]
   refine z1n (y:=((16*v+((cs[i]).toNat-48):Nat):Int)) ?_ (hor _ (by omega))
   exact zh ⟨_,hd,rfl,hs⟩
  refine wp_lt ?_
  refine zg (λh6=>?_) λh6=>?_
  ·have hd:z64 cs[i]=some ((cs[i]).toNat-87):=by unfold z64;rw [if_neg (by omega),if_pos (by omega)]
   have e5:IntKind.wrap .i64 (IntKind.wrap .u8 (IntKind.wrap .u8 ((((cs[i]).toNat:Nat):Int)-97)+10))=(((cs[i]).toNat-87:Nat):Int):=by
    rw [wu8 (x:=(((cs[i]).toNat:Nat):Int)-97) (by omega) (by omega),wu8 (by omega) (by omega),w64 (by omega) (by omega)];omega
   rw [e5]
   refine z1n (y:=((16*v+((cs[i]).toNat-87):Nat):Int)) ?_ (hor _ (by omega))
   exact zh ⟨_,hd,rfl,hs⟩
  ·have hd:z64 cs[i]=none:=by unfold z64;rw [if_neg (by omega),if_neg (by omega)]
   have hno:z3s 0 cs=none:=hcut (i+1) (by rw [hstep,hd];rfl)
   rw [hno]
   exact zn (zn (zn ⟨rfl,rfl,hs.tail⟩))
theorem zfj (base fin:Int) (hb:0<=base/\base<9223372036854775808) (hf:0<=fin/\fin<9223372036854775808) (hs:Sat w l):Ret P F.a76 #[.int .i64 base,.int .i64 fin] w λvs w'=>∃ z:Sl,vs=[z.v]/\Sat w' (slc T.a34 1 z ((shL base fin).flatMap zf)::l) :=
 zpk base fin <| by
  unfold z02k
  refine z6f hs (enc:=zf) [(83:UInt8)] λz1 w' hs=>?_
  refine za (z58 base hb hs) λ_ w' hs=>?_
  obtain ⟨z2,rfl,hs⟩:=hs
  refine zd ?_
  refine za (z58 fin hf hs) λ_ w' hs=>?_
  obtain ⟨z3,rfl,hs⟩:=hs
  refine zd ?_
  refine z6f hs (enc:=z0d) [z1,z2,z3] λz4 w' hs=>?_
  have u1_:=z16 base
  have u2_:=z16 fin
  have f1:FocR (slc T.a26 1 z4 ([z1,z2,z3].flatMap z0d)::slc T.a34 1 z3 ((uI fin).flatMap zf)::slc T.a34 1 z2 ((uI base).flatMap zf)::slc T.a34 1 z1 (([83]:List UInt8).flatMap zf)::l) z1 1 (([83]:List UInt8).flatMap zf):=inferInstance
  have f2:FocR (slc T.a26 1 z4 ([z1,z2,z3].flatMap z0d)::slc T.a34 1 z3 ((uI fin).flatMap zf)::slc T.a34 1 z2 ((uI base).flatMap zf)::slc T.a34 1 z1 (([83]:List UInt8).flatMap zf)::l) z2 1 ((uI base).flatMap zf):=inferInstance
  have f3:FocR (slc T.a26 1 z4 ([z1,z2,z3].flatMap z0d)::slc T.a34 1 z3 ((uI fin).flatMap zf)::slc T.a34 1 z2 ((uI base).flatMap zf)::slc T.a34 1 z1 (([83]:List UInt8).flatMap zf)::l) z3 1 ((uI fin).flatMap zf):=inferInstance
  refine za (znm z4 [(z1,[83]),(z2,uI base),(z3,uI fin)] (λp hp=>?_) (by show 3<=1000000;omega) hs) λ_ w' hs=>?_
  ·simp only [List.mem_cons,List.not_mem_nil,or_false] at hp
   rcases hp with rfl|rfl|rfl
   ·exact ⟨f1,by show (1:Nat)<=_;omega⟩
   ·exact ⟨f2,by show (uI base).length<=_;omega⟩
   ·exact ⟨f3,by show (uI fin).length<=_;omega⟩
  obtain ⟨z5,rfl,hs⟩:=hs
  refine zd ?_
  refine ⟨rfl,z5,rfl,?_⟩
  have e:([(z1,[83]),(z2,uI base),(z3,uI fin)]:List (Sl × List UInt8)).flatMap Prod.snd=shB base fin:=by simp [shB]
  rw [e] at hs
  have hs:Sat _ (slc T.a34 1 z5 ((shL base fin).flatMap zf)::_):=hs
  exact hs.sub
theorem zuc (x:Sl) (body:List UInt8) (base:Int) (hb:0<=base/\base<9223372036854775808) [hx:FocR l x 1 (body.flatMap zf)] (hn:body.length<=1000000000) (hs:Sat w l) :
  Ret P F.a77 #[x.v,.int .i64 base] w λvs w'=>∃ v:Int,vs=[.int .i64 v,.bool (z5s base body).isSome]/\(∀ f,z5s base body=some f->v=f)/\Sat w' l :=
 zoi x base <| by
  unfold z00d
  refine za (zsp x body hn hs) λ_ w' hs=>?_
  obtain ⟨p,rfl,hs⟩:=hs
  refine zd ?_
  refine za (zgr (p:=p) hs) λ_ _ hs=>?_
  obtain ⟨rfl,hs⟩:=hs
  refine zd ?_
  refine za (zgi (p:=p) hs) λ_ _ hs=>?_
  obtain ⟨rfl,hs⟩:=hs
  refine zd ?_
  refine za (zgi (p:=p) hs) λ_ _ hs=>?_
  obtain ⟨rfl,hs⟩:=hs
  refine zd ?_
  refine wp_lt ?_
  refine wp_lt ?_
  refine wp_lt ?_
  refine za (ztc (p:=p) hs) λ_ w' hs=>?_
  obtain ⟨e,rfl,he,hs⟩:=hs
  refine zd ?_
  have eh:z5s base body=if (z0v (z0v (z12 (some body)).2).2).2=some []/\(z12 (some body)).1=83/\((z0v (z12 (some body)).2).1:Int)=base/\base<=1099511627776/\(z0v (z0v (z12 (some body)).2).2).1<=1099511627776/\((z0v (z0v (z12 (some body)).2).2).1=0\/base<(z0v (z0v (z12 (some body)).2).2).1) then some ((z0v (z0v (z12 (some body)).2).2).1:Int) else none:=rfl
  generalize z5s base body=HS at eh he ⊢
  generalize z12 (some body)=k at eh he ⊢
  generalize z0v k.2=m at eh he ⊢
  generalize z0v m.2=q at eh he ⊢
  have ew:IntKind.wrap .u64 base=base:=zjn (by omega) (by omega)
  rw [ew]
  refine zg (λh=>?_) λh=>?_
  ·have:HS=none:=by
    rw [eh,if_neg]
    rintro ⟨h1,h2,h3,h4,h5,-⟩
    have h6:=he.2 h1
    rcases h with (((h|h)|h)|h)|h
    ·exact h h6
    ·apply h;rw [h2];rfl
    ·exact h h3
    ·omega
    ·omega
   rw [this]
   exact ⟨rfl,0,rfl,(λf hf=>by cases hf),hs⟩
  have h1:q.2=some []:=he.1 (Decidable.byContradiction λhh=>h (.inl (.inl (.inl (.inl hh)))))
  have h2:k.1=83:=by
   have:((k.1:Nat):Int)=83:=Decidable.byContradiction λhh=>h (.inl (.inl (.inl (.inr hh))))
   omega
  have h3:((m.1:Nat):Int)=base:=Decidable.byContradiction λhh=>h (.inl (.inl (.inr hh)))
  have h4:base<=1099511627776:=by
   apply Decidable.byContradiction;intro hh;exact h (.inl (.inr (by omega)))
  have h5:q.1<=1099511627776:=by
   apply Decidable.byContradiction;intro hh;exact h (.inr (by omega))
  rw [w64 (by omega) (by omega)]
  refine wp_lt ?_
  refine wp_lt ?_
  refine ⟨rfl,((q.1:Nat):Int),?_,?_,hs⟩
  ·congr 2
   rw [eh]
   by_cases h6:q.1=0\/base<q.1
   ·rw [if_pos ⟨h1,h2,h3,h4,h5,h6⟩]
    have:(((q.1:Nat):Int) == 0 || decide (((q.1:Nat):Int)>base))=true:=by
     rw [Bool.or_eq_true,beq_iff_eq,decide_eq_true_eq];omega
    rw [this];rfl
   ·rw [if_neg λhh=>h6 hh.2.2.2.2.2]
    have:(((q.1:Nat):Int) == 0 || decide (((q.1:Nat):Int)>base))=false:=by
     rw [Bool.or_eq_false_iff,beq_eq_false_iff_ne,decide_eq_false_iff_not];omega
    rw [this];rfl
  ·intro f hf
   rw [eh] at hf
   split at hf
   ·exact Option.some.inj hf
   ·cases hf
theorem zoh (x:Int) (rs:List RecM) (i:Nat) (hi:i<rs.length):z5q x (rs.take (i+1))=max (z5q x (rs.take i)) rs[i].time:=by
 rw [List.take_succ_eq_append_getElem hi]
 unfold z5q
 rw [List.foldl_append]
 rfl
theorem zvb (b:BatM) [hb:FocR l b.x 4 (b.rs.flatMap zx)] (hlen:b.rs.length<=1000000000) (hs:Sat w l):Ret P F.a78 #[.agg (zj b).toArray] w λvs w'=>vs=[.int .i64 (z3k b)]/\Sat w' l :=
 zrk b.base b.pid b.epoch b.seq b.kind b.time b.x <| by
  unfold z01c
  have hl:=hs.slen b.x (xs:=b.rs) (enc:=zx)
  refine z00 hs λa0 w' hs=>?_
  refine zb hs ?_
  refine zp (λq w'=>q=(z5q (-1) b.rs,())/\Sat w' (pt a0 (.cells (cB b) T.a1)::l)) ?_ ?_
  ·refine z08 (λm v w=>∃ i:Nat,v=(z5q (-1) (b.rs.take i),((i:Int),()))/\i<=b.rs.length/\b.rs.length-i=m/\Sat w (pt a0 (.cells (cB b) T.a1)::l)) b.rs.length ⟨0,rfl,by omega,rfl,hs⟩ ?_
   clear hs
   rintro m _ w ⟨i,rfl,hi,hm,hs⟩
   refine zk ?_
   refine zg (λhc=>?_) λhc=>?_
   rotate_left
   ·refine zn (zh ⟨?_,hs⟩)
    rw [List.take_of_length_le (by omega)]
   have hil:i<b.rs.length:=by omega
   refine z1p hs (xs:=b.rs) (enc:=zx) i hil ?_
   refine zy hs λc w' hs=>?_
   refine z03 hs λw' hs=>?_
   refine zb hs ?_
   refine z1n (y:=z5q (-1) (b.rs.take (i+1))) ?_ (by rw [zoh _ _ _ hil];split <;> omega)
   rw [wS (i:=i) (by omega)]
   exact z0n (b.rs.length-(i+1)) ⟨i+1,rfl,by omega,rfl,hs.sub⟩
  clear hs
  rintro _ w ⟨rfl,hs⟩
  refine zk ?_
  refine zb hs ?_
  refine zp (λq w'=>q=(z3k b,())/\Sat w' (pt a0 (.cells (cB b) T.a1)::l)) ?_ ?_
  ·unfold z3k
   refine zg (λh=>?_) λh=>?_
   ·refine zb hs ?_
    refine wp_lt ?_
    refine zh ⟨?_,hs⟩
    rw [if_pos (List.length_eq_zero_iff.1 (by omega))]
   ·refine zh ⟨?_,hs⟩
    rw [if_neg (by rintro h0;rw [h0] at hl;simp at hl;omega)]
  rintro _ w2 ⟨rfl,hs⟩
  refine wp_lt ?_
  exact ⟨rfl,rfl,hs.tail⟩
theorem z02b (seg gap:Int) (hs:Sat w l):Ret P F.a79 #[.agg #[.int .i64 seg,.int .i64 gap]] w λvs w'=>vs=[.bool (decide ((64<=seg/\seg<=4194304)/\(1<=gap/\gap<=4194304)))]/\Sat w' l :=
 zoq seg gap <| by
  unfold z02q
  refine z00 hs λa0 w' hs=>?_
  refine zb hs ?_
  refine zb hs ?_
  refine zb hs ?_
  refine zb hs ?_
  refine wp_lt ?_
  refine ⟨rfl,?_,hs.tail⟩
  congr 2
  rw [Bool.eq_iff_iff,decide_eq_true_iff]
  simp only [Bool.and_eq_true,decide_eq_true_eq]
  omega
theorem zv8 (s:ByteArray) (hs:Sat w l):Ret P F.a75 #[.string s] w λvs w'=>vs=[.bool (z42 s)]/\Sat w' l :=
 zoc s <| by
  unfold z00r
  unfold z42
  refine zg (λh=>?_) λh=>?_
  ·rw [decide_eq_false (by omega),Bool.false_and]
   exact ⟨rfl,rfl,hs⟩
  rw [decide_eq_true (by omega),Bool.true_and]
  refine zjr hs λx w' hs=>?_
  have hl:=hs.slen x (xs:=bl s) (enc:=zf)
  have hsz:=z0z s
  refine zp (λ_ w'=>((bl s).all λc=>(97<=c.toNat && c.toNat<=122) || (48<=c.toNat && c.toNat<=57))=true/\Sat w' l) ?_ ?_
  rotate_left
  ·rintro _ w2 ⟨h2,hs⟩
   rw [h2]
   exact ⟨rfl,rfl,hs⟩
  refine z08 (λm v w=>∃ i:Nat,v=((i:Int),())/\i<=(bl s).length/\(bl s).length-i=m/\(((bl s).take i).all λc=>(97<=c.toNat && c.toNat<=122) || (48<=c.toNat && c.toNat<=57))=true/\Sat w (slc T.a34 1 x ((bl s).flatMap zf)::l)) (bl s).length ⟨0,rfl,by omega,rfl,rfl,hs⟩ ?_
  clear hs
  rintro m _ w ⟨i,rfl,hi,hm,hall,hs⟩
  refine zk ?_
  refine zg (λhc=>?_) λhc=>?_
  rotate_left
  ·refine zn (zh ⟨?_,hs.tail⟩)
   rwa [List.take_of_length_le (by omega)] at hall
  have hil:i<(bl s).length:=by omega
  refine z1k hs (xs:=bl s) (enc:=zf) i hil ?_
  refine wp_lt ?_
  have hstep:(((bl s).take (i+1)).all λc=>(97<=c.toNat && c.toNat<=122) || (48<=c.toNat && c.toNat<=57))=((97<=(bl s)[i].toNat && (bl s)[i].toNat<=122) || (48<=(bl s)[i].toNat && (bl s)[i].toNat<=57)):=by
   rw [List.take_succ_eq_append_getElem hil,List.all_append,hall]
   simp
  refine zfm (λh3=>?_) λh3=>?_
  ·refine zn (zn ⟨rfl,?_,hs.tail⟩)
   have hf:((97<=(bl s)[i].toNat && (bl s)[i].toNat<=122) || (48<=(bl s)[i].toNat && (bl s)[i].toNat<=57))=false:=by
    rw [Bool.eq_false_iff]
    intro hh
    simp only [Bool.not_eq_true',Bool.or_eq_false_iff,Bool.and_eq_false_iff,decide_eq_false_iff_not] at h3
    simp only [Bool.or_eq_true,Bool.and_eq_true,decide_eq_true_eq] at hh
    omega
   have:((bl s).all λc=>(97<=c.toNat && c.toNat<=122) || (48<=c.toNat && c.toNat<=57))=false:=by
    rw [<- List.take_append_drop (i+1) (bl s),List.all_append,hstep,hf]
    rfl
   rw [this]
  ·rw [wS (i:=i) (by omega)]
   refine z0n ((bl s).length-(i+1)) ⟨i+1,rfl,by omega,rfl,?_,hs⟩
   rw [hstep]
   simp only [Bool.not_eq_false',Bool.or_eq_true,Bool.and_eq_true,decide_eq_true_eq] at h3
   simp only [Bool.or_eq_true,Bool.and_eq_true,decide_eq_true_eq]
   omega
end
instance (priority:=low) AddrIs.adds {a:Addr} {b off n:Nat} [h:AddrIs a b off]:AddrIs (a.add n) b (off+n):=⟨by rw [h.ok,z2x]⟩
section
variable {P:Program} {w:World} {Q:Post} {S:World->Prop}
theorem zoy {g:Prop} {o:Option Addr} {f:Addr->Prog} (h:(f ⟨0,0,none⟩).wp P S w Q) (hg:¬ g):(Prog.ex [.adr] (c1 λx=>g->o=some x) (u1 f)).wp P S w Q:=⟨(⟨0,0,none⟩,()),λh=>absurd h hg,h⟩
theorem z9i {g:Prop} {m:Sem Value} {p:Pr} {f:p.D->Prog} (x:p.D) (hg:¬ g) (h:(f x).wp P S w Q):(Prog.read g m (.one (.one p)) (u1 f)).wp P S w Q:=⟨(x,()),λh=>absurd h hg,h⟩
end
def SegA.add (s:SegA) (bs:List BatM):SegA:=⟨s.base,s.fin,s.bs++bs.map BatM.p⟩
theorem zdc (s:SegA):s.add []=s:=by unfold SegA.add;simp
theorem add_add (s:SegA) (a b:List BatM):(s.add a).add b=s.add (a++b):=by unfold SegA.add;simp
theorem zk8 (bs:List BatM):(bs.map BatM.p).flatMap frL=bs.flatMap frL:=by
 rw [List.flatMap_map];rfl
theorem z4x (s:SegA) (bs:List BatM):(s.add bs).file=s.file++bs.flatMap frL:=by
 unfold SegA.file SegA.add
 simp only [List.flatMap_append,zk8,List.append_assoc]
theorem zya (gap:Int) (s:SegA) (b:BatM):(s.add [b]).idx gap=(z9u (s.idx gap) b.base (s.file.length:Nat) (z3k b)).2:=by
 unfold SegA.idx SegA.add
 show zbf (zcs gap) _ (s.bs++[b.p])=_
 rw [zbs,z2a]
 rw [show ((((shL s.base s.fin).length+(s.bs.flatMap frL).length:Nat)):Int)=((shL s.base s.fin).length:Int)+((s.bs.flatMap frL).length:Int) by omega]
 rfl
theorem z5o {α β:Type} (f:α->β) (l:List α):(l.map f).getLast? = l.getLast?.map f:=by simp
section
variable {w:World} {l r:List HP} {lg:Nat} {M:LogM} {A:LogA} {gap:Int} {a:Nat} {t:SegM}
theorem zz9 [hf:Fo l (z05 gap) a t r] (hs:Sat w l):Ret P F.a81 #[.pointer (some ⟨a,0,none⟩)] w λvs w'=>vs=[.int .i64 t.s.reach]/\Sat w' (z05 gap a t::r) :=
 zqh _ <| by
  unfold z01w
  have hs:=z2e (hs.perm hf.perm)
  refine z07 hs λw' hs=>?_
  refine zm ?_
  refine zb hs ?_
  refine zm ?_
  refine zb hs ?_
  refine zm ?_
  refine zb hs ?_
  refine z1n (y:=t.s.reach) ?_ (by unfold SegA.reach;split <;> split <;> omega)
  refine zi ?_
  exact ⟨rfl,rfl,z1s t hs⟩
theorem zed (base fin:Int) (hb:0<=base/\base<9223372036854775808) (hf':0<=fin/\fin<9223372036854775808) [hf:Fo l lgQ lg M r] (hs:Sat w l) :
  Ret P F.a72 #[.pointer (some ⟨lg,0,none⟩),.int .i64 base,.int .i64 fin] w λvs w'=>∃ a ix,vs=[.pointer (some ⟨a,0,none⟩)]/\Sat w' (z05 M.gap a ⟨ix,⟨base,fin,[]⟩⟩::lgQ lg M::r) :=
 zpu _ base fin <| by
  unfold z01f
  obtain ⟨hok,hs⟩:=z2j (hs.perm hf.perm)
  refine zm ?_
  refine zb hs ?_
  refine za (z020 M.gap hok.gap hs) λ_ w' hs=>?_
  obtain ⟨ix,rfl,hs⟩:=hs
  refine zd ?_
  refine wp_lt ?_
  refine za (zfj base fin hb hf' hs) λ_ w' hs=>?_
  obtain ⟨z,rfl,hs⟩:=hs
  refine zd ?_
  have hl:=hs.slen z (xs:=shL base fin) (enc:=zf)
  refine z00 hs λa w' hs=>?_
  refine ⟨rfl,a,ix,rfl,?_⟩
  have hs:Sat w' (pt a (.cells #[.pointer (some ⟨ix,0,none⟩),.int .i64 base,.int .i64 fin,.int .i64 (z0c []),.int .i64 (z1i (-1) []),.int .i64 ((SegA.file ⟨base,fin,[]⟩).length:Nat)] T.a29)::slc T.a34 1 z ((shL base fin).flatMap zf)::z2k ix ((SegA.mk base fin []).idx M.gap)::pt lg (.cells #[.pointer (some ⟨M.d,0,none⟩),.string M.pre,.int .i64 M.seg,.int .i64 M.gap,.slice M.z.a M.z.len M.z.cap] T.a28)::slc T.a17 1 M.z ((M.SM.map Prod.fst).flatMap z0l)::HP.all (M.SM.map λt=>z05 M.gap t.1 t.2)::r):=by
   have e:(SegA.file ⟨base,fin,[]⟩).length=z.len:=by rw [z2a,hl];simp
   rw [e]
   exact hs
  have hs:=z1a M hok (hs.pick [3,3,3])
  exact z1s ⟨ix,⟨base,fin,[]⟩⟩ (hs.sub)
theorem zkl (b:BatM) (hv:z02 b=0) [hf:Fo l (z05 gap) a t r] [hb:FocR r b.x 4 (b.rs.flatMap zx)] (hlen:t.s.file.length+(frL b).length<=1000000000) (hs:Sat w l) :
  Ret P F.a82 #[.pointer (some ⟨a,0,none⟩),.agg (zj b).toArray,.int .i64 ((frL b).length:Nat)] w λvs w'=>vs=[]/\Sat w' (z05 gap a ⟨t.ix,t.s.add [b]⟩::r) :=
 zoj _ b.base b.pid b.epoch b.seq b.kind b.time b.x _ <| by
  unfold z02v
  obtain ⟨h64,-⟩:=z2l hv
  obtain ⟨-,-,⟨-,hba,-⟩,-,-⟩:=z1e b hv
  have hs:=z2e (hs.perm hf.perm)
  refine z00 hs λa0 w' hs=>?_
  refine zt hs ?_
  refine za (zvb b (by omega) hs) λ_ w' hs=>?_
  obtain ⟨rfl,hs⟩:=hs
  refine zd ?_
  refine wp_lt ?_
  refine z07 hs λw' hs=>?_
  refine zm ?_
  refine zb hs ?_
  refine zb hs ?_
  refine zm ?_
  refine zb hs ?_
  refine za (z009 (b:=t.ix) b.base ((t.s.file.length:Nat):Int) (z3k b) (by omega) (by omega) hs) λ_ w' hs=>?_
  obtain ⟨rfl,hs⟩:=hs
  refine zd ?_
  refine zi ?_
  refine zt hs ?_
  refine za (zd9 b hs) λ_ w' hs=>?_
  obtain ⟨rfl,hs⟩:=hs
  refine zd ?_
  refine zm ?_
  refine z0f hs λw' hs=>?_
  refine zm ?_
  refine zb hs ?_
  refine zm ?_
  refine z0f hs λw' hs=>?_
  refine zm ?_
  refine zb hs ?_
  refine zm ?_
  rw [w64 (by omega) (by omega)]
  refine z0f hs λw' hs=>?_
  refine ⟨rfl,rfl,?_⟩
  have e1:z3i b=z0c (t.s.add [b]).bs:=by
   show _=z0c (t.s.bs++[b.p])
   rw [z35]
   unfold z3i
   rw [if_neg (by rw [hv];simp)]
   rfl
  have e2:(if z3k b>z1i (-1) t.s.bs then z3k b else z1i (-1) t.s.bs)=z1i (-1) (t.s.add [b]).bs:=by
   show _=z1i (-1) (t.s.bs++[b.p])
   rw [zfz]
   show _=max _ (z3k b)
   split <;> omega
  have e3:((t.s.file.length:Nat):Int)+((frL b).length:Nat)=(((t.s.add [b]).file.length:Nat):Int):=by
   rw [z4x,List.length_append];simp
  rw [e1,e2,e3,<- zya] at hs
  have hs:Sat w' (pt a (.cells #[.pointer (some ⟨t.ix,0,none⟩),.int .i64 (t.s.add [b]).base,.int .i64 (t.s.add [b]).fin,.int .i64 (z0c (t.s.add [b]).bs),.int .i64 (z1i (-1) (t.s.add [b]).bs),.int .i64 ((t.s.add [b]).file.length:Nat)] T.a29)::_):=hs
  refine z1s ⟨t.ix,t.s.add [b]⟩ ?_
  exact hs.sub
theorem zgg [hf:Fo l lgQ lg M r] (hlen:M.SM.length<=1000000000) (hs:Sat w l):Ret P F.a67 #[.pointer (some ⟨lg,0,none⟩)] w λvs w'=>vs=[.pointer (zuk (M.SM.getLast?.map Prod.fst))]/\Sat w' (lgQ lg M::r) :=
 zp9 _ <| by
  unfold z01k
  obtain ⟨hok,hs⟩:=z2j (hs.perm hf.perm)
  have hl:=hs.slen M.z (xs:=M.SM.map Prod.fst) (enc:=z0l)
  rw [List.length_map] at hl
  refine zm ?_
  refine zb hs ?_
  refine zg (λh=>?_) λh=>?_
  ·have:M.SM=[]:=List.length_eq_zero_iff.1 (by omega)
   rw [this]
   rw [this] at hs
   have hs:=z1a M hok (by rw [this];exact hs)
   exact ⟨rfl,rfl,hs⟩
  have h0:0<M.SM.length:=by omega
  refine z07 hs λw' hs=>?_
  refine zm ?_
  refine zb hs ?_
  refine zm ?_
  refine zb hs ?_
  rw [w64 (by omega) (by omega)]
  refine z1k hs (xs:=M.SM.map Prod.fst) (enc:=z0l) (M.SM.length-1) (by rw [List.length_map];omega) ?_
  refine zi ?_
  refine ⟨rfl,?_,z1a M hok hs⟩
  have e:M.SM.getLast?.map Prod.fst=some ((M.SM.map Prod.fst)[M.SM.length-1]'(by rw [List.length_map];omega)):=by
   rw [List.getLast?_eq_getElem?,List.getElem?_eq_getElem (by omega)]
   simp
  rw [e]
  rfl
theorem z6r {SM:List (Nat × SegM)} (hs:Sat w (HP.all (SM.map λt=>z05 gap t.1 t.2)::l)) {i:Nat} (hi:i<SM.length) :
  Sat w (z05 gap SM[i].1 SM[i].2::HP.all ((SM.eraseIdx i).map λt=>z05 gap t.1 t.2)::l):=by
 exact ((hs.all_perm ((z6t hi).map _))).all_cons
theorem z4u {SM:List (Nat × SegM)} {i:Nat} (hi:i<SM.length) (hs:Sat w (z05 gap SM[i].1 SM[i].2::HP.all ((SM.eraseIdx i).map λt=>z05 gap t.1 t.2)::l)) :
  Sat w (HP.all (SM.map λt=>z05 gap t.1 t.2)::l):=by
 have h1:Sat w (HP.all ((SM[i]::SM.eraseIdx i).map λt=>z05 gap t.1 t.2)::l):=hs.all_put
 exact h1.all_perm ((z6t hi).symm.map _)
theorem za7 [hf:Fo l lgQ lg M r] (hs:Sat w l):Ret P F.a54 #[.pointer (some ⟨lg,0,none⟩)] w λvs w'=>vs=[.int .i64 (zl M.l)]/\Sat w' (lgQ lg M::r) :=
 zqq _ <| by
  unfold z02d
  obtain ⟨hok,hs⟩:=z2j (hs.perm hf.perm)
  have hl:=hs.slen M.z (xs:=M.SM.map Prod.fst) (enc:=z0l)
  rw [List.length_map] at hl
  refine z0k ?_
  refine zb hs ?_
  refine zg (λh=>?_) λh=>?_
  ·have h:M.SM=[]:=by
    rcases h with h|h
    ·cases h
    ·exact List.length_eq_zero_iff.1 (by omega)
   have e:zl M.l=0:=by unfold LogM.l;rw [h];rfl
   rw [e]
   exact ⟨rfl,rfl,z1a M hok hs⟩
  have h0:0<M.SM.length:=by
   apply Nat.pos_of_ne_zero
   intro h1
   exact h (.inr (by omega))
  refine zm ?_
  refine zb hs ?_
  refine z7q hs (xs:=M.SM.map Prod.fst) (enc:=z0l) 0 (by rw [List.length_map];exact h0) ?_ rfl rfl
  have e0:(M.SM.map Prod.fst)[0]'(by rw [List.length_map];exact h0)=M.SM[0].1:=by simp
  rw [e0]
  refine zm ?_
  have hs:=z2e (z6r (hs.pick [2]) h0)
  refine zb hs ?_
  refine wp_lt ?_
  have e:zl M.l=M.SM[0].2.s.base:=by
   obtain ⟨x,xs,hx⟩:=List.exists_cons_of_length_pos h0
   simp only [LogM.l,hx,List.map_cons,zl,List.getElem_cons_zero]
  rw [e]
  refine ⟨rfl,rfl,?_⟩
  have hs:=z4u h0 (z1s M.SM[0].2 hs)
  exact z1a M hok (hs.pick [1,1])
theorem z8z [hf:Fo l lgQ lg M r] (hlen:M.SM.length<=1000000000) (hs:Sat w l):Ret P F.a55 #[.pointer (some ⟨lg,0,none⟩)] w λvs w'=>vs=[.int .i64 (zr M.l)]/\Sat w' (lgQ lg M::r) :=
 zrj _ <| by
  unfold z02u
  obtain ⟨hok,hs⟩:=z2j (hs.perm hf.perm)
  have hl:=hs.slen M.z (xs:=M.SM.map Prod.fst) (enc:=z0l)
  rw [List.length_map] at hl
  refine z0k ?_
  refine zb hs ?_
  refine zg (λh=>?_) λh=>?_
  ·have h:M.SM=[]:=by
    rcases h with h|h
    ·cases h
    ·exact List.length_eq_zero_iff.1 (by omega)
   have e:zr M.l=0:=by unfold LogM.l;rw [h];rfl
   rw [e]
   exact ⟨rfl,rfl,z1a M hok hs⟩
  have h0:0<M.SM.length:=by
   apply Nat.pos_of_ne_zero
   intro h1
   exact h (.inr (by omega))
  have hs:=z1a M hok hs
  refine za (zgg (lg:=lg) hlen hs) λ_ w' hs=>?_
  obtain ⟨rfl,hs⟩:=hs
  refine zd ?_
  have e1:M.SM.getLast? = some (M.SM[M.SM.length-1]'(by omega)):=by
   rw [List.getLast?_eq_getElem?,List.getElem?_eq_getElem (by omega)]
  rw [e1]
  obtain ⟨-,hs⟩:=z2j hs
  have hs:=z6r (hs.pick [2]) (show M.SM.length-1<M.SM.length by omega)
  refine za (zz9 (gap:=M.gap) (a:=M.SM[M.SM.length-1].1) hs) λ_ w' hs=>?_
  obtain ⟨rfl,hs⟩:=hs
  refine zd ?_
  refine wp_lt ?_
  have e:zr M.l=(M.SM[M.SM.length-1]'(by omega)).2.s.reach:=by
   unfold LogM.l zr
   rw [z5o,e1]
   rfl
  rw [e]
  have hs:=z4u (show M.SM.length-1<M.SM.length by omega) hs
  exact ⟨rfl,rfl,z1a M hok (hs.pick [1,1])⟩
def z3n (seg:Int) (l:List SegA) (n:Nat):Bool:=match l.getLast? with
 | none=>false
 | some s=>decide (z0c s.bs=0) || decide (((s.file.length+n:Nat):Int)<=seg)
theorem z02w (n:Nat) (hn:n<=1000000000) [hf:Fo l lgQ lg M r] (hlen:M.SM.length<=1000000000) (hfl:∀ s ∈ M.l,s.file.length<=1000000000) (hs:Sat w l):Ret P F.a65 #[.pointer (some ⟨lg,0,none⟩),.int .i64 (n:Int)] w λvs w'=>vs=[.bool (z3n M.seg M.l n)]/\Sat w' (lgQ lg M::r) :=
 zqi _ _ <| by
  unfold z01x
  refine za (zgg (lg:=lg) hlen hs) λ_ w' hs=>?_
  obtain ⟨rfl,hs⟩:=hs
  refine zd ?_
  refine z07 hs λw' hs=>?_
  by_cases h0:M.SM=[]
  ·have e:z3n M.seg M.l n=false:=by unfold LogM.l z3n;rw [h0];rfl
   rw [e,h0]
   refine zoy ?_ (λh=>by cases h)
   refine z9i (0:Int) (λh=>by cases h) ?_
   refine zoy ?_ (λh=>by cases h.1)
   refine z9i (0:Int) (λh=>by cases h.1) ?_
   refine zoy ?_ (λh=>by cases h.1)
   refine z9i (0:Int) (λh=>by cases h.1) ?_
   refine wp_lt ?_
   refine zi ?_
   exact ⟨rfl,rfl,hs⟩
  have hp:=List.length_pos_iff.2 h0
  have e1:M.SM.getLast? = some (M.SM[M.SM.length-1]'(by omega)):=by
   rw [List.getLast?_eq_getElem?,List.getElem?_eq_getElem (by omega)]
  have e:z3n M.seg M.l n=(decide (z0c (M.SM[M.SM.length-1]'(by omega)).2.s.bs=0) || decide ((((M.SM[M.SM.length-1]'(by omega)).2.s.file.length+n:Nat):Int)<=M.seg)):=by
   unfold LogM.l z3n
   rw [z5o,e1]
   rfl
  have hfl':=hfl _ (List.mem_map.2 ⟨_,List.getElem_mem (show M.SM.length-1<M.SM.length by omega),rfl⟩)
  rw [e,e1]
  obtain ⟨hok,hs⟩:=z2j hs
  have hs:=z2e (z6r (hs.pick [2]) (show M.SM.length-1<M.SM.length by omega))
  refine z0k ?_
  refine zb hs ?_
  refine z0k ?_
  refine zb hs ?_
  refine z0k ?_
  refine zb hs ?_
  rw [w64 (by omega) (by omega)]
  refine wp_lt ?_
  refine zi ?_
  have hs:=z4u (show M.SM.length-1<M.SM.length by omega) (z1s (M.SM[M.SM.length-1]'(by omega)).2 hs)
  refine ⟨rfl,?_,z1a M hok (hs.pick [1,1])⟩
  rfl
theorem zwp (a:Nat) (t:SegM) {r0:List HP} [hf:Fo l lgQ lg M r0] [hf2:Fo r0 (z05 M.gap) a t r] (hlen:M.SM.length<=1000000000) (hs:Sat w l) :
  Ret P F.a70 #[.pointer (some ⟨lg,0,none⟩),.pointer (some ⟨a,0,none⟩)] w λvs w'=>∃ z:Sl,vs=[]/\Sat w' (lgQ lg { M with z:=z,SM:=M.SM++[(a,t)] }::r) :=
 zpj _ _ <| by
  unfold z022
  obtain ⟨hok,hs⟩:=z2j (hs.perm (hf.perm.trans (.cons _ hf2.perm)))
  have hl:=hs.slen M.z (xs:=M.SM.map Prod.fst) (enc:=z0l)
  refine zm ?_
  refine zb hs ?_
  refine z6a (xs:=M.SM.map Prod.fst) (enc:=z0l) (y:=a) hs (λz w' hs=>?_) rfl (by rw [List.length_map];omega)
  refine zm ?_
  refine z0f hs λw' hs=>?_
  refine ⟨rfl,z,rfl,?_⟩
  have hs:Sat w' (pt lg (.cells #[.pointer (some ⟨M.d,0,none⟩),.string M.pre,.int .i64 M.seg,.int .i64 M.gap,.slice z.a z.len z.cap] T.a28)::slc T.a17 1 z ((M.SM.map Prod.fst++[a]).flatMap z0l)::HP.all (M.SM.map λt=>z05 M.gap t.1 t.2)::z05 M.gap a t::r):=hs
  have h1:Sat w' (HP.all (((a,t)::M.SM).map λt=>z05 M.gap t.1 t.2)::pt lg (.cells #[.pointer (some ⟨M.d,0,none⟩),.string M.pre,.int .i64 M.seg,.int .i64 M.gap,.slice z.a z.len z.cap] T.a28)::slc T.a17 1 z ((M.SM.map Prod.fst++[a]).flatMap z0l)::r):=(hs.pick [3,2]).all_put
  have h2:=h1.all_perm ((List.perm_append_comm (l₁:=[(a,t)]) (l₂:=M.SM)).map λt=>z05 M.gap t.1 t.2)
  refine z1a { M with z:=z,SM:=M.SM++[(a,t)] } hok ?_
  have e:(M.SM++[(a,t)]).map Prod.fst=M.SM.map Prod.fst++[a]:=by simp
  show Sat w' (pt lg _::slc T.a17 1 z (((M.SM++[(a,t)]).map Prod.fst).flatMap z0l)::HP.all ((M.SM++[(a,t)]).map λt=>z05 M.gap t.1 t.2)::r)
  rw [e]
  exact h2.pick [1,1]
theorem zb3 [hf:Fo l lgQ lg M r] (hlen:M.SM.length<=1000000) (hs:Sat w l):Ret P F.a60 #[.pointer (some ⟨lg,0,none⟩)] w λvs w'=>∃ z:Sl,vs=[z.v]/\Sat w' (slc T.a11 1 z ((M.l.map SegA.base).flatMap z21)::lgQ lg M::r) :=
 zqt _ <| by
  unfold z00h
  obtain ⟨hok,hs⟩:=z2j (hs.perm hf.perm)
  have hl:=hs.slen M.z (xs:=M.SM.map Prod.fst) (enc:=z0l)
  rw [List.length_map] at hl
  have hll:M.l.length=M.SM.length:=List.length_map ..
  refine z0g ?_ (by simp)
  refine zm ?_
  refine zb hs ?_
  refine zp (λq w'=>∃ z:Sl,q=(z,())/\Sat w' (slc T.a11 1 z ((M.l.map SegA.base).flatMap z21)::lgQ lg M::r)) ?_ ?_
  rotate_left
  ·rintro _ w2 ⟨z,rfl,hs⟩
   exact ⟨rfl,z,rfl,hs⟩
  refine z08 (λm v w=>∃ (i:Nat) (z:Sl),v=(z,((i:Int),()))/\i<=M.SM.length/\M.SM.length-i=m/\Sat w (slc T.a11 1 z (((M.l.take i).map SegA.base).flatMap z21)::pt lg (.cells #[.pointer (some ⟨M.d,0,none⟩),.string M.pre,.int .i64 M.seg,.int .i64 M.gap,.slice M.z.a M.z.len M.z.cap] T.a28)::slc T.a17 1 M.z ((M.SM.map Prod.fst).flatMap z0l)::HP.all (M.SM.map λt=>z05 M.gap t.1 t.2)::r)) M.SM.length ⟨0,⟨none,0,0⟩,rfl,by omega,rfl,hs.slc_nil⟩ ?_
  clear hs
  rintro m _ w ⟨i,z,rfl,hi,hm,hs⟩
  refine zk ?_
  refine zg (λhc=>?_) λhc=>?_
  rotate_left
  ·refine zn (zh ⟨z,rfl,?_⟩)
   rw [List.take_of_length_le (by omega)] at hs
   exact (z1a M hok (hs.pick [1,1,1])).pick [1]
  have hil:i<M.SM.length:=by omega
  refine z1k hs (xs:=M.SM.map Prod.fst) (enc:=z0l) i (by rw [List.length_map];exact hil) ?_
  have e0:(M.SM.map Prod.fst)[i]'(by rw [List.length_map];exact hil)=M.SM[i].1:=by simp
  rw [e0]
  refine zm ?_
  have hs:=z2e (z6r (hs.pick [3]) hil)
  refine zb hs ?_
  refine z6a (xs:=(M.l.take i).map SegA.base) (enc:=z21) (y:=M.SM[i].2.s.base) hs (λz' w' hs=>?_) rfl (by rw [List.length_map,List.length_take];omega)
  rw [wS (i:=i) (by omega)]
  refine z0n (M.SM.length-(i+1)) ⟨i+1,z',rfl,by omega,rfl,?_⟩
  have e1:(M.l.take (i+1)).map SegA.base=(M.l.take i).map SegA.base++[M.SM[i].2.s.base]:=by
   rw [List.take_succ_eq_append_getElem (by omega),List.map_append]
   unfold LogM.l
   simp
  rw [e1]
  have hs:Sat w' (slc T.a11 1 z' (((M.l.take i).map SegA.base++[M.SM[i].2.s.base]).flatMap z21)::pt M.SM[i].1 _::z2k _ _::HP.all _::pt lg _::slc T.a17 1 M.z _::r):=hs
  have hs:=z4u hil (z1s M.SM[i].2 (hs.pick [1,1,1]))
  exact hs.pick [1,1,1]
end
theorem z0b.mem:∀ {n:Int} {l:List SegA},z0b n l->∀ s ∈ l,SegOk s/\n<=s.base
 | _,a::l,⟨h1,h2,h3⟩,s,hs=>by
  rcases List.mem_cons.1 hs with rfl|hs
  ·exact ⟨h2,h1⟩
  ·have:=h3.mem s hs
   exact ⟨this.1,by omega⟩
def z0h (pre:ByteArray) (l:List SegA) (D:DiskA):Int × DiskA:=match l.getLast? with
 | none=>(0,D)
 | some s=>z0x D [ze pre s.base zo]
def BatM.to (b:BatM) (n:Int):BatM:=⟨n,b.pid,b.epoch,b.seq,b.kind,b.time,b.x,b.rs⟩
def zq:Int->List BatM->Int × List BatM
 | _,[]=>(0,[])
 | n,b::bs=>if z02 (b.to n)≠0 then (z02 (b.to n),[]) else if (zq (n+z01 b) bs).1≠0 then ((zq (n+z01 b) bs).1,[]) else (0,b.to n::(zq (n+z01 b) bs).2)
def frP (p:Sl × List UInt8):HP:=slc T.a34 1 p.1 (p.2.flatMap zf)
theorem z74:∀ {bs:List BatM} {n:Int},(zq n bs).1=0->(zq n bs).2.length=bs.length/\(∀ b ∈ (zq n bs).2,z02 b=0/\∃ c ∈ bs,b.x=c.x/\b.rs=c.rs)/\∀ b,(zq n bs).2.head? = some b->b.base=n
 | [],n,_=>⟨rfl,(λ_ h=>by cases h),(λ_ h=>by cases h)⟩
 | b::bs,n,h=>by
  unfold zq at h ⊢
  by_cases h1:z02 (b.to n)≠0
  ·rw [if_pos h1] at h;exact absurd h h1
  rw [if_neg h1] at h ⊢
  by_cases h2:(zq (n+z01 b) bs).1≠0
  ·rw [if_pos h2] at h;exact absurd h h2
  rw [if_neg h2]
  obtain ⟨i1,i2,-⟩:=z74 (Decidable.not_not.1 h2)
  refine ⟨by simp [i1],λc hc=>?_,λc hc=>?_⟩
  ·rcases List.mem_cons.1 hc with rfl|hc
   ·exact ⟨Decidable.not_not.1 h1,b,List.mem_cons_self ..,rfl,rfl⟩
   ·obtain ⟨v,d,hd,e⟩:=i2 c hc
    exact ⟨v,d,List.mem_cons_of_mem _ hd,e⟩
  ·simp at hc;subst hc;rfl
theorem z8x:∀ {bs:List BatM},(∀ b ∈ bs,z02 b=0)->(bs.flatMap frL).length<=bs.length*262152
 | [],_=>by simp
 | b::bs,h=>by
  have h1:=z3p (h b (List.mem_cons_self ..))
  have h2:=z45 (h b (List.mem_cons_self ..))
  have h3:=z8x λx hx=>h x (List.mem_cons_of_mem _ hx)
  rw [List.flatMap_cons,List.length_append,List.length_cons]
  omega
section
variable {w:World} {l r:List HP} {lg:Nat} {M:LogM} {D:DiskA} {gap:Int} {a:Nat} {t:SegM}
theorem zco {fs:List (Sl × List UInt8)} {p:Sl × List UInt8} (hp:p ∈ fs) [hf:Foc l (HP.all (fs.map frP)) r]:FocR l p.1 1 (p.2.flatMap zf):=⟨λw hs=>by
 obtain ⟨L,hs⟩:=(hs.perm hf.perm).all_mem hp
 exact Sat.rd hs⟩
theorem zkt:∀ {fs gs:List (Sl × List UInt8)},(∀ p ∈ gs,FocR l p.1 1 (p.2.flatMap zf))->z9k l (gs.map Prod.fst) (gs.map Prod.snd)
 | _,[],_=>trivial
 | fs,p::gs,h=>⟨(h p (List.mem_cons_self ..)).rd,zkt (fs:=fs) λq hq=>h q (List.mem_cons_of_mem _ hq)⟩
theorem znl {r1:List HP} [hf:Fo l lgQ lg M r1] [hf2:Fo r1 dk M.d D r] (hlen:M.SM.length<=1000000000) (hok:z0b 0 M.l) (hs:Sat w l) :
  Ret P F.a61 #[.pointer (some ⟨lg,0,none⟩)] w λvs w'=>vs=[.int .i64 (z0h M.pre M.l D).1]/\Sat w' (lgQ lg M::dk M.d (z0h M.pre M.l D).2::r) :=
 zro _ <| by
  unfold z01q
  have hs:=hs.perm (hf.perm.trans (.cons _ hf2.perm))
  refine z0g ?_ (by simp)
  refine za (zgg (lg:=lg) hlen hs) λ_ w' hs=>?_
  obtain ⟨rfl,hs⟩:=hs
  refine zd ?_
  by_cases h0:M.SM=[]
  ·have e:z0h M.pre M.l D=(0,D):=by unfold LogM.l z0h;rw [h0];rfl
   rw [e,h0]
   refine z0g ?_ (by simp [zuk])
   exact ⟨rfl,rfl,hs⟩
  have hp:=List.length_pos_iff.2 h0
  have hsz:M.SM.length-1<M.SM.length:=by omega
  have e1:M.SM.getLast? = some (M.SM[M.SM.length-1]'hsz):=by
   rw [List.getLast?_eq_getElem?,List.getElem?_eq_getElem (by omega)]
  have e:z0h M.pre M.l D=z0x D [ze M.pre (M.SM[M.SM.length-1]'hsz).2.s.base zo]:=by
   unfold LogM.l z0h
   rw [z5o,e1]
   rfl
  have hmem:(M.SM[M.SM.length-1]'hsz).2.s ∈ M.l:=List.mem_map.2 ⟨_,List.getElem_mem hsz,rfl⟩
  have hbase:=(hok.mem _ hmem).1.base
  rw [e,e1]
  obtain ⟨hokm,hs⟩:=z2j hs
  have hpre:M.pre.size<=100:=by
   have:=hokm.pre
   unfold z42 at this
   rw [Bool.and_eq_true,decide_eq_true_eq] at this
   omega
  refine z17 ?_ (by simp [zuk])
  have hs:=z2e (z6r (hs.pick [2]) hsz)
  refine zp (λq w'=>q=((z0x D [ze M.pre (M.SM[M.SM.length-1]'hsz).2.s.base zo]).1,())/\Sat w' (lgQ lg M::dk M.d (z0x D [ze M.pre (M.SM[M.SM.length-1]'hsz).2.s.base zo]).2::r)) ?_ ?_
  rotate_left
  ·rintro _ w2 ⟨rfl,hs⟩
   exact ⟨rfl,rfl,hs⟩
  refine z07 hs λw' hs=>?_
  refine zm ?_
  refine z1m hs ?_
  refine zm ?_
  refine zb hs ?_
  refine za (z5l (lg:=lg) _ (by omega) (ByteArray.mk #[46,108,111,103]) (by decide) M.pre hpre hs) λ_ w' hs=>?_
  obtain ⟨rfl,hs⟩:=hs
  refine zd ?_ (by first|trivial|(repeat (first|exact trivial|exact λ_=>z0i hs|exact λ_=>z0o hs|refine And.intro ?_ ?_)))
  refine z6e hs (enc:=z22) [ze M.pre (M.SM[M.SM.length-1]'hsz).2.s.base zo] λy w' hs=>⟨(by first|trivial|(repeat (first|exact trivial|exact λ_=>z0i hs|exact λ_=>z0o hs|refine And.intro ?_ ?_))),?_⟩
  refine zi ?_
  refine za (zsw (d:=M.d) y [ze M.pre (M.SM[M.SM.length-1]'hsz).2.s.base zo] (by show 1<=100000;omega) hs) λ_ w' hs=>?_
  obtain ⟨rfl,hs⟩:=hs
  refine zd ?_
  refine wp_lt ?_
  refine zi ?_
  refine zh ⟨rfl,?_⟩
  replace hs:Sat _ (z05 M.gap _ _::_):=z1s (M.SM[M.SM.length-1]'hsz).2 (hs.pick [2,2])
  have hs:=z4u hsz (hs.pick [0,2])
  exact (z1a M hokm (hs.pick [3,3])).sub
theorem zvz (x:Sl) (bs:List BatM) [hf:Fo l lgQ lg M r] (hlen:M.SM.length<=1000000000) (hbl:bs.length<=100000) (hx:FocR r x 7 (bs.flatMap zj)) (hbs:∀ b ∈ bs,FocR r b.x 4 (b.rs.flatMap zx)) (hs:Sat w l) :
  Ret P F.a69 #[.pointer (some ⟨lg,0,none⟩),x.v] w λvs w' =>
   ((zq (zr M.l) bs).1≠0/\vs=[.slice none 0 0,.slice none 0 0,.int .i64 (zq (zr M.l) bs).1]/\Sat w' (lgQ lg M::r)) \/
   ((zq (zr M.l) bs).1=0/\∃ (z1 z2:Sl) (fs:List (Sl × List UInt8)),vs=[z1.v,z2.v,.int .i64 0]/\fs.map Prod.snd=(zq (zr M.l) bs).2.map frL /\
    Sat w' (slc T.a1 7 z1 ((zq (zr M.l) bs).2.flatMap zj)::slc T.a26 1 z2 ((fs.map Prod.fst).flatMap z0d)::HP.all (fs.map frP)::lgQ lg M::r)) :=
 zo8 _ x <| by
  unfold z00y
  have hs:=hs.perm hf.perm
  have hl:=hs.slen x (xs:=bs) (enc:=zj)
  refine za (z8z (lg:=lg) hlen hs) λ_ w' hs=>?_
  obtain ⟨rfl,hs⟩:=hs
  refine zd ?_
  refine wp_lt ?_
  generalize zr M.l=n0
  refine zp (λq w'=>∃ (z1 z2:Sl) (fs:List (Sl × List UInt8)),(zq n0 bs).1=0/\q=(z1,z2,())/\fs.map Prod.snd=(zq n0 bs).2.map frL /\
    Sat w' (slc T.a1 7 z1 ((zq n0 bs).2.flatMap zj)::slc T.a26 1 z2 ((fs.map Prod.fst).flatMap z0d)::HP.all (fs.map frP)::lgQ lg M::r)) ?_ ?_
  rotate_left
  ·rintro _ w2 ⟨z1,z2,fs,h1,rfl,h2,hs⟩
   exact ⟨rfl,.inr ⟨h1,z1,z2,fs,rfl,h2,hs⟩⟩
  have h0:Sat w' (slc T.a1 7 ⟨none,0,0⟩ (([]:List BatM).flatMap zj)::slc T.a26 1 ⟨none,0,0⟩ (((([]:List (Sl × List UInt8))).map Prod.fst).flatMap z0d)::HP.all ((([]:List (Sl × List UInt8))).map frP)::lgQ lg M::r):=(Sat.all_nil hs).slc_nil.slc_nil
  refine z08 (λm v w=>∃ (i:Nat) (n:Int) (done:List BatM) (z1 z2:Sl) (fs:List (Sl × List UInt8)),v=(n,z1,z2,(i:Int),())/\i<=bs.length/\bs.length-i=m/\done.length=i/\fs.length=i /\
   zq n0 bs=(if (zq n (bs.drop i)).1≠0 then ((zq n (bs.drop i)).1,[]) else (0,done++(zq n (bs.drop i)).2))/\fs.map Prod.snd=done.map frL /\
   Sat w (slc T.a1 7 z1 (done.flatMap zj)::slc T.a26 1 z2 ((fs.map Prod.fst).flatMap z0d)::HP.all (fs.map frP)::lgQ lg M::r)) bs.length
   ⟨0,n0,[],⟨none,0,0⟩,⟨none,0,0⟩,[],rfl,by omega,rfl,rfl,rfl,?_,rfl,h0⟩ ?_
  ·rw [List.drop_zero,List.nil_append]
   by_cases h:(zq n0 bs).1≠0
   ·rw [if_pos h]
    have:∀ {bs:List BatM} {n:Int},(zq n bs).1≠0->(zq n bs).2=[]:=by
     intro bs
     induction bs with
     | nil=>intro n h;exact absurd rfl h
     | cons b bs ih =>
      intro n h
      unfold zq at h ⊢
      split
      ·rfl
      ·split
       ·rfl
       ·rename_i h1 h2
        rw [if_neg h1,if_neg h2] at h
        exact absurd rfl h
    rw [<- this h]
   ·rw [if_neg h]
    have h:=Decidable.not_not.1 h
    rw [<- h]
  clear hs h0
  rintro m _ w ⟨i,n,done,z1,z2,fs,rfl,hi,hm,hdl,hfl,hpl,hfs,hs⟩
  refine zk ?_
  refine zg (λhc=>?_) λhc=>?_
  rotate_left
  ·have e:bs.drop i=[]:=List.drop_eq_nil_of_le (by omega)
   rw [e] at hpl
   simp only [zq,List.append_nil] at hpl
   have hpl:zq n0 bs=(0,done):=by rw [hpl];rfl
   refine zn (zh ⟨z1,z2,fs,by rw [hpl],rfl,by rw [hpl];exact hfs,?_⟩)
   rw [hpl]
   exact hs
  have hil:i<bs.length:=by omega
  have hdrop:bs.drop i=bs[i]::bs.drop (i+1):=List.drop_eq_getElem_cons hil
  rw [hdrop] at hpl
  have hR:=hbs bs[i] (List.getElem_mem hil)
  refine z1p hs (xs:=bs) (enc:=zj) i hil ?_
  refine zy hs λa w' hs=>?_
  refine z03 hs λw' hs=>?_
  refine z0f hs λw' hs=>?_
  refine zt hs ?_
  have hRt:FocR r (bs[i].to n).x 4 ((bs[i].to n).rs.flatMap zx):=hR
  refine za (zks (bs[i].to n) hs) λ_ w' hs=>?_
  have hunf:zq n (bs[i]::bs.drop (i+1))=if z02 (bs[i].to n)≠0 then (z02 (bs[i].to n),[]) else if (zq (n+z01 bs[i]) (bs.drop (i+1))).1≠0 then ((zq (n+z01 bs[i]) (bs.drop (i+1))).1,[]) else (0,bs[i].to n::(zq (n+z01 bs[i]) (bs.drop (i+1))).2):=rfl
  rcases hs with ⟨hv,rfl,hs⟩|⟨hv,y,rfl,hs⟩
  ·refine zd ?_
   refine wp_lt ?_
   refine z17 ?_ hv
   refine wp_lt ?_
   rw [if_pos hv] at hunf
   have hpl:zq n0 bs=(z02 (bs[i].to n),[]):=by rw [hpl,hunf,if_pos hv]
   refine zn (zn ⟨rfl,.inl ⟨by rw [hpl];exact hv,by rw [hpl],hs.sub⟩⟩)
  ·refine zd ?_
   refine wp_lt ?_
   refine z0g ?_ (by simp)
   rw [if_neg (by rw [hv];simp)] at hunf
   have hbl2:=z45 hv
   have hfrl:=z3p hv
   refine zt hs ?_
   refine z6a (xs:=done) (enc:=zj) (y:=bs[i].to n) hs (λz1' w' hs=>?_) rfl (by omega)
   refine z6f hs (enc:=z0d) [y] λy2 w' hs=>?_
   refine za (zjs y2 y (z24 (bs[i].to n)) (by omega) hs) λ_ w' hs=>?_
   obtain ⟨y3,rfl,hs⟩:=hs
   refine zd ?_
   refine z6a (xs:=fs.map Prod.fst) (enc:=z0d) (y:=y3) hs (λz2' w' hs=>?_) rfl (by rw [List.length_map];omega)
   refine zt hs ?_
   refine za (zd9 (bs[i].to n) hs) λ_ w' hs=>?_
   obtain ⟨rfl,hs⟩:=hs
   refine zd ?_
   refine wp_lt ?_
   rw [wS (i:=i) (by omega)]
   have en:z3i (bs[i].to n)=n+z01 bs[i]:=by
    unfold z3i
    rw [if_neg (by rw [hv];simp)]
    rfl
   rw [en]
   refine z0n (bs.length-(i+1)) ⟨i+1,n+z01 bs[i],done++[bs[i].to n],z1',z2',fs++[(y3,frL (bs[i].to n))],rfl,by omega,rfl,by simp [hdl],by simp [hfl],?_,by simp [hfs],?_⟩
   ·rw [hpl,hunf]
    by_cases h2:(zq (n+z01 bs[i]) (bs.drop (i+1))).1≠0
    ·rw [if_pos h2,if_pos h2,if_pos h2]
    ·rw [if_neg h2,if_neg h2,if_neg (by simp),List.append_assoc]
     rfl
   ·have e2:(fs++[(y3,frL (bs[i].to n))]).map Prod.fst=fs.map Prod.fst++[y3]:=by simp
    rw [e2]
    have hs:Sat w' (slc T.a26 1 z2' ((fs.map Prod.fst++[y3]).flatMap z0d)::slc T.a34 1 y3 ((frL (bs[i].to n)).flatMap zf)::slc T.a26 1 y2 (([y]:List Sl).flatMap z0d)::slc T.a1 7 z1' ((done++[bs[i].to n]).flatMap zj)::_):=hs
    have hs:Sat w' (frP (y3,frL (bs[i].to n))::HP.all (fs.map frP)::slc T.a1 7 z1' ((done++[bs[i].to n]).flatMap zj)::slc T.a26 1 z2' ((fs.map Prod.fst++[y3]).flatMap z0d)::lgQ lg M::r):=by
     have h3:Sat w' (slc T.a34 1 y3 ((frL (bs[i].to n)).flatMap zf)::HP.all (fs.map frP)::slc T.a1 7 z1' ((done++[bs[i].to n]).flatMap zj)::slc T.a26 1 z2' ((fs.map Prod.fst++[y3]).flatMap z0d)::lgQ lg M::r):=hs.sub
     exact h3
    have h4:Sat w' (HP.all (((y3,frL (bs[i].to n))::fs).map frP)::_):=hs.all_put
    have h5:=h4.all_perm ((List.perm_append_comm (l₁:=[(y3,frL (bs[i].to n))]) (l₂:=fs)).map frP)
    exact h5.pick [1,1]
end
def z5g (l:List SegA):Int:=match l.getLast? with
 | none=>0
 | some s=>s.base
def z5b (l:List SegA) (bs:List BatM):List SegA:=match l.getLast? with
 | none=>l
 | some s=>l.dropLast++[s.add bs]
def z0j (pre:ByteArray) (seg:Int) (l:List SegA) (D:DiskA) (bs:List BatM):(Int × Int) × List SegA × DiskA :=
 if bs=[] then ((0,3),l,D) else
 if (zq (zr l) bs).1≠0 then ((0,(zq (zr l) bs).1),l,D) else
 if z3n seg l ((zq (zr l) bs).2.flatMap frL).length then
  if (zw D (ze pre (z5g l) zo) ((zq (zr l) bs).2.flatMap frL)).1≠0 then ((0,(zw D (ze pre (z5g l) zo) ((zq (zr l) bs).2.flatMap frL)).1),l,(zw D (ze pre (z5g l) zo) ((zq (zr l) bs).2.flatMap frL)).2)
  else ((zr l,0),z5b l (zq (zr l) bs).2,(zw D (ze pre (z5g l) zo) ((zq (zr l) bs).2.flatMap frL)).2)
 else
  if (z0h pre l D).1≠0 then ((0,(z0h pre l D).1),l,(z0h pre l D).2) else
  if (zw (z0h pre l D).2 (ze pre (zr l) zo) (shL (zr l) 0++(zq (zr l) bs).2.flatMap frL)).1≠0 then ((0,(zw (z0h pre l D).2 (ze pre (zr l) zo) (shL (zr l) 0++(zq (zr l) bs).2.flatMap frL)).1),l,(zw (z0h pre l D).2 (ze pre (zr l) zo) (shL (zr l) 0++(zq (zr l) bs).2.flatMap frL)).2)
  else ((zr l,0),l++[(⟨zr l,0,[]⟩:SegA).add (zq (zr l) bs).2],(zw (z0h pre l D).2 (ze pre (zr l) zo) (shL (zr l) 0++(zq (zr l) bs).2.flatMap frL)).2)
def LogA.set (A:LogA) (l:List SegA):LogA:=⟨A.d,A.pre,A.seg,A.gap,l⟩
theorem z0b.next:∀ {n:Int} {l:List SegA},0<=n->z0b n l->0<=zr l/\zr l<=1099511627777
 | _,[],_,_=>⟨by decide,by decide⟩
 | n,[s],hn,⟨h1,h2,_⟩=>by
  have:=z5f h2
  have:=h2.base
  show 0<=s.reach/\s.reach<=_
  omega
 | n,s::t::l,hn,⟨h1,h2,h3⟩=>by
  have:=h2.base
  have:=z0b.next (by omega) h3
  exact this
instance:EncF zj 0 (.int .i64) (λb=>b.base):=⟨λ_=>rfl⟩
section
variable {w:World} {l r:List HP} {lg:Nat} {M:LogM} {A:LogA} {D:DiskA} {gap:Int} {a:Nat} {t:SegM}
theorem zbj {SM0:List (Nat × SegM)} (h:M.SM=SM0++[(a,t)]) (hs:Sat w (lgQ lg M::l)):okM M.gap M.seg M.pre /\
  Sat w (z05 M.gap a t::pt lg (.cells #[.pointer (some ⟨M.d,0,none⟩),.string M.pre,.int .i64 M.seg,.int .i64 M.gap,.slice M.z.a M.z.len M.z.cap] T.a28)::slc T.a17 1 M.z ((SM0.map Prod.fst++[a]).flatMap z0l)::HP.all (SM0.map λt=>z05 M.gap t.1 t.2)::l):=by
 obtain ⟨hok,hs⟩:=z2j hs
 rw [h] at hs
 have h1:=(hs.pick [2]).all_perm ((List.perm_append_comm (l₁:=SM0) (l₂:=[(a,t)])).map λt=>z05 M.gap t.1 t.2)
 have h2:Sat w (z05 M.gap a t::HP.all (SM0.map λt=>z05 M.gap t.1 t.2)::_):=h1.all_cons
 rw [List.map_append] at h2
 exact ⟨hok,h2.pick [0,1,1]⟩
theorem zaf (M:LogM) {SM0:List (Nat × SegM)} (hok:okM M.gap M.seg M.pre) (hs:Sat w (z05 M.gap a t::pt lg (.cells #[.pointer (some ⟨M.d,0,none⟩),.string M.pre,.int .i64 M.seg,.int .i64 M.gap,.slice M.z.a M.z.len M.z.cap] T.a28)::slc T.a17 1 M.z ((SM0.map Prod.fst++[a]).flatMap z0l)::HP.all (SM0.map λt=>z05 M.gap t.1 t.2)::l)) :
  Sat w (lgQ lg { M with SM:=SM0++[(a,t)] }::l):=by
 have h1:Sat w (HP.all (((a,t)::SM0).map λt=>z05 M.gap t.1 t.2)::_):=(hs.pick [0,2]).all_put
 have h2:=h1.all_perm ((List.perm_append_comm (l₁:=[(a,t)]) (l₂:=SM0)).map λt=>z05 M.gap t.1 t.2)
 refine z1a { M with SM:=SM0++[(a,t)] } hok ?_
 show Sat w (pt lg _::slc T.a17 1 M.z (((SM0++[(a,t)]).map Prod.fst).flatMap z0l)::HP.all ((SM0++[(a,t)]).map λt=>z05 M.gap t.1 t.2)::l)
 rw [List.map_append]
 exact h2.pick [1,1]
theorem z2d {α:Type} {l:List α} (h:l≠[]):∃ (l0:List α) (x:α),l=l0++[x]:=⟨l.dropLast,l.getLast h,(List.dropLast_concat_getLast h).symm⟩
theorem zek {fs:List (Sl × List UInt8)} (h:∀ p ∈ fs,FocR l p.1 1 (p.2.flatMap zf)):z9k l (fs.map Prod.fst) (fs.map Prod.snd):=zkt (fs:=fs) h
theorem okM.size {g s:Int} {p:ByteArray} (h:okM g s p):p.size<=100:=by
 have:=h.pre
 unfold z42 at this
 rw [Bool.and_eq_true,decide_eq_true_eq] at this
 omega
set_option maxHeartbeats 1000000 in
theorem zi9 (x:Sl) (bs:List BatM) {r1:List HP} [hf:Fo l lgP lg A r1] [hf2:Fo r1 dk A.d D r] (hlen:A.l.length<=1000000) (hok:z0b 0 A.l) (hfl:∀ s ∈ A.l,s.file.length<=500000000) (hbl:bs.length<=900)
  (hx:FocR r x 7 (bs.flatMap zj)) (hbs:∀ b ∈ bs,FocR r b.x 4 (b.rs.flatMap zx)) (hs:Sat w l) :
  Ret P F.a53 #[.pointer (some ⟨lg,0,none⟩),x.v] w λvs w'=>vs=[.int .i64 (z0j A.pre A.seg A.l D bs).1.1,.int .i64 (z0j A.pre A.seg A.l D bs).1.2] /\
   Sat w' (lgP lg (A.set (z0j A.pre A.seg A.l D bs).2.1)::dk A.d (z0j A.pre A.seg A.l D bs).2.2::r) :=
 zgf _ x <| by
  unfold zvg
  have hs:=hs.perm (hf.perm.trans (.cons _ hf2.perm))
  clear hf hf2
  obtain ⟨M,rfl,hs⟩:=z4w hs
  have hlxs:=hs.slen x (xs:=bs) (enc:=zj)
  have hMl:M.A.l=M.l:=rfl
  have hMpre:M.A.pre=M.pre:=rfl
  have hMseg:M.A.seg=M.seg:=rfl
  have hMd:M.A.d=M.d:=rfl
  rw [hMl] at hlen hok hfl ⊢
  rw [hMpre,hMseg,hMd]
  rw [hMd] at hs
  have hll:M.l.length=M.SM.length:=List.length_map ..
  have hnx:=hok.next (Int.le_refl 0)
  have hsame:∀ {w:World} {D':DiskA},Sat w (lgQ lg M::dk M.d D'::r)->Sat w (lgP lg (M.A.set M.l)::dk M.d D'::r):=λhs=>z2w M hs
  unfold z0j
  refine z0g ?_ (by simp)
  refine zg (λh=>?_) λh=>?_
  ·have:bs=[]:=List.length_eq_zero_iff.1 (by omega)
   rw [if_pos this]
   exact ⟨rfl,rfl,hsame hs⟩
  rw [if_neg (by rintro rfl;simp at hlxs;omega)]
  have hx':FocR (dk M.d D::r) x 7 (bs.flatMap zj):=inferInstance
  refine za (zvz (lg:=lg) x bs (by omega) (by omega) inferInstance (λb hb=>by have:=hbs b hb;infer_instance) hs) λ_ w' hs=>?_
  have hplo:=z74 (bs:=bs) (n:=zr M.l)
  rcases hs with ⟨he,rfl,hs⟩|⟨he,z1,z2,fs,rfl,hfs,hs⟩
  ·refine zd ?_
   refine wp_lt ?_
   refine z17 ?_ he
   refine wp_lt ?_
   rw [if_pos he]
   exact ⟨rfl,rfl,hsame hs⟩
  refine zd ?_
  refine wp_lt ?_
  refine z0g ?_ (by simp)
  rw [if_neg (by rw [he];simp)]
  obtain ⟨hp1,hp2,hp3⟩:=hplo he
  have hbl0:0<bs.length:=by
   apply Nat.pos_of_ne_zero
   intro h0
   rw [h0] at hlxs
   omega
  generalize hn0:zr M.l=n0 at *
  generalize hPL:zq n0 bs=PL at *
  obtain ⟨e0,q⟩:=PL
  have he:e0=0:=he
  subst he
  dsimp only at hp1 hp2 hp3 hfs hs ⊢
  have hsum:=z8x λb hb=>(hp2 b hb).1
  have hfsl:fs.length=q.length:=by have:=congrArg List.length hfs;simpa using this
  have hfl1:=hs.slen z2 (xs:=fs.map Prod.fst) (enc:=z0d)
  rw [List.length_map] at hfl1
  have hfget:∀ (i:Nat) (h:i<fs.length),fs[i].2=frL (q[i]'(by omega)):=λi h=>by
   have:=List.getElem_of_eq hfs (i:=i) (by rw [List.length_map];exact h)
   simpa using this
  have hfsum:∀ i,((q.take i).flatMap frL).length<=(q.flatMap frL).length:=λi=>by
   have:(q.flatMap frL)=(q.take i).flatMap frL++(q.drop i).flatMap frL:=by rw [<- List.flatMap_append,List.take_append_drop]
   rw [this,List.length_append];omega
  refine zp (λv w'=>v=(((q.flatMap frL).length:Int),())/\Sat w' (slc T.a1 7 z1 (q.flatMap zj)::slc T.a26 1 z2 ((fs.map Prod.fst).flatMap z0d)::HP.all (fs.map frP)::lgQ lg M::dk M.d D::r)) ?_ ?_
  ·refine z08 (λm v w=>∃ i:Nat,v=((((q.take i).flatMap frL).length:Int),((i:Int),()))/\i<=q.length/\q.length-i=m/\Sat w (slc T.a1 7 z1 (q.flatMap zj)::slc T.a26 1 z2 ((fs.map Prod.fst).flatMap z0d)::HP.all (fs.map frP)::lgQ lg M::dk M.d D::r)) q.length ⟨0,rfl,by omega,rfl,hs⟩ ?_
   clear hs
   rintro m _ w ⟨i,rfl,hi,hm,hs⟩
   refine zk ?_
   refine zg (λhc=>?_) λhc=>?_
   rotate_left
   ·refine zn (zh ⟨?_,hs⟩)
    rw [List.take_of_length_le (by omega)]
   have hil:i<q.length:=by omega
   have hil2:i<fs.length:=by omega
   refine z1k hs (xs:=fs.map Prod.fst) (enc:=z0d) i (by rw [List.length_map];omega) ?_
   have e1:(fs.map Prod.fst)[i]'(by rw [List.length_map];omega)=fs[i].1:=by simp
   rw [e1]
   have hR:FocR (HP.all (fs.map frP)::lgQ lg M::dk M.d D::r) fs[i].1 1 (fs[i].2.flatMap zf):=zco (List.getElem_mem hil2)
   have hl2:=hs.slen fs[i].1 (xs:=fs[i].2) (enc:=zf)
   rw [hfget i hil2] at hl2
   have hfi:((q.take (i+1)).flatMap frL).length=((q.take i).flatMap frL).length+(frL q[i]).length:=by
    rw [List.take_succ_eq_append_getElem hil,List.flatMap_append,List.length_append];simp
   have:=hfsum (i+1)
   rw [hl2,w64 (by omega) (by omega)]
   refine wp_lt ?_
   rw [wS (i:=i) (by omega)]
   have ec:(((q.take i).flatMap frL).length:Int)+((frL q[i]).length:Nat)=(((q.take (i+1)).flatMap frL).length:Int):=by rw [hfi];omega
   rw [ec]
   exact z0n (q.length-(i+1)) ⟨i+1,rfl,by omega,rfl,hs⟩
  clear hs
  rintro _ w ⟨rfl,hs⟩
  refine zk ?_
  refine za (zgg (lg:=lg) (by omega) hs) λ_ w' hs=>?_
  obtain ⟨rfl,hs⟩:=hs
  refine zd ?_
  refine za (z02w (lg:=lg) (q.flatMap frL).length (by omega) (by omega) (λs hs'=>by have:=hfl s hs';omega) hs) λ_ w' hs=>?_
  obtain ⟨rfl,hs⟩:=hs
  refine zd ?_
  generalize hF:q.flatMap frL=Fr at *
  have hbsl:fs.map Prod.snd=q.map frL:=hfs
  have hflat:(fs.map Prod.snd).flatten=Fr:=by rw [hfs,<- hF,List.flatMap]
  have hlbound:∀ p ∈ fs,p.2.length<=262152:=λp hp=>by
   obtain ⟨i,hi,rfl⟩:=List.mem_iff_getElem.1 hp
   rw [hfget i hi]
   have:=z3p (hp2 _ (List.getElem_mem (show i<q.length by omega))).1
   have:=z45 (hp2 _ (List.getElem_mem (show i<q.length by omega))).1
   omega
  refine zp (λv w'=>∃ (M1:LogM) (SM0:List (Nat × SegM)) (a:Nat) (t:SegM) (D1:DiskA),v=(some ⟨a,0,none⟩,())/\M1.SM=SM0++[(a,t)]/\t.s.file.length<=600000000 /\
    (if z3n M.seg M.l Fr.length then
     if (zw D (ze M.pre (z5g M.l) zo) Fr).1≠0 then ((0,(zw D (ze M.pre (z5g M.l) zo) Fr).1),M.l,(zw D (ze M.pre (z5g M.l) zo) Fr).2)
     else ((n0,(0:Int)),z5b M.l q,(zw D (ze M.pre (z5g M.l) zo) Fr).2)
    else
     if (z0h M.pre M.l D).1≠0 then ((0,(z0h M.pre M.l D).1),M.l,(z0h M.pre M.l D).2) else
     if (zw (z0h M.pre M.l D).2 (ze M.pre n0 zo) (shL n0 0++Fr)).1≠0 then ((0,(zw (z0h M.pre M.l D).2 (ze M.pre n0 zo) (shL n0 0++Fr)).1),M.l,(zw (z0h M.pre M.l D).2 (ze M.pre n0 zo) (shL n0 0++Fr)).2)
     else ((n0,0),M.l++[(⟨n0,0,[]⟩:SegA).add q],(zw (z0h M.pre M.l D).2 (ze M.pre n0 zo) (shL n0 0++Fr)).2))=((n0,0),(SM0.map λt=>t.2.s)++[t.s.add q],D1) /\
    (M1.d=M.d/\M1.pre=M.pre/\M1.seg=M.seg/\M1.gap=M.gap) /\
    Sat w' (lgQ lg M1::dk M.d D1::slc T.a1 7 z1 (q.flatMap zj)::slc T.a26 1 z2 ((fs.map Prod.fst).flatMap z0d)::HP.all (fs.map frP)::r)) ?_ ?_
  ·refine zg (λhr=>?_) λhr=>?_
   ·
    have hr:z3n M.seg M.l Fr.length=false:=by simpa using hr
    rw [if_neg (by rw [hr];simp)]
    have hs:Sat w' (lgQ lg M::slc T.a1 7 z1 (q.flatMap zj)::slc T.a26 1 z2 ((fs.map Prod.fst).flatMap z0d)::HP.all (fs.map frP)::dk M.d D::r):=hs
    refine za (znl (lg:=lg) (D:=D) (by omega) hok hs) λ_ w' hs=>?_
    obtain ⟨rfl,hs⟩:=hs
    refine zd ?_
    refine wp_lt ?_
    refine zg (λh2=>?_) λh2=>?_
    ·refine wp_lt ?_
     rw [if_pos h2]
     refine zn ⟨rfl,rfl,hsame hs.sub⟩
    rw [if_neg h2]
    generalize (z0h M.pre M.l D).2=D1 at *
    refine za (z8z (lg:=lg) (by omega) hs) λ_ w' hs=>?_
    obtain ⟨rfl,hs⟩:=hs
    refine zd ?_
    rw [hn0]
    refine za (zed (lg:=lg) n0 0 (by omega) (by omega) hs) λ_ w' hs=>?_
    obtain ⟨a,ix,rfl,hs⟩:=hs
    refine zd ?_
    have hshl:=z5k n0 0
    refine zp (λv w'=>v=((zw D1 (ze M.pre n0 zo) (shL n0 0++Fr)).1,())/\Sat w' (z05 M.gap a ⟨ix,⟨n0,0,[]⟩⟩::lgQ lg M::dk M.d (zw D1 (ze M.pre n0 zo) (shL n0 0++Fr)).2::slc T.a1 7 z1 (q.flatMap zj)::slc T.a26 1 z2 ((fs.map Prod.fst).flatMap z0d)::HP.all (fs.map frP)::r)) ?_ ?_
    ·obtain ⟨hokm,hs⟩:=z2j (hs.pick [1])
     have hs:=z2e (hs.pick [3])
     refine z07 hs λw' hs=>?_
     refine zm ?_
     refine z1m hs ?_
     refine zm ?_
     refine zb hs ?_
     refine zm ?_
     refine z1m hs ?_
     refine za (z5l (lg:=lg) n0 (by omega) (ByteArray.mk #[46,108,111,103]) (by decide) M.pre hokm.size hs) λ_ w' hs=>?_
     obtain ⟨rfl,hs⟩:=hs
     refine zd ?_ (by first|trivial|(repeat (first|exact trivial|exact λ_=>z0i hs|exact λ_=>z0o hs|refine And.intro ?_ ?_)))
     refine za (zfj n0 0 (by omega) (by omega) hs) λ_ w' hs=>?_
     obtain ⟨y,rfl,hs⟩:=hs
     refine zd ?_ (by first|trivial|(repeat (first|exact trivial|exact λ_=>z0i hs|exact λ_=>z0o hs|refine And.intro ?_ ?_)))
     refine z6e hs (enc:=z0d) [y] λy2 w' hs=>⟨(by first|trivial|(repeat (first|exact trivial|exact λ_=>z0i hs|exact λ_=>z0o hs|refine And.intro ?_ ?_))),?_⟩
     refine zo5 (xs:=[y]) (ys:=fs.map Prod.fst) (enc:=z0d) hs (λy3 w' hs=>⟨(by first|trivial|(repeat (first|exact trivial|exact λ_=>z0i hs|exact λ_=>z0o hs|refine And.intro ?_ ?_))),?_⟩) (by rw [List.length_map];simp only [List.length_cons,List.length_nil];omega)
     refine zi ?_
     have hs:Sat w' (dk M.d D1::slc T.a26 1 y3 (([y]++fs.map Prod.fst).flatMap z0d)::slc T.a34 1 y ((shL n0 0).flatMap zf)::HP.all (fs.map frP)::pt a (.cells #[.pointer (some ⟨ix,0,none⟩),.int .i64 n0,.int .i64 0,.int .i64 (z0c []),.int .i64 (z1i (-1) []),.int .i64 ((SegA.file ⟨n0,0,[]⟩).length:Nat)] T.a29)::z2k ix ((SegA.mk n0 0 []).idx M.gap)::pt lg (.cells #[.pointer (some ⟨M.d,0,none⟩),.string M.pre,.int .i64 M.seg,.int .i64 M.gap,.slice M.z.a M.z.len M.z.cap] T.a28)::slc T.a17 1 M.z ((M.SM.map Prod.fst).flatMap z0l)::HP.all (M.SM.map λt=>z05 M.gap t.1 t.2)::slc T.a1 7 z1 (q.flatMap zj)::slc T.a26 1 z2 ((fs.map Prod.fst).flatMap z0d)::r):=hs.sub
     have hall:∀ p ∈ ((y,shL n0 0)::fs),FocR (slc T.a26 1 y3 (([y]++fs.map Prod.fst).flatMap z0d)::slc T.a34 1 y ((shL n0 0).flatMap zf)::HP.all (fs.map frP)::pt a (.cells #[.pointer (some ⟨ix,0,none⟩),.int .i64 n0,.int .i64 0,.int .i64 (z0c []),.int .i64 (z1i (-1) []),.int .i64 ((SegA.file ⟨n0,0,[]⟩).length:Nat)] T.a29)::z2k ix ((SegA.mk n0 0 []).idx M.gap)::pt lg (.cells #[.pointer (some ⟨M.d,0,none⟩),.string M.pre,.int .i64 M.seg,.int .i64 M.gap,.slice M.z.a M.z.len M.z.cap] T.a28)::slc T.a17 1 M.z ((M.SM.map Prod.fst).flatMap z0l)::HP.all (M.SM.map λt=>z05 M.gap t.1 t.2)::slc T.a1 7 z1 (q.flatMap zj)::slc T.a26 1 z2 ((fs.map Prod.fst).flatMap z0d)::r) p.1 1 (p.2.flatMap zf):=λp hp=>by
      rcases List.mem_cons.1 hp with rfl|hp
      ·infer_instance
      ·have:FocR (HP.all (fs.map frP)::pt a (.cells #[.pointer (some ⟨ix,0,none⟩),.int .i64 n0,.int .i64 0,.int .i64 (z0c []),.int .i64 (z1i (-1) []),.int .i64 ((SegA.file ⟨n0,0,[]⟩).length:Nat)] T.a29)::z2k ix ((SegA.mk n0 0 []).idx M.gap)::pt lg (.cells #[.pointer (some ⟨M.d,0,none⟩),.string M.pre,.int .i64 M.seg,.int .i64 M.gap,.slice M.z.a M.z.len M.z.cap] T.a28)::slc T.a17 1 M.z ((M.SM.map Prod.fst).flatMap z0l)::HP.all (M.SM.map λt=>z05 M.gap t.1 t.2)::slc T.a1 7 z1 (q.flatMap zj)::slc T.a26 1 z2 ((fs.map Prod.fst).flatMap z0d)::r) p.1 1 (p.2.flatMap zf):=zco hp
       infer_instance
     have hpsF:FocR (slc T.a26 1 y3 (([y]++fs.map Prod.fst).flatMap z0d)::slc T.a34 1 y ((shL n0 0).flatMap zf)::HP.all (fs.map frP)::pt a (.cells #[.pointer (some ⟨ix,0,none⟩),.int .i64 n0,.int .i64 0,.int .i64 (z0c []),.int .i64 (z1i (-1) []),.int .i64 ((SegA.file ⟨n0,0,[]⟩).length:Nat)] T.a29)::z2k ix ((SegA.mk n0 0 []).idx M.gap)::pt lg (.cells #[.pointer (some ⟨M.d,0,none⟩),.string M.pre,.int .i64 M.seg,.int .i64 M.gap,.slice M.z.a M.z.len M.z.cap] T.a28)::slc T.a17 1 M.z ((M.SM.map Prod.fst).flatMap z0l)::HP.all (M.SM.map λt=>z05 M.gap t.1 t.2)::slc T.a1 7 z1 (q.flatMap zj)::slc T.a26 1 z2 ((fs.map Prod.fst).flatMap z0d)::r) y3 1 ((((y,shL n0 0)::fs).map Prod.fst).flatMap zbw):=(inferInstance:FocR _ y3 1 (([y]++fs.map Prod.fst).flatMap z0d))
     refine za (zeo (d:=M.d) (A:=D1) (ze M.pre n0 (bl (ByteArray.mk #[46,108,111,103]))) y3 (((y,shL n0 0)::fs).map Prod.fst) (((y,shL n0 0)::fs).map Prod.snd) (hps:=hpsF) (zek hall) (by simp only [List.length_map,List.length_cons];omega) (λb hb=>?_) hs) λ_ w' hs=>?_
     ·obtain ⟨p,hp,rfl⟩:=List.mem_map.1 hb
      rcases List.mem_cons.1 hp with rfl|hp
      ·show (shL n0 0).length<=_;omega
      ·have:=hlbound p hp;omega
     obtain ⟨rfl,hs⟩:=hs
     refine zd ?_
     refine wp_lt ?_
     refine zi ?_
     have e2:(((y,shL n0 0)::fs).map Prod.snd).flatten=shL n0 0++Fr:=by rw [List.map_cons,List.flatten_cons,hflat]
     rw [e2] at hs ⊢
     refine zh ⟨rfl,?_⟩
     have hs:Sat w' (dk M.d (zw D1 (ze M.pre n0 zo) (shL n0 0++Fr)).2::slc T.a26 1 y3 _::slc T.a34 1 y _::HP.all (fs.map frP)::pt a _::z2k ix _::pt lg _::slc T.a17 1 M.z _::HP.all (M.SM.map λt=>z05 M.gap t.1 t.2)::slc T.a1 7 z1 (q.flatMap zj)::slc T.a26 1 z2 ((fs.map Prod.fst).flatMap z0d)::r):=hs
     have hs:=z1a M hokm (hs.pick [6,6,6])
     have hs:Sat w' (z05 M.gap a ⟨ix,⟨n0,0,[]⟩⟩::lgQ lg M::dk M.d _::slc T.a26 1 y3 _::slc T.a34 1 y _::HP.all (fs.map frP)::slc T.a1 7 z1 (q.flatMap zj)::slc T.a26 1 z2 ((fs.map Prod.fst).flatMap z0d)::r):=z1s ⟨ix,⟨n0,0,[]⟩⟩ (hs.pick [5,5])
     exact hs.sub
    rintro _ w2 ⟨rfl,hs⟩
    refine zg (λh3=>?_) λh3=>?_
    ·refine wp_lt ?_
     rw [if_pos h3]
     refine zn ⟨rfl,rfl,hsame hs.sub⟩
    rw [if_neg h3]
    have hs:=hs.pick [1]
    refine za (zwp (lg:=lg) a ⟨ix,⟨n0,0,[]⟩⟩ (by omega) hs) λ_ w' hs=>?_
    obtain ⟨z,rfl,hs⟩:=hs
    refine zd ?_
    refine zh ⟨{ M with z:=z,SM:=M.SM++[(a,⟨ix,⟨n0,0,[]⟩⟩)] },M.SM,a,⟨ix,⟨n0,0,[]⟩⟩,(zw D1 (ze M.pre n0 zo) (shL n0 0++Fr)).2,rfl,rfl,?_,rfl,⟨rfl,rfl,rfl,rfl⟩,hs⟩
    rw [z2a]
    simp only [List.flatMap_nil,List.length_nil]
    omega
   ·
    have hr:z3n M.seg M.l Fr.length=true:=by simpa using hr
    rw [if_pos hr]
    have h0:M.SM≠[]:=by
     intro h0
     have:M.l=[]:=by unfold LogM.l;rw [h0];rfl
     rw [this] at hr
     cases hr
    obtain ⟨SM0,⟨a,t⟩,hSM⟩:=z2d h0
    have hl1:M.l=SM0.map (λt=>t.2.s)++[t.s]:=by unfold LogM.l;rw [hSM];simp
    have hbase:z5g M.l=t.s.base:=by unfold z5g;rw [hl1,z1l]
    have hadd:z5b M.l q=SM0.map (λt=>t.2.s)++[t.s.add q]:=by unfold z5b;rw [hl1,z1l];simp
    have hlst:M.SM.getLast? = some (a,t):=by rw [hSM,z1l]
    rw [hlst]
    have htm:t.s ∈ M.l:=by rw [hl1];simp
    have htb:=(hok.mem _ htm).1.base
    have htf:=hfl _ htm
    refine zp (λv w'=>v=((zw D (ze M.pre (z5g M.l) zo) Fr).1,())/\Sat w' (lgQ lg M::dk M.d (zw D (ze M.pre (z5g M.l) zo) Fr).2::slc T.a1 7 z1 (q.flatMap zj)::slc T.a26 1 z2 ((fs.map Prod.fst).flatMap z0d)::HP.all (fs.map frP)::r)) ?_ ?_
    ·obtain ⟨hokm,hs⟩:=zbj hSM hs
     have hs:=z2e hs
     refine z07 hs λw' hs=>?_
     refine zm ?_
     refine z1m hs ?_
     refine zm ?_
     refine zb hs ?_
     refine za (z5l (lg:=lg) t.s.base (by omega) (ByteArray.mk #[46,108,111,103]) (by decide) M.pre hokm.size hs) λ_ w' hs=>?_
     obtain ⟨rfl,hs⟩:=hs
     refine zd ?_ (by first|trivial|(repeat (first|exact trivial|exact λ_=>z0i hs|exact λ_=>z0o hs|refine And.intro ?_ ?_)))
     refine zi ?_
     have hs:=hs.pick [8]
     have hall:∀ p ∈ fs,FocR (pt a (.cells #[.pointer (some ⟨t.ix,0,none⟩),.int .i64 t.s.base,.int .i64 t.s.fin,.int .i64 (z0c t.s.bs),.int .i64 (z1i (-1) t.s.bs),.int .i64 (t.s.file.length:Nat)] T.a29)::z2k t.ix (t.s.idx M.gap)::pt lg (.cells #[.pointer (some ⟨M.d,0,none⟩),.string M.pre,.int .i64 M.seg,.int .i64 M.gap,.slice M.z.a M.z.len M.z.cap] T.a28)::slc T.a17 1 M.z ((SM0.map Prod.fst++[a]).flatMap z0l)::HP.all (SM0.map λt=>z05 M.gap t.1 t.2)::slc T.a1 7 z1 (q.flatMap zj)::slc T.a26 1 z2 ((fs.map Prod.fst).flatMap z0d)::HP.all (fs.map frP)::r) p.1 1 (p.2.flatMap zf):=λp hp=>by
      have:FocR (HP.all (fs.map frP)::r) p.1 1 (p.2.flatMap zf):=zco hp
      infer_instance
     have hpsF:FocR (pt a (.cells #[.pointer (some ⟨t.ix,0,none⟩),.int .i64 t.s.base,.int .i64 t.s.fin,.int .i64 (z0c t.s.bs),.int .i64 (z1i (-1) t.s.bs),.int .i64 (t.s.file.length:Nat)] T.a29)::z2k t.ix (t.s.idx M.gap)::pt lg (.cells #[.pointer (some ⟨M.d,0,none⟩),.string M.pre,.int .i64 M.seg,.int .i64 M.gap,.slice M.z.a M.z.len M.z.cap] T.a28)::slc T.a17 1 M.z ((SM0.map Prod.fst++[a]).flatMap z0l)::HP.all (SM0.map λt=>z05 M.gap t.1 t.2)::slc T.a1 7 z1 (q.flatMap zj)::slc T.a26 1 z2 ((fs.map Prod.fst).flatMap z0d)::HP.all (fs.map frP)::r) z2 1 ((fs.map Prod.fst).flatMap zbw):=(inferInstance:FocR _ z2 1 ((fs.map Prod.fst).flatMap z0d))
     refine za (zeo (d:=M.d) (A:=D) (ze M.pre t.s.base (bl (ByteArray.mk #[46,108,111,103]))) z2 (fs.map Prod.fst) (fs.map Prod.snd) (hps:=hpsF) (zek hall) (by simp only [List.length_map];omega) (λb hb=>?_) hs) λ_ w' hs=>?_
     ·obtain ⟨p,hp,rfl⟩:=List.mem_map.1 hb
      have:=hlbound p hp;omega
     obtain ⟨rfl,hs⟩:=hs
     refine zd ?_
     refine wp_lt ?_
     refine zi ?_
     rw [hflat] at hs ⊢
     refine zh ⟨by rw [hbase];rfl,?_⟩
     rw [hbase]
     have hs:Sat w' (dk M.d (zw D (ze M.pre t.s.base zo) Fr).2::pt a _::z2k t.ix _::pt lg _::slc T.a17 1 M.z _::HP.all (SM0.map λt=>z05 M.gap t.1 t.2)::slc T.a1 7 z1 (q.flatMap zj)::slc T.a26 1 z2 ((fs.map Prod.fst).flatMap z0d)::HP.all (fs.map frP)::r):=hs
     have hs:=zaf M hokm (z1s t (hs.pick [1,1]) |>.pick [0,1,1,1])
     have e:{ M with SM:=SM0++[(a,t)] }=M:=by rw [<- hSM]
     rw [e] at hs
     exact hs.sub
    rintro _ w2 ⟨rfl,hs⟩
    refine zg (λh3=>?_) λh3=>?_
    ·refine wp_lt ?_
     rw [if_pos h3]
     refine zn ⟨rfl,rfl,hsame hs.sub⟩
    rw [if_neg h3]
    refine zh ⟨M,SM0,a,t,(zw D (ze M.pre (z5g M.l) zo) Fr).2,rfl,hSM,by omega,by rw [hadd],⟨rfl,rfl,rfl,rfl⟩,hs⟩
  rintro _ w2 ⟨M1,SM0,a,t,D1,rfl,hSM,htl,hres,⟨hd1,hd2,hd3,hd4⟩,hs⟩
  clear hsame
  rw [hres]
  obtain ⟨hokm,hs⟩:=zbj hSM hs
  have hF2:∀ i,((q.take i).flatMap frL).length<=Fr.length:=hfsum
  have hlq:=hs.slen z1 (xs:=q) (enc:=zj)
  refine zp (λ_ w'=>Sat w' (z05 M1.gap a ⟨t.ix,t.s.add q⟩::pt lg (.cells #[.pointer (some ⟨M1.d,0,none⟩),.string M1.pre,.int .i64 M1.seg,.int .i64 M1.gap,.slice M1.z.a M1.z.len M1.z.cap] T.a28)::slc T.a17 1 M1.z ((SM0.map Prod.fst++[a]).flatMap z0l)::HP.all (SM0.map λt=>z05 M1.gap t.1 t.2)::dk M.d D1::slc T.a1 7 z1 (q.flatMap zj)::slc T.a26 1 z2 ((fs.map Prod.fst).flatMap z0d)::HP.all (fs.map frP)::r)) ?_ ?_
  ·refine z08 (λm v w=>∃ i:Nat,v=((i:Int),())/\i<=q.length/\q.length-i=m/\Sat w (z05 M1.gap a ⟨t.ix,t.s.add (q.take i)⟩::pt lg (.cells #[.pointer (some ⟨M1.d,0,none⟩),.string M1.pre,.int .i64 M1.seg,.int .i64 M1.gap,.slice M1.z.a M1.z.len M1.z.cap] T.a28)::slc T.a17 1 M1.z ((SM0.map Prod.fst++[a]).flatMap z0l)::HP.all (SM0.map λt=>z05 M1.gap t.1 t.2)::dk M.d D1::slc T.a1 7 z1 (q.flatMap zj)::slc T.a26 1 z2 ((fs.map Prod.fst).flatMap z0d)::HP.all (fs.map frP)::r)) q.length ⟨0,rfl,by omega,rfl,by rw [List.take_zero,zdc];exact hs⟩ ?_
   clear hs
   rintro m _ w ⟨i,rfl,hi,hm,hs⟩
   refine zk ?_
   refine zg (λhc=>?_) λhc=>?_
   rotate_left
   ·refine zn (zh ?_)
    rwa [List.take_of_length_le (by omega)] at hs
   have hil:i<q.length:=by omega
   have hil2:i<fs.length:=by omega
   refine z1p hs (xs:=q) (enc:=zj) i hil ?_
   refine zy hs λc w' hs=>?_
   refine wp_lt ?_
   refine z03 hs λw' hs=>?_
   refine z07 hs λw' hs=>?_
   refine zt hs ?_
   refine z1k hs (xs:=fs.map Prod.fst) (enc:=z0d) i (by rw [List.length_map];omega) ?_
   have e1:(fs.map Prod.fst)[i]'(by rw [List.length_map];omega)=fs[i].1:=by simp
   rw [e1]
   have hR:FocR (HP.all (fs.map frP)::r) fs[i].1 1 (fs[i].2.flatMap zf):=zco (List.getElem_mem hil2)
   have hl2:=hs.slen fs[i].1 (xs:=fs[i].2) (enc:=zf)
   rw [hfget i hil2] at hl2
   rw [hl2]
   obtain ⟨hvq,c0,hc0,hcx,hcr⟩:=hp2 q[i] (List.getElem_mem hil)
   have hRb:FocR r q[i].x 4 (q[i].rs.flatMap zx):=by rw [hcx,hcr];exact hbs c0 hc0
   have hfi:((q.take (i+1)).flatMap frL).length=((q.take i).flatMap frL).length+(frL q[i]).length:=by
    rw [List.take_succ_eq_append_getElem hil,List.flatMap_append,List.length_append];simp
   have:=hF2 (i+1)
   refine za (zkl (gap:=M1.gap) (a:=a) q[i] hvq (by show (t.s.add (q.take i)).file.length+_<=_;rw [z4x,List.length_append];omega) hs) λ_ w' hs=>?_
   obtain ⟨rfl,hs⟩:=hs
   refine zd ?_
   refine zi ?_
   rw [wS (i:=i) (by omega)]
   refine z0n (q.length-(i+1)) ⟨i+1,rfl,by omega,rfl,?_⟩
   have e2:(t.s.add (q.take i)).add [q[i]]=t.s.add (q.take (i+1)):=by rw [add_add,List.take_succ_eq_append_getElem hil]
   have hs:Sat w' (z05 M1.gap a ⟨t.ix,(t.s.add (q.take i)).add [q[i]]⟩::_):=hs
   rw [e2] at hs
   exact hs.sub
  clear hs
  rintro _ w3 hs
  refine zk ?_
  refine zcz hs (xs:=q) (enc:=zj) 0 (by omega) ?_
  refine wp_lt ?_
  have hq0:(q[0]'(by omega)).base=n0:=hp3 _ (by rw [List.head?_eq_getElem?,List.getElem?_eq_getElem])
  rw [hq0]
  refine ⟨rfl,rfl,?_⟩
  have hs:=z2w _ (zaf M1 hokm hs)
  have eA:LogM.A { M1 with SM:=SM0++[(a,(⟨t.ix,t.s.add q⟩:SegM))] }=M.A.set ((SM0.map λt=>t.2.s)++[t.s.add q]):=by
   unfold LogM.A LogM.l LogA.set
   simp only [List.map_append,List.map_cons,List.map_nil,hd1,hd2,hd3,hd4]
  rw [eA] at hs
  exact hs.sub
end
section
variable {w:World} {l r:List HP} {lg:Nat} {M:LogM} {A:LogA} {D:DiskA} {gap:Int} {a:Nat} {t:SegM}
theorem zg9 {P:Program} {Q:Post} {S:World->Prop} {c:Addr->Prop} {f:Addr->Prog} (hc:c ⟨0,0,none⟩) (h:(f ⟨0,0,none⟩).wp P S w Q):(Prog.ex [.adr] (c1 c) (u1 f)).wp P S w Q:=⟨(⟨0,0,none⟩,()),hc,h⟩
theorem zgk {P:Program} {Q:Post} {S:World->Prop} {α:Type} {enc:α->List Value} {xs:List α} {sz m:Nat} {ii:Int} {x:Sl} {T:TypeId} {g g':Prop} {p:Pr} {dec:α->p.D} {f:p.D->Prog} (hs:Sat w l) [hf:FocR l x sz (xs.flatMap enc)] [hE:EncN enc sz] [hD:Enc1 enc p dec] [hT:One P T]
  (n:Nat) (hn:n<xs.length) (h:(f (dec xs[n])).wp P S w Q) (hm:m=n*sz:=by rfl) (hi:ii=n:=by rfl) :
  (Prog.ex [.adr] (c1 λa=>g->(0:Int)<=ii/\ii<((x.len:Nat):Int)/\x.a=some a) (u1 λa=>.read g' (ld T (Addr.add a m)) (.one (.one p)) (u1 f))).wp P S w Q:=by
 subst hm hi
 have hr:=hf.rd w hs
 have hl:x.len=xs.length:=hr.len hE.len hE.pos
 obtain ⟨a,ha,he⟩:=hr.el hE.len (by omega)
 refine ⟨(a,()),λ_=>⟨by omega,by omega,ha⟩,(dec xs[n],()),λ_=>?_,h⟩
 have:=he n hn
 rw [hD.ok] at this
 have h2:=At.ld1 (P:=P) (T:=T) this rfl
 cases p <;> exact h2
end
def z38 (s:SegA) (k:Nat):Nat:=(shL s.base s.fin).length+((s.bs.take k).flatMap frL).length
def z0e (l:List SegA):List BatM:=l.flatMap SegA.bs
def zdb (l:List SegA) (off most:Int):Int × List BatM:=if most<1 then (2,[]) else if off<zl l\/off>zr l then (8,[]) else (0,((z0e l).filterMap (z0y off)).take most.toNat)
def zsz (s:SegA) (o:Option EntA):Int:=match o with
 | none=>((shL s.base s.fin).length:Int)
 | some e=>e.place
theorem zse (s:SegA):z38 s 0=(shL s.base s.fin).length:=by simp [z38]
theorem zvn (s:SegA):z38 s s.bs.length=s.file.length:=by unfold z38;rw [List.take_length,z2a]
theorem zhg (s:SegA) {k:Nat} (hk:k<s.bs.length):z38 s (k+1)=z38 s k+(frL s.bs[k]).length:=by
 unfold z38
 rw [List.take_succ_eq_append_getElem hk,List.flatMap_append,List.length_append]
 simp
 omega
theorem zgy (s:SegA) (k:Nat):z38 s k<=s.file.length:=by
 unfold z38
 rw [z2a]
 have:(s.bs.flatMap frL)=(s.bs.take k).flatMap frL++(s.bs.drop k).flatMap frL:=by rw [<- List.flatMap_append,List.take_append_drop]
 rw [this,List.length_append];omega
theorem zto (s:SegA) (k:Nat):s.file.drop (z38 s k)=(s.bs.drop k).flatMap frL:=by
 have e:s.file=(shL s.base s.fin++(s.bs.take k).flatMap frL)++(s.bs.drop k).flatMap frL:=by
  unfold SegA.file
  rw [List.append_assoc,<- List.flatMap_append,List.take_append_drop]
 rw [e]
 exact List.drop_left' (by rw [List.length_append];rfl)
theorem zqb {s:SegA} (h:SegOk s) {k:Nat} (hk:k<s.bs.length):z18 (s.file.drop (z38 s k))=some (z24 s.bs[k],(frL s.bs[k]).length)/\z5z (z24 s.bs[k])=some s.bs[k]:=by
 obtain ⟨hv,hp⟩:=h.bs.valid s.bs[k] (List.getElem_mem hk)
 have hl:=z45 hv
 have hf:=z3p hv
 refine ⟨?_,by rw [zi4 hv,hp]⟩
 rw [zto,List.drop_eq_getElem_cons hk,List.flatMap_cons,hf.2]
 exact z6d hl.2 _
theorem z1y.lt:∀ {n:Int} {bs:List BatM},z1y n bs->∀ (j i:Nat) (hi:i<bs.length) (hj:j<i),n<=(bs[j]'(by omega)).base/\(bs[j]'(by omega)).base+z01 (bs[j]'(by omega))<=bs[i].base
 | n,b::bs,⟨h1,h2,h3,h4⟩,0,i+1,hi,hj=>by
  refine ⟨h3,?_⟩
  simp only [List.getElem_cons_zero,List.getElem_cons_succ]
  have hi:i<bs.length:=by simpa using hi
  obtain ⟨s1,-,-,-,-⟩:=z1e b h1
  cases i with
  | zero =>
   cases bs with
   | nil=>simp at hi
   | cons c cs=>exact h4.2.2.1
  | succ i =>
   have:=(h4.lt 0 (i+1) hi (by omega)).1
   have h5:=(h4.lt 0 (i+1) hi (by omega)).2
   obtain ⟨s2,-,-,-,-⟩:=z1e _ (h4.valid _ (List.getElem_mem (show 0<bs.length by omega))).1
   omega
 | n,b::bs,⟨h1,h2,h3,h4⟩,j+1,i+1,hi,hj=>by
  simp only [List.getElem_cons_succ]
  have hi:i<bs.length:=by simpa using hi
  have:=h4.lt j i hi (by omega)
  obtain ⟨s1,-,-,-,-⟩:=z1e b h1
  exact ⟨by omega,this.2⟩
theorem z1y.le_next {n:Int} {bs:List BatM} (h:z1y n bs) {b:BatM} (hb:b ∈ bs):b.base+z01 b<=z0c bs:=by
 obtain ⟨j,hj,rfl⟩:=List.mem_iff_getElem.1 hb
 have hne:bs≠[]:=by rintro rfl;simp at hj
 have e:z0c bs=(bs[bs.length-1]'(by omega)).base+z01 (bs[bs.length-1]'(by omega)):=by
  unfold z0c
  rw [List.getLast?_eq_getElem?,List.getElem?_eq_getElem (by omega)]
 rw [e]
 by_cases hjl:j=bs.length-1
 ·subst hjl;exact Int.le_refl _
 ·have:=(h.lt j (bs.length-1) (by omega) (by omega)).2
  obtain ⟨s1,-,-,-,-⟩:=z1e _ (h.valid _ (List.getElem_mem (show bs.length-1<bs.length by omega))).1
  omega
theorem zfu {off:Int} {b:BatM} (hv:z02 b=0) (h:b.base+z01 b<=off):z0y off b=none:=by
 unfold z0y
 rw [if_pos (.inr (by unfold z3i;rw [if_neg (by rw [hv];simp)];exact h))]
theorem zni {off:Int} {b c:BatM} (hp:b.p=b) (h:z0y off b=some c):c.p=c:=by
 have hx:b.x=z7i:=by rw [<- hp];rfl
 unfold z0y at h
 split at h
 ·cases h
 ·split at h
  ·simp only [Option.some.injEq] at h;subst h;exact hp
  ·simp only [Option.some.injEq] at h;subst h;unfold zit BatM.p;simp only [hx];rfl
theorem zaa {α β:Type} {f:α->Option β} {l:List α} (h:∀ x ∈ l,f x=none):l.filterMap f=[]:=by
 rw [List.filterMap_eq_nil_iff];exact h
theorem zss {s:SegA} (h:SegOk s) (hl:s.file.length<=4194304) (gap off:Int):∃ k,k<=s.bs.length/\zsz s (z3h (s.idx gap).l off)=((z38 s k:Nat):Int)/\∀ b ∈ s.bs.take k,b.base+z01 b<=off:=by
 have hi:=zk0 gap s.bs.length (n:=s.base) (q:=(shL s.base s.fin).length) rfl h.base.1 (by omega) h.bs (by have:=z2a s;omega)
 cases hf:z3h (s.idx gap).l off with
 | none=>exact ⟨0,Nat.zero_le _,by rw [zse];rfl,by simp⟩
 | some e =>
  unfold z3h at hf
  obtain ⟨a,c,hac,he,-⟩:=zm9 hf
  have he:e.offset<=off:=by simpa using he
  obtain ⟨i,hil,hie⟩:=hi.ent e (by show e ∈ (s.idx gap).l;rw [hac];simp)
  refine ⟨i,by omega,?_,λb hb=>?_⟩
  ·show e.place=_
   rw [hie]
   unfold z38
   simp only
   omega
  ·obtain ⟨j,hj,rfl⟩:=List.mem_iff_getElem.1 hb
   rw [List.length_take] at hj
   rw [List.getElem_take]
   have:=(h.bs.lt j i hil (by omega)).2
   rw [hie] at he
   simp only at he
   omega
theorem z0b.skip:∀ {n:Int} {l:List SegA},z0b n l->∀ (i j:Nat) (hj:j<l.length) (hi:i<j),(l[i]'(by omega)).reach<=l[j].base/\(l[i]'(by omega)).base<l[j].base
 | n,s::l,⟨h1,h2,h3⟩,0,j+1,hj,_=>by
  have hj:j<l.length:=by simpa using hj
  have:=(h3.mem l[j] (List.getElem_mem hj)).2
  simp only [List.getElem_cons_zero,List.getElem_cons_succ]
  omega
 | n,s::l,⟨h1,h2,h3⟩,i+1,j+1,hj,hi=>by
  simp only [List.getElem_cons_succ]
  exact h3.skip i j (by simpa using hj) (by omega)
theorem zvd {l:List SegA} (hok:z0b 0 l) {off:Int} {i:Nat} (hi:i<l.length) (hb:l[i].base<=off\/i=0):(z0e l).filterMap (z0y off)=(z0e (l.drop i)).filterMap (z0y off):=by
 have e:z0e l=z0e (l.take i)++z0e (l.drop i):=by unfold z0e;rw [<- List.flatMap_append,List.take_append_drop]
 rw [e,List.filterMap_append,zaa (l:=z0e (l.take i)),List.nil_append]
 intro b hb'
 obtain ⟨s,hs,hbs⟩:=List.mem_flatMap.1 hb'
 obtain ⟨j,hj,rfl⟩:=List.mem_iff_getElem.1 hs
 rw [List.length_take] at hj
 rw [List.getElem_take] at hbs
 have h1:=(hok.skip j i hi (by omega)).1
 have hsg:=(hok.mem (l[j]'(by omega)) (List.getElem_mem _)).1
 have h2:=hsg.bs.le_next hbs
 have h3:=(z5f hsg).2.2.1
 refine zfu (hsg.bs.valid b hbs).1 ?_
 rcases hb with hb|hb
 ·omega
 ·omega
theorem zgo {s:SegA} (h:SegOk s):s.bs.length*10<=s.file.length:=by
 have:=z93 h.bs
 rw [z2a];omega
def z0u (pre:ByteArray):List ByteArray->DiskA->Int × List Int × DiskA
 | [],D=>(0,[],D)
 | n::ns,D=>if (z1d pre n z0a).isSome=true/\(z0t D n).1≠0 then ((z0t D n).1,[],(z0t D n).2) else
  ((z0u pre ns (if (z1d pre n z0a).isSome then (z0t D n).2 else D)).1,(match z1d pre n zo with|some b=>[(b:Int)]|none=>[])++(z0u pre ns (if (z1d pre n z0a).isSome then (z0t D n).2 else D)).2.1,(z0u pre ns (if (z1d pre n z0a).isSome then (z0t D n).2 else D)).2.2)
def z1h (pre:ByteArray):List Int->DiskA->Int × DiskA
 | [],D=>(0,D)
 | b::bs,D=>if (z0t D (ze pre b zo)).1≠0 then z0t D (ze pre b zo) else z1h pre bs (z0t D (ze pre b zo)).2
def z1t (pre:ByteArray) (l:List SegA) (D:DiskA) (base:Int):(Bool × Int) × List SegA × DiskA:=match zu D.fs (ze pre base zo) with
 | none=>((false,3),l,D)
 | some p=>match z4r base p.1 with
  | none=>((false,(z0t D (ze pre base zo)).1),l,(z0t D (ze pre base zo)).2)
  | some q=>if q.2=p.1.length then ((true,0),l++[q.1],D) else ((false,(cutA' D (ze pre base zo) (q.2:Nat)).1),l++[q.1],(cutA' D (ze pre base zo) (q.2:Nat)).2)
def z23 (pre:ByteArray):List Int->List SegA->DiskA->Int × List SegA × DiskA
 | [],l,D=>(0,l,D)
 | b::bs,l,D=>if b<zr l then (if (z0t D (ze pre b zo)).1≠0 then ((z0t D (ze pre b zo)).1,l,(z0t D (ze pre b zo)).2) else z23 pre bs l (z0t D (ze pre b zo)).2) else
  if (z1t pre l D b).1.2≠0 then ((z1t pre l D b).1.2,(z1t pre l D b).2) else
  if (z1t pre l D b).1.1=true then z23 pre bs (z1t pre l D b).2.1 (z1t pre l D b).2.2 else ((z1h pre bs (z1t pre l D b).2.2).1,(z1t pre l D b).2.1,(z1h pre bs (z1t pre l D b).2.2).2)
def z2y (pre:ByteArray) (D:DiskA):Int × List SegA × DiskA :=
 if (z0u pre (z11 (z13 pre) D.fs) D).1≠0 then ((z0u pre (z11 (z13 pre) D.fs) D).1,[],(z0u pre (z11 (z13 pre) D.fs) D).2.2) else
  z23 pre (z0u pre (z11 (z13 pre) D.fs) D).2.1 [] (z0u pre (z11 (z13 pre) D.fs) D).2.2
theorem zxp (pre:ByteArray):pre++ByteArray.mk #[45]=z13 pre:=by
 apply zck
 rw [zh5]
 unfold bl
 simp
theorem ztx {pre n:ByteArray} {x:List UInt8} {v:Nat} (h:z1d pre n x=some v):v<17592186044416:=by
 unfold z1d at h
 split at h
 ·have:=zha (k:=0) h (by omega)
  have h2:16 ^ (0+(((bl n).drop ((bl pre).length+1)).take 11).length)<=16 ^ 11:=Nat.pow_le_pow_right (by omega) (by rw [List.length_take];omega)
  omega
 ·cases h
theorem zho {pre:ByteArray}:∀ {ns:List ByteArray} {D:DiskA},∀ b ∈ (z0u pre ns D).2.1,0<=b/\b<17592186044416
 | [],D,b,h=>by cases h
 | n::ns,D,b,h=>by
  unfold z0u at h
  split at h
  ·cases h
  ·simp only at h
   rcases List.mem_append.1 h with h|h
   ·cases hb:z1d pre n zo with
    | none=>rw [hb] at h;cases h
    | some v =>
     rw [hb] at h
     simp only [List.mem_cons,List.not_mem_nil,or_false] at h
     have:=ztx hb
     omega
   ·exact zho b h
theorem zfq {pre:ByteArray}:∀ {ns:List ByteArray} {D:DiskA},(z0u pre ns D).2.1.length<=ns.length
 | [],D=>Nat.le_refl _
 | n::ns,D=>by
  unfold z0u
  split
  ·exact Nat.zero_le _
  ·simp only [List.length_append,List.length_cons]
   have:=zfq (pre:=pre) (ns:=ns) (D:=if (z1d pre n z0a).isSome then (z0t D n).2 else D)
   split <;> simp <;> omega
section
variable {w:World} {l r:List HP} {lg:Nat} {M:LogM} {A:LogA} {D:DiskA} {gap:Int} {a:Nat} {t:SegM}
def lgR (M:LogM):HP:=HP.star (slc T.a17 1 M.z ((M.SM.map Prod.fst).flatMap z0l)) (HP.all (M.SM.map λt=>z05 M.gap t.1 t.2))
theorem z98 (hs:Sat w (lgQ lg M::l)):okM M.gap M.seg M.pre/\Sat w (pt lg (.cells #[.pointer (some ⟨M.d,0,none⟩),.string M.pre,.int .i64 M.seg,.int .i64 M.gap,.slice M.z.a M.z.len M.z.cap] T.a28)::lgR M::l):=by
 obtain ⟨h,hs⟩:=hs.and
 exact ⟨h,hs.star⟩
theorem z4o (M:LogM) (h:okM M.gap M.seg M.pre) (hs:Sat w (pt lg (.cells #[.pointer (some ⟨M.d,0,none⟩),.string M.pre,.int .i64 M.seg,.int .i64 M.gap,.slice M.z.a M.z.len M.z.cap] T.a28)::lgR M::l)):Sat w (lgQ lg M::l):=.and_mk h (.star_mk hs)
theorem zza {r1:List HP} [hf:Fo l lgQ lg M r1] [hf2:Fo r1 dk M.d D r] (hs:Sat w l) :
  Ret P F.a64 #[.pointer (some ⟨lg,0,none⟩)] w λvs w' =>
   ((z0u M.pre (z11 (z13 M.pre) D.fs) D).1≠0/\vs=[.slice none 0 0,.int .i64 (z0u M.pre (z11 (z13 M.pre) D.fs) D).1]/\Sat w' (lgQ lg M::dk M.d (z0u M.pre (z11 (z13 M.pre) D.fs) D).2.2::r)) \/
   ((z0u M.pre (z11 (z13 M.pre) D.fs) D).1=0/\∃ z:Sl,vs=[z.v,.int .i64 0]/\Sat w' (slc T.a11 1 z ((z0u M.pre (z11 (z13 M.pre) D.fs) D).2.1.flatMap z21)::lgQ lg M::dk M.d (z0u M.pre (z11 (z13 M.pre) D.fs) D).2.2::r)) :=
 zq6 _ <| by
  unfold z00u
  have hs:=hs.perm (hf.perm.trans (.cons _ hf2.perm))
  clear hf hf2
  obtain ⟨hokm,hs⟩:=z98 hs
  have hsz:=hokm.size
  refine z07 hs λw' hs=>?_
  refine zm ?_
  refine zb hs ?_
  refine zm ?_
  refine zb hs ?_
  refine wp_must (by omega) ?_
  rw [zxp]
  obtain ⟨m_,FS_,-,hokD,-⟩:=z20 (hs.pick [2])
  have hok24:∀ n ∈ z11 (z13 M.pre) D.fs,n.size<=24:=λn hn=>by
   unfold z11 at hn
   obtain ⟨f,hf,rfl⟩:=List.mem_map.1 (List.mem_filter.1 hn).1
   exact hokD.names f hf
  have hnl:(z11 (z13 M.pre) D.fs).length<=128:=by
   unfold z11
   exact Nat.le_trans (List.length_filter_le _ _) (by rw [List.length_map];exact hokD.many)
  refine za (zgx (d:=M.d) (A:=D) (z13 M.pre) hs) λ_ w' hs=>?_
  obtain ⟨x,rfl,hs⟩:=hs
  refine zd ?_
  refine zi ?_
  generalize z11 (z13 M.pre) D.fs=ns at *
  have hl:=hs.slen x (xs:=ns) (enc:=z22)
  refine zp (λq w'=>∃ z:Sl,q=(z,())/\(z0u M.pre ns D).1=0/\Sat w' (slc T.a11 1 z ((z0u M.pre ns D).2.1.flatMap z21)::lgQ lg M::dk M.d (z0u M.pre ns D).2.2::r)) ?_ ?_
  rotate_left
  ·rintro _ w2 ⟨z,rfl,h1,hs⟩
   exact ⟨rfl,.inr ⟨h1,z,rfl,hs⟩⟩
  have hs:Sat w' (slc T.a11 1 ⟨none,0,0⟩ (([]:List Int).flatMap z21)::dk M.d D::pt lg (.cells #[.pointer (some ⟨M.d,0,none⟩),.string M.pre,.int .i64 M.seg,.int .i64 M.gap,.slice M.z.a M.z.len M.z.cap] T.a28)::lgR M::slc T.a31 1 x (ns.flatMap z22)::r):=by
   have h1:Sat w' (slc T.a11 1 ⟨none,0,0⟩ (([]:List Int).flatMap z21)::_):=hs.slc_nil
   exact h1.sub
  refine z08 (λm v w=>∃ (i:Nat) (z:Sl) (done:List Int) (D':DiskA),v=(z,((i:Int),()))/\i<=ns.length/\ns.length-i=m/\done.length<=i /\
   ((z0u M.pre ns D).1=(z0u M.pre (ns.drop i) D').1/\(z0u M.pre ns D).2.2=(z0u M.pre (ns.drop i) D').2.2/\((z0u M.pre (ns.drop i) D').1=0->(z0u M.pre ns D).2.1=done++(z0u M.pre (ns.drop i) D').2.1)) /\
   Sat w (slc T.a11 1 z (done.flatMap z21)::dk M.d D'::pt lg (.cells #[.pointer (some ⟨M.d,0,none⟩),.string M.pre,.int .i64 M.seg,.int .i64 M.gap,.slice M.z.a M.z.len M.z.cap] T.a28)::lgR M::slc T.a31 1 x (ns.flatMap z22)::r)) ns.length
   ⟨0,⟨none,0,0⟩,[],D,rfl,by omega,rfl,by simp,⟨rfl,rfl,λ_=>rfl⟩,hs⟩ ?_
  clear hs
  rintro m _ w ⟨i,z,done,D',rfl,hi,hm,hdl,⟨hq1,hq2,hq3⟩,hs⟩
  refine zk ?_
  refine zg (λhc=>?_) λhc=>?_
  rotate_left
  ·have e:ns.drop i=[]:=List.drop_eq_nil_of_le (by omega)
   rw [e] at hq1 hq2 hq3
   have hq3:=hq3 rfl
   have e2:(z0u M.pre [] D').2.1=[]:=rfl
   rw [e2,List.append_nil] at hq3
   refine zn (zh ⟨z,rfl,hq1,?_⟩)
   have e3:(z0u M.pre [] D').2.2=D':=rfl
   rw [hq2,hq3,e3]
   have hs:=z4o M hokm (hs.pick [2,2])
   exact hs.sub
  have hil:i<ns.length:=by omega
  have hdrop:ns.drop i=ns[i]::ns.drop (i+1):=List.drop_eq_getElem_cons hil
  rw [hdrop] at hq1 hq2 hq3
  have hn24:=hok24 ns[i] (List.getElem_mem hil)
  refine z1k hs (xs:=ns) (enc:=z22) i hil ?_
  refine wp_lt ?_
  refine za (znr (lg:=lg) ns[i] (ByteArray.mk #[46,108,111,103]) (by omega) (by decide) M.pre hsz hs) λ_ w' hs=>?_
  obtain ⟨rfl,hs⟩:=hs
  refine zd ?_
  refine wp_lt ?_
  refine wp_lt ?_
  have eb:z1d M.pre ns[i] (bl (ByteArray.mk #[46,108,111,103]))=z1d M.pre ns[i] zo:=rfl
  rw [eb]
  refine zp (λq w'=>∃ z':Sl,q=(z',())/\Sat w' (slc T.a11 1 z' ((done++(match z1d M.pre ns[i] zo with|some b=>[(b:Int)]|none=>[])).flatMap z21)::dk M.d D'::pt lg (.cells #[.pointer (some ⟨M.d,0,none⟩),.string M.pre,.int .i64 M.seg,.int .i64 M.gap,.slice M.z.a M.z.len M.z.cap] T.a28)::lgR M::slc T.a31 1 x (ns.flatMap z22)::r)) ?_ ?_
  ·cases hb:z1d M.pre ns[i] zo with
   | none =>
    refine z0g ?_ (by simp)
    refine zh ⟨z,rfl,?_⟩
    rw [List.append_nil]
    exact hs
   | some b =>
    refine z17 ?_ (by rfl)
    refine z6a (xs:=done) (enc:=z21) (y:=(b:Int)) hs (λz' w' hs=>?_) rfl (by omega)
    exact zh ⟨z',rfl,hs⟩
  rintro _ w2 ⟨z',rfl,hs⟩
  have hdl2:(done++(match z1d M.pre ns[i] zo with|some b=>[(b:Int)]|none=>[])).length<=i+1:=by
   rw [List.length_append]
   split <;> simp <;> omega
  refine za (znr (lg:=lg) ns[i] (ByteArray.mk #[46,110,101,119]) (by omega) (by decide) M.pre hsz hs) λ_ w' hs=>?_
  obtain ⟨rfl,hs⟩:=hs
  refine zd ?_
  refine wp_lt ?_
  refine wp_lt ?_
  have eb2:z1d M.pre ns[i] (bl (ByteArray.mk #[46,110,101,119]))=z1d M.pre ns[i] z0a:=rfl
  rw [eb2]
  have hun:z0u M.pre (ns[i]::ns.drop (i+1)) D'=if (z1d M.pre ns[i] z0a).isSome=true/\(z0t D' ns[i]).1≠0 then ((z0t D' ns[i]).1,[],(z0t D' ns[i]).2) else
   ((z0u M.pre (ns.drop (i+1)) (if (z1d M.pre ns[i] z0a).isSome then (z0t D' ns[i]).2 else D')).1,(match z1d M.pre ns[i] zo with|some b=>[(b:Int)]|none=>[])++(z0u M.pre (ns.drop (i+1)) (if (z1d M.pre ns[i] z0a).isSome then (z0t D' ns[i]).2 else D')).2.1,(z0u M.pre (ns.drop (i+1)) (if (z1d M.pre ns[i] z0a).isSome then (z0t D' ns[i]).2 else D')).2.2):=rfl
  refine zp (λq w'=>¬ ((z1d M.pre ns[i] z0a).isSome=true/\(z0t D' ns[i]).1≠0)/\Sat w' (slc T.a11 1 z' ((done++(match z1d M.pre ns[i] zo with|some b=>[(b:Int)]|none=>[])).flatMap z21)::dk M.d (if (z1d M.pre ns[i] z0a).isSome then (z0t D' ns[i]).2 else D')::pt lg (.cells #[.pointer (some ⟨M.d,0,none⟩),.string M.pre,.int .i64 M.seg,.int .i64 M.gap,.slice M.z.a M.z.len M.z.cap] T.a28)::lgR M::slc T.a31 1 x (ns.flatMap z22)::r)) ?_ ?_
  ·refine zg (λh=>?_) λh=>?_
   rotate_left
   ·refine zh ⟨λhh=>h hh.1,?_⟩
    rw [if_neg h]
    exact hs
   refine zm ?_
   refine zb hs ?_
   refine za (z92 (d:=M.d) (A:=D') ns[i] hs) λ_ w' hs=>?_
   obtain ⟨rfl,hs⟩:=hs
   refine zd ?_
   refine wp_lt ?_
   refine zg (λh2=>?_) λh2=>?_
   ·refine wp_lt ?_
    rw [if_pos ⟨h,h2⟩] at hun
    rw [hun] at hq1 hq2
    have hs:=z4o M hokm (hs.pick [2,2])
    refine zn (zn (zn ⟨rfl,.inl ⟨by rw [hq1];exact h2,by rw [hq1],?_⟩⟩))
    rw [hq2]
    exact hs.sub
   ·refine zh ⟨λhh=>h2 hh.2,?_⟩
    rw [if_pos h]
    exact hs.sub
  rintro _ w3 ⟨hno,hs⟩
  rw [if_neg hno] at hun
  rw [hun] at hq1 hq2 hq3
  refine zk ?_
  rw [wS (i:=i) (by omega)]
  refine z0n (ns.length-(i+1)) ⟨i+1,z',done++(match z1d M.pre ns[i] zo with|some b=>[(b:Int)]|none=>[]),_,rfl,by omega,rfl,hdl2,⟨hq1,hq2,λh=>?_⟩,hs⟩
  rw [hq3 h,List.append_assoc]
theorem zyw (x:Sl) (bs:List Int) (hb:∀ b ∈ bs,0<=b/\b<17592186044416) {r1:List HP} [hf:Fo l lgQ lg M r1] [hf2:Fo r1 dk M.d D r] (hx:FocR r x 1 (bs.flatMap z21)) (hlen:bs.length<=1000000) (hs:Sat w l) :
  Ret P F.a63 #[.pointer (some ⟨lg,0,none⟩),x.v] w λvs w'=>vs=[.int .i64 (z1h M.pre bs D).1]/\Sat w' (lgQ lg M::dk M.d (z1h M.pre bs D).2::r) :=
 zqz _ x <| by
  unfold z01v
  have hs:=hs.perm (hf.perm.trans (.cons _ hf2.perm))
  clear hf hf2
  obtain ⟨hokm,hs⟩:=z98 hs
  have hsz:=hokm.size
  have hl:=hs.slen x (xs:=bs) (enc:=z21)
  refine zp (λ_ w'=>(z1h M.pre bs D).1=0/\Sat w' (lgQ lg M::dk M.d (z1h M.pre bs D).2::r)) ?_ ?_
  rotate_left
  ·rintro _ w2 ⟨h1,hs⟩
   rw [h1]
   exact ⟨rfl,rfl,hs⟩
  refine z08 (λm v w=>∃ (i:Nat) (D':DiskA),v=((i:Int),())/\i<=bs.length/\bs.length-i=m/\z1h M.pre bs D=z1h M.pre (bs.drop i) D' /\
   Sat w (pt lg (.cells #[.pointer (some ⟨M.d,0,none⟩),.string M.pre,.int .i64 M.seg,.int .i64 M.gap,.slice M.z.a M.z.len M.z.cap] T.a28)::lgR M::dk M.d D'::r)) bs.length ⟨0,D,rfl,by omega,rfl,rfl,hs⟩ ?_
  clear hs
  rintro m _ w ⟨i,D',rfl,hi,hm,hq,hs⟩
  refine zk ?_
  refine zg (λhc=>?_) λhc=>?_
  rotate_left
  ·have e:bs.drop i=[]:=List.drop_eq_nil_of_le (by omega)
   rw [e] at hq
   refine zn (zh ⟨by rw [hq];rfl,?_⟩)
   rw [hq]
   exact z4o M hokm hs
  have hil:i<bs.length:=by omega
  rw [List.drop_eq_getElem_cons hil] at hq
  have hbb:=hb bs[i] (List.getElem_mem hil)
  refine z1k hs (xs:=bs) (enc:=z21) i hil ?_
  refine wp_lt ?_
  have hun:z1h M.pre (bs[i]::bs.drop (i+1)) D'=if (z0t D' (ze M.pre bs[i] zo)).1≠0 then z0t D' (ze M.pre bs[i] zo) else z1h M.pre (bs.drop (i+1)) (z0t D' (ze M.pre bs[i] zo)).2:=rfl
  refine zp (λv w'=>v=((z0t D' (ze M.pre bs[i] zo)).1,())/\Sat w' (pt lg (.cells #[.pointer (some ⟨M.d,0,none⟩),.string M.pre,.int .i64 M.seg,.int .i64 M.gap,.slice M.z.a M.z.len M.z.cap] T.a28)::lgR M::dk M.d (z0t D' (ze M.pre bs[i] zo)).2::r)) ?_ ?_
  ·refine z07 hs λw' hs=>?_
   refine zm ?_
   refine z1m hs ?_
   refine za (z5l (lg:=lg) bs[i] hbb (ByteArray.mk #[46,108,111,103]) (by decide) M.pre hsz hs) λ_ w' hs=>?_
   obtain ⟨rfl,hs⟩:=hs
   refine zd ?_ (by first|trivial|(repeat (first|exact trivial|exact λ_=>z0i hs|exact λ_=>z0o hs|refine And.intro ?_ ?_)))
   refine zi ?_
   refine za (z92 (d:=M.d) (A:=D') (ze M.pre bs[i] (bl (ByteArray.mk #[46,108,111,103]))) hs) λ_ w' hs=>?_
   obtain ⟨rfl,hs⟩:=hs
   refine zd ?_
   refine wp_lt ?_
   refine zi ?_
   have hs:Sat w' (dk M.d (z0t D' (ze M.pre bs[i] zo)).2::_):=hs
   exact zh ⟨rfl,hs.sub⟩
  rintro _ w2 ⟨rfl,hs⟩
  refine zg (λh=>?_) λh=>?_
  ·refine wp_lt ?_
   rw [if_pos h] at hun
   rw [hun] at hq
   rw [hq]
   exact zn (zn ⟨rfl,rfl,z4o M hokm hs⟩)
  ·rw [if_neg h] at hun
   rw [hun] at hq
   rw [wS (i:=i) (by omega)]
   exact z0n (bs.length-(i+1)) ⟨i+1,_,rfl,by omega,rfl,hq,hs⟩
end
theorem zfe (k:Nat) (n:Int) (raw:List UInt8):z2n (k+1) n raw=match z18 raw with
  | none=>([],0)
  | some (body,m)=>match z5z body with
   | none=>([],0)
   | some b=>if b.base<n then ([],0) else (b::(z2n k (b.base+z01 b) (raw.drop m)).1,m+(z2n k (b.base+z01 b) (raw.drop m)).2):=rfl
theorem zcn {fs:List FileA} {n:ByteArray} {p:List UInt8 × Nat} (h:zu fs n=some p):p.1.length<=used fs:=z6x (zqw h)
section
variable {w:World} {l r:List HP} {lg:Nat} {M:LogM} {A:LogA} {D:DiskA} {gap:Int} {a:Nat} {t:SegM}
theorem zus (b:BatM) (z:Sl) (hv:z02 b=0) (hp:b.p=b) [hf:Fo l (z05 gap) a t r] [hb:FocR r z 4 (b.rs.flatMap zx)] (hlen:t.s.file.length+(frL b).length<=1000000000) (hs:Sat w l) :
  Ret P F.a82 #[.pointer (some ⟨a,0,none⟩),.agg (zj (b.at z)).toArray,.int .i64 ((frL b).length:Nat)] w λvs w'=>vs=[]/\Sat w' (z05 gap a ⟨t.ix,t.s.add [b]⟩::r):=by
 have hb':FocR r (b.at z).x 4 ((b.at z).rs.flatMap zx):=hb
 have h:=zkl (gap:=gap) (a:=a) (b.at z) hv hlen hs
 have e:t.s.add [b.at z]=t.s.add [b]:=by
  unfold SegA.add
  have:(b.at z).p=b.p:=rfl
  simp only [List.map_cons,List.map_nil,this]
 rw [e] at h
 exact h
set_option maxHeartbeats 1000000 in
theorem z01b (base:Int) (hb:0<=base/\base<17592186044416) {r1:List HP} [hf:Fo l lgQ lg M r1] [hf2:Fo r1 dk M.d D r] (hlen:M.SM.length<=1000000) (hs:Sat w l) :
  Ret P F.a71 #[.pointer (some ⟨lg,0,none⟩),.int .i64 base] w λvs w'=>vs=[.bool (z1t M.pre M.l D base).1.1,.int .i64 (z1t M.pre M.l D base).1.2] /\
   ∃ M':LogM,(M'.d=M.d/\M'.pre=M.pre/\M'.seg=M.seg/\M'.gap=M.gap)/\M'.l=(z1t M.pre M.l D base).2.1/\M'.SM.length<=M.SM.length+1/\Sat w' (lgQ lg M'::dk M.d (z1t M.pre M.l D base).2.2::r) :=
 zr0 _ base <| by
  unfold z00x
  have hs:=hs.perm (hf.perm.trans (.cons _ hf2.perm))
  clear hf hf2
  obtain ⟨hokm,hs⟩:=z98 hs
  have hsz:=hokm.size
  obtain ⟨m_,FS_,-,hokD,-⟩:=z20 (hs.pick [2])
  refine za (z5l (lg:=lg) base hb (ByteArray.mk #[46,108,111,103]) (by decide) M.pre hsz hs) λ_ w' hs=>?_
  obtain ⟨rfl,hs⟩:=hs
  refine zd ?_
  have en:ze M.pre base (bl (ByteArray.mk #[46,108,111,103]))=ze M.pre base zo:=rfl
  rw [en]
  generalize hnm:ze M.pre base zo=nm at *
  refine wp_lt ?_
  refine zm ?_
  refine zb hs ?_
  have hsame:∀ {w:World} {D':DiskA},Sat w (pt lg (.cells #[.pointer (some ⟨M.d,0,none⟩),.string M.pre,.int .i64 M.seg,.int .i64 M.gap,.slice M.z.a M.z.len M.z.cap] T.a28)::lgR M::dk M.d D'::r)->∃ M':LogM,(M'.d=M.d/\M'.pre=M.pre/\M'.seg=M.seg/\M'.gap=M.gap)/\M'.l=M.l/\M'.SM.length<=M.SM.length+1/\Sat w (lgQ lg M'::dk M.d D'::r):=λhs=>⟨M,⟨rfl,rfl,rfl,rfl⟩,rfl,by omega,z4o M hokm hs⟩
  unfold z1t
  rw [hnm]
  refine za (zjk (d:=M.d) (A:=D) nm hs) λ_ w' hs=>?_
  rcases hs with ⟨f,hff,hfn,x,rfl,hs⟩|⟨hno,rfl,hs⟩
  rotate_left
  ·refine zd ?_
   refine wp_lt ?_
   refine z17 ?_ (by decide)
   refine wp_lt ?_
   rw [z8o.2 hno]
   exact ⟨rfl,rfl,hsame hs.sub⟩
  refine zd ?_
  refine wp_lt ?_
  refine z0g ?_ (by simp)
  have hfd:zu D.fs nm=some (f.b,f.kept):=by rw [<- hfn];exact z5x (z1j hokD.sorted) hff
  have hrl:f.b.length<=4194304:=Nat.le_trans (z6x hff) hokD.used
  rw [hfd]
  simp only
  generalize f.b=raw at *
  have hl:=hs.slen x (xs:=raw) (enc:=zf)
  have hcap:=hs.slc_cap
  refine za (ze7 x raw hcap (by omega) hs) λ_ w' hs=>?_
  obtain ⟨y,rfl,hs⟩:=hs
  refine zd ?_
  refine wp_lt ?_
  refine wp_lt ?_
  refine zp (λq w'=>∃ v:Int,q=(v,(z4r base raw).isSome,())/\(∀ s,z4r base raw=some s->v=s.1.fin)/\Sat w' (slc T.a34 1 x (raw.flatMap zf)::pt lg (.cells #[.pointer (some ⟨M.d,0,none⟩),.string M.pre,.int .i64 M.seg,.int .i64 M.gap,.slice M.z.a M.z.len M.z.cap] T.a28)::lgR M::dk M.d D::r)) ?_ ?_
  ·cases hfr:z18 raw with
   | none =>
    rw [hfr] at hs
    have e:z4r base raw=none:=by unfold z4r;rw [hfr]
    rw [e]
    refine z0g ?_ (by simp)
    exact zh ⟨0,rfl,(λs h=>by cases h),hs.sub⟩
   | some q =>
    obtain ⟨body,m⟩:=q
    rw [hfr] at hs
    have hs:Sat w' (slc T.a34 1 y (body.flatMap zf)::_):=hs
    obtain ⟨-,-,hbd,-⟩:=z61 hfr
    refine z17 ?_ (by rfl)
    refine za (zuc y body base (by omega) (by omega) hs) λ_ w' hs=>?_
    obtain ⟨v,rfl,hv,hs⟩:=hs
    refine zd ?_
    refine wp_lt ?_
    refine wp_lt ?_
    have e:z4r base raw=match z5s base body with
      | none=>none
      | some fin=>some (⟨base,fin,(z2n raw.length base (raw.drop m)).1⟩,m+(z2n raw.length base (raw.drop m)).2):=by simp only [z4r,hfr];cases z5s base body <;> rfl
    rw [e]
    cases hh:z5s base body with
    | none=>exact zh ⟨v,rfl,(λs h=>by cases h),hs.sub⟩
    | some fin =>
     have:=hv fin hh
     subst this
     exact zh ⟨v,rfl,(λs h=>by simp only [Option.some.injEq] at h;subst h;rfl),hs.sub⟩
  rintro _ w2 ⟨v,rfl,hv,hs⟩
  cases hsc:z4r base raw with
  | none =>
   refine z17 ?_ (by simp)
   refine zm ?_
   refine zb hs ?_
   refine za (z92 (d:=M.d) (A:=D) nm hs) λ_ w' hs=>?_
   obtain ⟨rfl,hs⟩:=hs
   refine zd ?_
   refine wp_lt ?_
   exact ⟨rfl,rfl,hsame hs.sub⟩
  | some q =>
   obtain ⟨s,mm⟩:=q
   dsimp only
   have hv:=hv _ hsc
   have hv:v=s.fin:=hv
   subst hv
   obtain ⟨hsok,hsb,hst,hsm,hsml⟩:=ziz hsc
   refine z0g ?_ (by simp)
   obtain ⟨m0,hm0,htk⟩:∃ m0,((z18 raw).getD ([],0)).2=m0/\m0<=raw.length/\m0=(shL s.base s.fin).length/\s.bs=(z2n raw.length base (raw.drop m0)).1/\mm=m0+(z2n raw.length base (raw.drop m0)).2:=by
    unfold z4r at hsc
    cases hfr:z18 raw with
    | none=>rw [hfr] at hsc;cases hsc
    | some q =>
     obtain ⟨body,m⟩:=q
     rw [hfr] at hsc
     simp only at hsc
     cases hh:z5s base body with
     | none=>rw [hh] at hsc;cases hsc
     | some fin =>
      rw [hh] at hsc
      simp only [Option.some.injEq,Prod.mk.injEq] at hsc
      obtain ⟨e1,e2⟩:=hsc
      obtain ⟨f1,f2,f3,f4⟩:=z61 hfr
      obtain ⟨-,-,hb3⟩:=zik hh
      refine ⟨m,rfl,f2,?_,by rw [<- e1],e2.symm⟩
      rw [<- e1]
      show m=(shL base fin).length
      unfold shL
      rw [z7s (by have:=zai base fin;omega),<- hb3,f1]
   obtain ⟨h1,h2,h3,h4⟩:=htk
   rw [hm0]
   have hbase0:=hsok.base
   have hfin0:0<=s.fin/\s.fin<9223372036854775808:=by have:=hsok.fin;omega
   have hs:=z4o M hokm (hs.pick [1,1])
   refine za (zed (lg:=lg) base s.fin (by omega) hfin0 hs) λ_ w' hs=>?_
   obtain ⟨a,ix,rfl,hs⟩:=hs
   refine zd ?_
   refine wp_lt ?_
   refine zp (λq w'=>q=((mm:Int),())/\Sat w' (z05 M.gap a ⟨ix,s⟩::lgQ lg M::slc T.a34 1 x (raw.flatMap zf)::dk M.d D::r)) ?_ ?_
   ·refine z08 (λk q w=>∃ (at_:Nat) (n:Int) (done:List BatM),q=((at_:Int),(n,()))/\at_<=raw.length/\raw.length-at_<=k /\
     s.bs=done++(z2n k n (raw.drop at_)).1/\mm=at_+(z2n k n (raw.drop at_)).2/\at_=((⟨base,s.fin,[]⟩:SegA).add done).file.length /\
     Sat w (z05 M.gap a ⟨ix,(⟨base,s.fin,[]⟩:SegA).add done⟩::lgQ lg M::slc T.a34 1 x (raw.flatMap zf)::dk M.d D::r)) raw.length
     ⟨m0,base,[],rfl,h1,by omega,by rw [List.nil_append];exact h3,h4,by rw [zdc,z2a];simp only [List.flatMap_nil,List.length_nil];rw [h2,hsb];omega,by rw [zdc];exact hs⟩ ?_
    clear hs
    rintro k _ w ⟨at_,n,done,rfl,ha1,ha2,ha3,ha4,ha5,hs⟩
    have hend:z2n k n (raw.drop at_)=([],0)->∀ {w:World},Sat w (z05 M.gap a ⟨ix,(⟨base,s.fin,[]⟩:SegA).add done⟩::lgQ lg M::slc T.a34 1 x (raw.flatMap zf)::dk M.d D::r)->at_=mm/\Sat w (z05 M.gap a ⟨ix,s⟩::lgQ lg M::slc T.a34 1 x (raw.flatMap zf)::dk M.d D::r):=by
     intro he w hs
     rw [he] at ha3 ha4
     simp only [List.append_nil] at ha3
     have hpp:done.map BatM.p=done:=by
      rw [List.map_congr_left (g:=id) λb hb=>((hsok.bs.valid b (by rw [ha3];exact hb)).2),List.map_id]
     have es:(⟨base,s.fin,[]⟩:SegA).add done=s:=by
      unfold SegA.add
      rw [hpp,<- ha3,<- hsb]
      rfl
     rw [es] at hs
     exact ⟨ha4.symm,hs⟩
    refine zk ?_
    refine wp_must (by omega) ?_
    rw [Int.toNat_natCast]
    have hxc:FocR (z05 M.gap a ⟨ix,(⟨base,s.fin,[]⟩:SegA).add done⟩::lgQ lg M::slc T.a34 1 x (raw.flatMap zf)::dk M.d D::r) ⟨z1f x.a 1 at_ x.cap,x.len-at_,x.cap-at_⟩ 1 ((raw.drop at_).flatMap zf):=FocR.post hcap
    refine za (ze7 ⟨z1f x.a 1 at_ x.cap,x.len-at_,x.cap-at_⟩ (raw.drop at_) (by show x.len-at_<=x.cap-at_;omega) (by rw [List.length_drop];omega) hs) λ_ w' hs=>?_
    obtain ⟨y,rfl,hs⟩:=hs
    refine zd ?_
    refine wp_lt ?_
    refine wp_lt ?_
    cases hfr:z18 (raw.drop at_) with
    | none =>
     rw [hfr] at hs
     refine z17 ?_ (by simp)
     have he:z2n k n (raw.drop at_)=([],0):=by
      cases k with
      | zero=>rfl
      | succ k=>rw [zfe,hfr]
     obtain ⟨e1,hs⟩:=hend he hs.tail
     refine zn (zh ⟨by rw [e1],hs⟩)
    | some q =>
     obtain ⟨body,m⟩:=q
     rw [hfr] at hs
     have hs:Sat w' (slc T.a34 1 y (body.flatMap zf)::_):=hs
     obtain ⟨f1,f2,hbd,f4⟩:=z61 hfr
     rw [List.length_drop] at f2
     dsimp only [Option.getD,Option.isSome]
     refine z0g ?_ (by simp)
     obtain ⟨k,rfl⟩:∃ k',k=k'+1:=⟨k-1,by omega⟩
     rw [zfe,hfr] at ha3 ha4 hend
     refine za (zkn y body (by omega) hs) λ_ w' hs=>?_
     rcases hs with ⟨b,z,hdec,rfl,hs⟩|⟨hdec,rfl,hs⟩
     rotate_left
     ·refine ⟨(0,0,0,0,0,0,z7i,6,()),rfl,trivial,zge _ _ _ _ _ _ _ _ ?_⟩
      refine zy hs λc w' hs=>?_
      refine z03 hs λw' hs=>?_
      refine wp_lt ?_
      refine zb hs ?_
      refine z17 ?_ (.inl (by decide))
      obtain ⟨e1,hs⟩:=hend (by simp only [hdec]) hs.tail.tail
      exact zn (zh ⟨by show ((at_:Int),())=_;rw [e1],hs⟩)
     ·obtain ⟨d1,d2,d3⟩:=zkm hdec
      have hfrb:(frL b).length=m:=by rw [(z3p d1).2,d2,f1]
      refine ⟨(b.base,b.pid,b.epoch,b.seq,b.kind,b.time,z,0,()),rfl,trivial,zge _ _ _ _ _ _ _ _ ?_⟩
      refine zy hs λc w' hs=>?_
      refine z03 hs λw' hs=>?_
      refine wp_lt ?_
      refine zb hs ?_
      simp only [hdec] at ha3 ha4 hend
      refine zg (λhc=>?_) λhc=>?_
      ·have hc:b.base<n:=by
        rcases hc with hc|hc
        ·exact absurd rfl hc
        ·exact hc
       obtain ⟨e1,hs⟩:=hend (by rw [if_pos hc]) hs.tail.tail.tail
       exact zn (zh ⟨by show ((at_:Int),())=_;rw [e1],hs⟩)
      have hc:¬ b.base<n:=λh=>hc (.inr h)
      rw [if_neg hc] at ha3 ha4
      simp only at ha3 ha4
      refine zt hs ?_
      have hz:FocR (pt c (.cells #[.int .i64 b.base,.int .i64 b.pid,.int .i64 b.epoch,.int .i64 b.seq,.int .i64 b.kind,.int .i64 b.time,.slice z.a z.len z.cap] T.a1)::slc T.a3 4 z (b.rs.flatMap zx)::slc T.a34 1 y (body.flatMap zf)::lgQ lg M::slc T.a34 1 x (raw.flatMap zf)::dk M.d D::r) z 4 (b.rs.flatMap zx):=inferInstance
      have hs:Sat w' (pt c (.cells #[.int .i64 b.base,.int .i64 b.pid,.int .i64 b.epoch,.int .i64 b.seq,.int .i64 b.kind,.int .i64 b.time,.slice z.a z.len z.cap] T.a1)::slc T.a3 4 z (b.rs.flatMap zx)::slc T.a34 1 y (body.flatMap zf)::z05 M.gap a ⟨ix,(⟨base,s.fin,[]⟩:SegA).add done⟩::lgQ lg M::slc T.a34 1 x (raw.flatMap zf)::dk M.d D::r):=hs
      have hml:((m:Nat):Int)=((frL b).length:Nat):=by rw [hfrb]
      show (Prog.call F.a82 [_,.agg _,.int .i64 ((m:Nat):Int)] _ _).wp P _ _ _
      rw [hml]
      refine za (zus (gap:=M.gap) (a:=a) (t:=⟨ix,(⟨base,s.fin,[]⟩:SegA).add done⟩) b z d1 d3 (by show ((⟨base,s.fin,[]⟩:SegA).add done).file.length+_<=_;rw [<- ha5];omega) hs) λ_ w' hs=>?_
      obtain ⟨rfl,hs⟩:=hs
      refine zd ?_
      have e6:((⟨base,s.fin,[]⟩:SegA).add done).add [b]=(⟨base,s.fin,[]⟩:SegA).add (done++[b]):=add_add _ _ _
      have hs:Sat w' (z05 M.gap a ⟨ix,((⟨base,s.fin,[]⟩:SegA).add done).add [b]⟩::_):=hs
      rw [e6] at hs
      have hs:=z2e hs
      refine zm ?_
      refine zb hs ?_
      refine wp_lt ?_
      rw [w64 (by omega) (by omega)]
      refine wp_lt ?_
      have en2:z0c ((⟨base,s.fin,[]⟩:SegA).add (done++[b])).bs=b.base+z01 b:=by
       show z0c ([]++(done++[b]).map BatM.p)=_
       rw [List.nil_append,List.map_append]
       exact z35 _ _
      rw [show z0c (SegM.s ⟨ix,(⟨base,s.fin,[]⟩:SegA).add (done++[b])⟩).bs=b.base+z01 b from en2]
      have hs:=z1s ⟨ix,(⟨base,s.fin,[]⟩:SegA).add (done++[b])⟩ hs
      have ec:(at_:Int)+((frL b).length:Nat)=((at_+m:Nat):Int):=by rw [hfrb];omega
      rw [ec]
      refine z0n k ⟨at_+m,b.base+z01 b,done++[b],rfl,by omega,by omega,?_,?_,?_,hs.sub⟩
      ·rw [ha3,List.append_assoc,List.drop_drop];rfl
      ·rw [ha4,List.drop_drop];omega
      ·rw [<- e6,z4x,List.length_append,<- ha5]
       simp only [List.flatMap_cons,List.flatMap_nil,List.append_nil]
       omega
   clear hs
   rintro _ w3 ⟨rfl,hs⟩
   refine zk ?_
   have hs:=hs.pick [1]
   refine za (zwp (lg:=lg) a ⟨ix,s⟩ (by omega) hs) λ_ w' hs=>?_
   obtain ⟨z,rfl,hs⟩:=hs
   refine zd ?_
   have hfin2:∀ {w:World} {D':DiskA},Sat w (lgQ lg { M with z:=z,SM:=M.SM++[(a,⟨ix,s⟩)] }::dk M.d D'::r)->∃ M':LogM,(M'.d=M.d/\M'.pre=M.pre/\M'.seg=M.seg/\M'.gap=M.gap)/\M'.l=M.l++[s]/\M'.SM.length<=M.SM.length+1/\Sat w (lgQ lg M'::dk M.d D'::r):=λhs =>
    ⟨{ M with z:=z,SM:=M.SM++[(a,⟨ix,s⟩)] },⟨rfl,rfl,rfl,rfl⟩,by unfold LogM.l;simp,by simp,hs⟩
   refine zg (λhc=>?_) λhc=>?_
   ·have hc:mm=raw.length:=by omega
    rw [if_pos hc]
    exact ⟨rfl,rfl,hfin2 hs.sub⟩
   ·rw [if_neg (show ¬ mm=raw.length by omega)]
    refine zm ?_
    obtain ⟨hokm2,hs⟩:=z98 hs
    refine zb hs ?_
    refine za (z031 (d:=M.d) (A:=D) nm ((mm:Nat):Int) hs) λ_ w' hs=>?_
    obtain ⟨rfl,hs⟩:=hs
    refine zd ?_
    refine wp_lt ?_
    have hs:=z4o { M with z:=z,SM:=M.SM++[(a,⟨ix,s⟩)] } hokm2 (hs.pick [1,1])
    exact ⟨rfl,rfl,hfin2 hs.sub⟩
end
def z4z (a:Nat) (outs:List BatM):HP:=HP.ex λz:Sl=>HP.star (pt a (.cells #[.slice z.a z.len z.cap] T.a18)) (HP.star (slc T.a1 7 z (outs.flatMap zj)) (z0p outs))
section
variable {w:World} {l r r1 r2:List HP} {lg ao:Nat} {M:LogM} {A:LogA} {D:DiskA} {gap:Int} {a:Nat} {t:SegM} {outs:List BatM}
theorem zj8 (hs:Sat w (z4z ao outs::l)):∃ z:Sl,Sat w (pt ao (.cells #[.slice z.a z.len z.cap] T.a18)::slc T.a1 7 z (outs.flatMap zj)::z0p outs::l):=by
 obtain ⟨z,hs⟩:=hs.ex
 have hs:=hs.star
 exact ⟨z,((hs.pick [1]).star).pick [2]⟩
theorem zcg {z:Sl} (hs:Sat w (pt ao (.cells #[.slice z.a z.len z.cap] T.a18)::slc T.a1 7 z (outs.flatMap zj)::z0p outs::l)):Sat w (z4z ao outs::l) :=
 .ex_mk z (.star_mk (((hs.pick [1,1]).star_mk).pick [1]))
theorem zj5 {b:BatM} (hs:Sat w (slc T.a3 4 b.x (b.rs.flatMap zx)::z0p outs::l)):Sat w (z0p (outs++[b])::l):=by
 have h1:Sat w (HP.all ((b::outs).map rsP)::l):=by
  have h2:Sat w (rsP b::HP.all (outs.map rsP)::l):=hs
  exact h2.all_put
 exact h1.all_perm ((List.perm_append_comm (l₁:=[b]) (l₂:=outs)).map rsP)
theorem zej (hs:Sat w l):Sat w (z0p []::l):=hs.all_nil
theorem zd7 {b:BatM} (hb:b ∈ outs):FocR (z0p outs::l) b.x 4 (b.rs.flatMap zx):=⟨λw hs=>by
 obtain ⟨L,hs⟩:=hs.all_mem (f:=rsP) hb
 exact Sat.rd hs⟩
theorem z02r (b:BatM) (off most:Int) (a1 a2:Nat) (ho : -9223372036854775808<=off/\off<9223372036854775808) (hcap:b.x.len<=b.x.cap) (hol:outs.length<=2000000) [hf:Fo l z4z ao outs r] [h1:FocB r a1 (.cells [.int .i64 off].toArray T.a11) r1] [h2:FocB r a2 (.cells [.int .i64 most].toArray T.a10) r2] [hb:FocR r b.x 4 (b.rs.flatMap zx)] (hs:Sat w l) :
  Ret P F.a58 #[.agg (zj b).toArray,.pointer (some ⟨a1,0,none⟩),.pointer (some ⟨ao,0,none⟩),.pointer (some ⟨a2,0,none⟩)] w λvs w'=>∃ outs':List BatM,vs=[.bool (decide ((outs'.length:Int)<most))]/\outs'.map BatM.p=outs.map BatM.p++(z0y off b).toList.map BatM.p/\Sat w' (z4z ao outs'::r) :=
 zp5 b.base b.pid b.epoch b.seq b.kind b.time b.x _ _ _ <| by
  unfold z02p
  obtain ⟨z,hs⟩:=zj8 (hs.perm hf.perm)
  have hl:=hs.slen z (xs:=outs) (enc:=zj)
  refine z00 hs λa0 w' hs=>?_
  refine zt hs ?_
  refine zb hs ?_
  refine za (zz2 b off ho hcap hs) λ_ w' hs=>?_
  rcases hs with ⟨hn,rfl,hs⟩|⟨c,zc,hc,rfl,hs⟩
  ·refine ⟨(0,0,0,0,0,0,z7i,false,()),rfl,trivial,zge _ _ _ _ _ _ _ _ ?_⟩
   refine zy hs λa3 w' hs=>?_
   refine z03 hs λw' hs=>?_
   refine wp_lt ?_
   refine z3z ?_
   refine z0g ?_ (by simp)
   refine z3f ?_
   refine zb hs ?_
   refine zb hs ?_
   refine wp_lt ?_
   refine ⟨rfl,outs,by rw [hl],by rw [hn];simp,zcg (z:=z) hs.sub⟩
  ·refine ⟨(c.base,c.pid,c.epoch,c.seq,c.kind,c.time,zc,true,()),rfl,trivial,zge _ _ _ _ _ _ _ _ ?_⟩
   refine zy hs λa3 w' hs=>?_
   refine z03 hs λw' hs=>?_
   refine wp_lt ?_
   refine z3z ?_
   refine z17 ?_ (by trivial)
   refine zb hs ?_
   refine zt hs ?_
   refine z6a (xs:=outs) (enc:=zj) (y:=c.at zc) hs (λz' w' hs=>?_) rfl (by omega)
   refine z0f hs λw' hs=>?_
   refine z3f ?_
   refine zb hs ?_
   refine zb hs ?_
   refine wp_lt ?_
   have hs:Sat w' (pt ao (.cells #[.slice z'.a z'.len z'.cap] T.a18)::slc T.a1 7 z' ((outs++[c.at zc]).flatMap zj)::pt a3 _::slc T.a3 4 (c.at zc).x ((c.at zc).rs.flatMap zx)::pt a0 _::z0p outs::r):=hs
   have hl':=hs.slen z' (xs:=outs++[c.at zc]) (enc:=zj)
   refine ⟨rfl,outs++[c.at zc],by rw [hl'],by rw [hc];simp;rfl,?_⟩
   have hs:=zj5 (hs.pick [3,4])
   exact zcg (z:=z') (hs.pick [1,1,0]).sub
theorem zxz (off:Int) (hok:SegOk t.s) (hfl:t.s.file.length<=4194304) [hf:Fo l (z05 gap) a t r] (hs:Sat w l):Ret P F.a80 #[.pointer (some ⟨a,0,none⟩),.int .i64 off] w λvs w'=>vs=[.int .i64 (zsz t.s (z3h (t.s.idx gap).l off))]/\Sat w' (z05 gap a t::r) :=
 zrg _ off <| by
  unfold z01g
  have hi:IdxOk gap (shL t.s.base t.s.fin).length t.s.bs (t.s.idx gap):=zk0 gap t.s.bs.length (n:=t.s.base) (q:=(shL t.s.base t.s.fin).length) rfl hok.base.1 (by omega) hok.bs (by have:=z2a t.s;omega)
  have hs:=z2e (hs.perm hf.perm)
  refine zm ?_
  refine zb hs ?_
  refine za (z01e (b:=t.ix) off hi.offs hs) λ_ w' hs=>?_
  obtain ⟨rfl,hs⟩:=hs
  refine ⟨((orE (z3h (t.s.idx gap).l off)).offset,(orE (z3h (t.s.idx gap).l off)).place,(orE (z3h (t.s.idx gap).l off)).before,(z3h (t.s.idx gap).l off).isSome,()),rfl,trivial,zxf _ _ _ _ ?_⟩
  refine zy hs λc w' hs=>?_
  refine z03 hs λw' hs=>?_
  refine wp_lt ?_
  cases hfe:z3h (t.s.idx gap).l off with
  | some e =>
   refine z17 ?_ (by rfl)
   rw [hfe] at hs
   refine zb hs ?_
   refine wp_lt ?_
   exact ⟨rfl,rfl,z1s t hs.sub⟩
  | none =>
   refine z0g ?_ (by simp)
   refine z07 hs λw' hs=>?_
   refine zm ?_
   refine zb hs ?_
   refine zm ?_
   refine zb hs ?_
   have hb:=hok.base
   have hfn:0<=t.s.fin/\t.s.fin<9223372036854775808:=by have:=hok.fin;omega
   refine za (zfj t.s.base t.s.fin (by omega) hfn hs) λ_ w' hs=>?_
   obtain ⟨y,rfl,hs⟩:=hs
   refine zd ?_
   have hl:=hs.slen y (xs:=shL t.s.base t.s.fin) (enc:=zf)
   refine wp_lt ?_
   refine zi ?_
   refine ⟨rfl,?_,z1s t hs.sub⟩
   rw [hl]
   rfl
set_option maxHeartbeats 1000000 in
theorem zzp (off:Int) (most:Nat) (a1 a2:Nat) (ho : -9223372036854775808<=off/\off<9223372036854775808) {i k kp:Nat} (hsi:i<M.SM.length) (hok:SegOk M.SM[i].2.s) (hfile:zu D.fs (ze M.pre M.SM[i].2.s.base zo)=some (M.SM[i].2.s.file,kp)) (hk:k<=M.SM[i].2.s.bs.length) (hout:outs.length<most) (hol:outs.length+M.SM[i].2.s.bs.length<=2000000)
  (hs:Sat w (z4z ao outs::lgQ lg M::dk M.d D::pt a1 (.cells [.int .i64 off].toArray T.a11)::pt a2 (.cells [.int .i64 (most:Int)].toArray T.a10)::r)) :
  Ret P F.a73 #[.pointer (some ⟨lg,0,none⟩),.pointer (some ⟨M.SM[i].1,0,none⟩),.int .i64 (z38 M.SM[i].2.s k:Nat),.func (.func F.a58) #[] #[.pointer (some ⟨a1,0,none⟩),.pointer (some ⟨ao,0,none⟩),.pointer (some ⟨a2,0,none⟩)]] w λvs w' =>
   ∃ outs':List BatM,vs=[.bool (decide (outs.length+((M.SM[i].2.s.bs.drop k).filterMap (z0y off)).length<most))]/\outs'.map BatM.p=(outs.map BatM.p++(M.SM[i].2.s.bs.drop k).filterMap (z0y off)).take most/\outs'.length<=outs.length+M.SM[i].2.s.bs.length /\
    Sat w' (z4z ao outs'::lgQ lg M::dk M.d D::pt a1 (.cells [.int .i64 off].toArray T.a11)::pt a2 (.cells [.int .i64 (most:Int)].toArray T.a10)::r) :=
 zon _ _ _ _ <| by
  unfold z00p
  obtain ⟨m_,FS_,-,hokD,-⟩:=z20 (hs.pick [2])
  obtain ⟨hokm,hs⟩:=z2j (hs.pick [1])
  have hs:=z2e (z6r (hs.pick [2]) hsi)
  generalize hT:M.SM[i]=T0 at *
  obtain ⟨a,t⟩:=T0
  dsimp only at hok hfile hk hol hs ⊢
  have hrl:t.s.file.length<=4194304:=Nat.le_trans (zcn hfile) hokD.used
  have hbl:=zgo hok
  have hb0:=hok.base
  refine zp (λq w'=>∃ x:Sl,q=(x,())/\x.len<=x.cap/\Sat w' (slc T.a34 1 x (t.s.file.flatMap zf)::pt a (.cells #[.pointer (some ⟨t.ix,0,none⟩),.int .i64 t.s.base,.int .i64 t.s.fin,.int .i64 (z0c t.s.bs),.int .i64 (z1i (-1) t.s.bs),.int .i64 (t.s.file.length:Nat)] T.a29)::z2k t.ix (t.s.idx M.gap)::HP.all ((M.SM.eraseIdx i).map λt=>z05 M.gap t.1 t.2)::pt lg (.cells #[.pointer (some ⟨M.d,0,none⟩),.string M.pre,.int .i64 M.seg,.int .i64 M.gap,.slice M.z.a M.z.len M.z.cap] T.a28)::slc T.a17 1 M.z ((M.SM.map Prod.fst).flatMap z0l)::z4z ao outs::dk M.d D::pt a1 (.cells [.int .i64 off].toArray T.a11)::pt a2 (.cells [.int .i64 (most:Int)].toArray T.a10)::r)) ?_ ?_
  ·refine z07 hs λw' hs=>?_
   refine zm ?_
   refine z1m hs ?_
   refine zm ?_
   refine zb hs ?_
   refine za (z5l (lg:=lg) t.s.base (by omega) (ByteArray.mk #[46,108,111,103]) (by decide) M.pre hokm.size hs) λ_ w' hs=>?_
   obtain ⟨rfl,hs⟩:=hs
   refine zd ?_ (by first|trivial|(repeat (first|exact trivial|exact λ_=>z0i hs|exact λ_=>z0o hs|refine And.intro ?_ ?_)))
   refine zi ?_
   have en:ze M.pre t.s.base (bl (ByteArray.mk #[46,108,111,103]))=ze M.pre t.s.base zo:=rfl
   rw [en]
   refine za (zjk (d:=M.d) (A:=D) (ze M.pre t.s.base zo) hs) λ_ w' hs=>?_
   rcases hs with ⟨f,hff,hfn,x,rfl,hs⟩|⟨hno,rfl,hs⟩
   ·refine zd ?_
    refine wp_lt ?_
    refine zi ?_
    have hfd:zu D.fs f.name=some (f.b,f.kept):=z5x (z1j hokD.sorted) hff
    rw [hfn,hfile] at hfd
    simp only [Option.some.injEq,Prod.mk.injEq] at hfd
    rw [<- hfd.1] at hs
    have hcap:=hs.slc_cap
    exact zh ⟨x,rfl,hcap,hs.sub⟩
   ·rw [z8o.2 hno] at hfile
    cases hfile
  clear hs
  rintro _ w ⟨x,rfl,hcap,hs⟩
  refine zk ?_
  refine wp_lt ?_
  have hl:=hs.slen x (xs:=t.s.file) (enc:=zf)
  have hfin:∀ {w:World} {outs':List BatM},Sat w (slc T.a34 1 x (t.s.file.flatMap zf)::pt a (.cells #[.pointer (some ⟨t.ix,0,none⟩),.int .i64 t.s.base,.int .i64 t.s.fin,.int .i64 (z0c t.s.bs),.int .i64 (z1i (-1) t.s.bs),.int .i64 (t.s.file.length:Nat)] T.a29)::z2k t.ix (t.s.idx M.gap)::HP.all ((M.SM.eraseIdx i).map λt=>z05 M.gap t.1 t.2)::pt lg (.cells #[.pointer (some ⟨M.d,0,none⟩),.string M.pre,.int .i64 M.seg,.int .i64 M.gap,.slice M.z.a M.z.len M.z.cap] T.a28)::slc T.a17 1 M.z ((M.SM.map Prod.fst).flatMap z0l)::z4z ao outs'::dk M.d D::pt a1 (.cells [.int .i64 off].toArray T.a11)::pt a2 (.cells [.int .i64 (most:Int)].toArray T.a10)::r) ->
    Sat w (z4z ao outs'::lgQ lg M::dk M.d D::pt a1 (.cells [.int .i64 off].toArray T.a11)::pt a2 (.cells [.int .i64 (most:Int)].toArray T.a10)::r):=by
   intro w outs' hs
   have h1:Sat w (z05 M.gap M.SM[i].1 M.SM[i].2::HP.all ((M.SM.eraseIdx i).map λt=>z05 M.gap t.1 t.2)::pt lg (.cells #[.pointer (some ⟨M.d,0,none⟩),.string M.pre,.int .i64 M.seg,.int .i64 M.gap,.slice M.z.a M.z.len M.z.cap] T.a28)::slc T.a17 1 M.z ((M.SM.map Prod.fst).flatMap z0l)::z4z ao outs'::dk M.d D::pt a1 (.cells [.int .i64 off].toArray T.a11)::pt a2 (.cells [.int .i64 (most:Int)].toArray T.a10)::r):=by
    rw [hT]
    exact z1s t hs.tail
   have h2:=z4u hsi h1
   exact (z1a M hokm (h2.pick [1,1])).sub
  have hfull:∀ {outs':List BatM} {j:Nat},outs'.map BatM.p=outs.map BatM.p++((t.s.bs.drop k).take j).filterMap (z0y off)->outs'.length=outs.length+(((t.s.bs.drop k).take j).filterMap (z0y off)).length:=λh=>by
   have:=congrArg List.length h
   simpa using this
  refine zp (λ_ w'=>∃ outs':List BatM,outs'.map BatM.p=outs.map BatM.p++(t.s.bs.drop k).filterMap (z0y off)/\outs'.length<most/\outs'.length<=outs.length+t.s.bs.length/\Sat w' (slc T.a34 1 x (t.s.file.flatMap zf)::pt a (.cells #[.pointer (some ⟨t.ix,0,none⟩),.int .i64 t.s.base,.int .i64 t.s.fin,.int .i64 (z0c t.s.bs),.int .i64 (z1i (-1) t.s.bs),.int .i64 (t.s.file.length:Nat)] T.a29)::z2k t.ix (t.s.idx M.gap)::HP.all ((M.SM.eraseIdx i).map λt=>z05 M.gap t.1 t.2)::pt lg (.cells #[.pointer (some ⟨M.d,0,none⟩),.string M.pre,.int .i64 M.seg,.int .i64 M.gap,.slice M.z.a M.z.len M.z.cap] T.a28)::slc T.a17 1 M.z ((M.SM.map Prod.fst).flatMap z0l)::z4z ao outs'::dk M.d D::pt a1 (.cells [.int .i64 off].toArray T.a11)::pt a2 (.cells [.int .i64 (most:Int)].toArray T.a10)::r)) ?_ ?_
  rotate_left
  ·rintro _ w2 ⟨outs',h1,h2,h3,hs⟩
   have h4:=congrArg List.length h1
   simp only [List.length_map,List.length_append] at h4
   refine ⟨rfl,outs',by rw [decide_eq_true (by omega)],?_,h3,hfin hs⟩
   rw [<- h1,List.take_of_length_le]
   rw [List.length_map];omega
  refine z08 (λm v w=>∃ (j:Nat) (outs':List BatM),v=(((z38 t.s (k+j):Nat):Int),())/\k+j<=t.s.bs.length/\t.s.bs.length-(k+j)=m/\outs'.map BatM.p=outs.map BatM.p++((t.s.bs.drop k).take j).filterMap (z0y off)/\outs'.length<most/\outs'.length<=outs.length+j/\Sat w (slc T.a34 1 x (t.s.file.flatMap zf)::pt a (.cells #[.pointer (some ⟨t.ix,0,none⟩),.int .i64 t.s.base,.int .i64 t.s.fin,.int .i64 (z0c t.s.bs),.int .i64 (z1i (-1) t.s.bs),.int .i64 (t.s.file.length:Nat)] T.a29)::z2k t.ix (t.s.idx M.gap)::HP.all ((M.SM.eraseIdx i).map λt=>z05 M.gap t.1 t.2)::pt lg (.cells #[.pointer (some ⟨M.d,0,none⟩),.string M.pre,.int .i64 M.seg,.int .i64 M.gap,.slice M.z.a M.z.len M.z.cap] T.a28)::slc T.a17 1 M.z ((M.SM.map Prod.fst).flatMap z0l)::z4z ao outs'::dk M.d D::pt a1 (.cells [.int .i64 off].toArray T.a11)::pt a2 (.cells [.int .i64 (most:Int)].toArray T.a10)::r)) (t.s.bs.length-k)
   ⟨0,outs,rfl,by omega,by omega,by simp,hout,by omega,hs⟩ ?_
  clear hs
  rintro m _ w ⟨j,outs',rfl,hj,hm,hmap,hlt,hol',hs⟩
  refine zk ?_
  refine z0k ?_
  refine zb hs ?_
  have hple:=zgy t.s (k+j)
  refine zg (λhc=>?_) λhc=>?_
  rotate_left
  ·have hend:k+j=t.s.bs.length:=by
    apply Decidable.byContradiction
    intro hne
    have hlt2:k+j<t.s.bs.length:=by omega
    have h1:=zhg t.s hlt2
    have h2:=zgy t.s (k+j+1)
    have h3:=z3p (hok.bs.valid _ (List.getElem_mem hlt2)).1
    exact hc ⟨by omega,by omega⟩
   refine zn (zh ⟨outs',?_,hlt,by omega,hs⟩)
   rw [hmap,List.take_of_length_le (by rw [List.length_drop];omega)]
  have hjl:k+j<t.s.bs.length:=by
   apply Decidable.byContradiction
   intro hne
   have he:k+j=t.s.bs.length:=by omega
   have h1:=zvn t.s
   rw [he] at hc
   have hc1:((z38 t.s t.s.bs.length:Nat):Int)<(x.len:Nat):=hc.1
   omega
  obtain ⟨hfst,hdec⟩:=zqb hok hjl
  obtain ⟨hvb,hpb⟩:=hok.bs.valid _ (List.getElem_mem hjl)
  have hblen:=z45 hvb
  have hxl:z38 t.s (k+j)<=x.len:=by omega
  refine wp_must (by omega) ?_
  rw [Int.toNat_natCast]
  have hxc:FocR (slc T.a34 1 x (t.s.file.flatMap zf)::pt a (.cells #[.pointer (some ⟨t.ix,0,none⟩),.int .i64 t.s.base,.int .i64 t.s.fin,.int .i64 (z0c t.s.bs),.int .i64 (z1i (-1) t.s.bs),.int .i64 (t.s.file.length:Nat)] T.a29)::z2k t.ix (t.s.idx M.gap)::HP.all ((M.SM.eraseIdx i).map λt=>z05 M.gap t.1 t.2)::pt lg (.cells #[.pointer (some ⟨M.d,0,none⟩),.string M.pre,.int .i64 M.seg,.int .i64 M.gap,.slice M.z.a M.z.len M.z.cap] T.a28)::slc T.a17 1 M.z ((M.SM.map Prod.fst).flatMap z0l)::z4z ao outs'::dk M.d D::pt a1 (.cells [.int .i64 off].toArray T.a11)::pt a2 (.cells [.int .i64 (most:Int)].toArray T.a10)::r) ⟨z1f x.a 1 (z38 t.s (k+j)) x.cap,x.len-z38 t.s (k+j),x.cap-z38 t.s (k+j)⟩ 1 ((t.s.file.drop (z38 t.s (k+j))).flatMap zf):=FocR.post hcap
  refine za (ze7 ⟨z1f x.a 1 (z38 t.s (k+j)) x.cap,x.len-z38 t.s (k+j),x.cap-z38 t.s (k+j)⟩ (t.s.file.drop (z38 t.s (k+j))) (by show x.len-_<=x.cap-_;omega) (by rw [List.length_drop];omega) hs) λ_ w' hs=>?_
  obtain ⟨y,rfl,hs⟩:=hs
  rw [hfst] at hs ⊢
  refine zd ?_
  refine wp_lt ?_
  refine wp_lt ?_
  dsimp only [Option.getD,Option.isSome]
  have hs:Sat w' (slc T.a34 1 y ((z24 t.s.bs[k+j]).flatMap zf)::_):=hs
  refine z0g ?_ (by simp)
  refine za (zkn y (z24 t.s.bs[k+j]) (by omega) hs) λ_ w' hs=>?_
  rcases hs with ⟨b,z,hdec2,rfl,hs⟩|⟨hdec2,rfl,hs⟩
  rotate_left
  ·rw [hdec] at hdec2;cases hdec2
  rw [hdec] at hdec2
  simp only [Option.some.injEq] at hdec2
  subst hdec2
  generalize hbb:t.s.bs[k+j]=b at *
  refine ⟨(b.base,b.pid,b.epoch,b.seq,b.kind,b.time,z,0,()),rfl,trivial,zge _ _ _ _ _ _ _ _ ?_⟩
  refine zy hs λc w' hs=>?_
  refine z03 hs λw' hs=>?_
  refine wp_lt ?_
  have hzc:z.len<=z.cap:=(hs.pick [1]).slc_cap
  have htk:(t.s.bs.drop k).take (j+1)=(t.s.bs.drop k).take j++[b]:=by
   rw [List.take_succ_eq_append_getElem (by rw [List.length_drop];omega),List.getElem_drop,hbb]
  have hfp:(z0y off b).toList.map BatM.p=(z0y off b).toList:=by
   cases hfb:z0y off b with
   | none=>rfl
   | some c=>simp [zni hpb hfb]
  have hfm:((t.s.bs.drop k).take (j+1)).filterMap (z0y off)=((t.s.bs.drop k).take j).filterMap (z0y off)++(z0y off b).toList:=by
   rw [htk,List.filterMap_append]
   congr 1
  have hpos:=zhg t.s hjl
  rw [hbb] at hpos
  have hple2:=zgy t.s (k+j+1)
  refine z3z ?_
  refine zt hs ?_
  refine z0g ?_ (by simp)
  have hzb:FocR (pt c (.cells #[.int .i64 b.base,.int .i64 b.pid,.int .i64 b.epoch,.int .i64 b.seq,.int .i64 b.kind,.int .i64 b.time,.slice z.a z.len z.cap] T.a1)::slc T.a3 4 z (b.rs.flatMap zx)::slc T.a34 1 y ((z24 b).flatMap zf)::slc T.a34 1 x (t.s.file.flatMap zf)::pt a (.cells #[.pointer (some ⟨t.ix,0,none⟩),.int .i64 t.s.base,.int .i64 t.s.fin,.int .i64 (z0c t.s.bs),.int .i64 (z1i (-1) t.s.bs),.int .i64 (t.s.file.length:Nat)] T.a29)::z2k t.ix (t.s.idx M.gap)::HP.all ((M.SM.eraseIdx i).map λt=>z05 M.gap t.1 t.2)::pt lg (.cells #[.pointer (some ⟨M.d,0,none⟩),.string M.pre,.int .i64 M.seg,.int .i64 M.gap,.slice M.z.a M.z.len M.z.cap] T.a28)::slc T.a17 1 M.z ((M.SM.map Prod.fst).flatMap z0l)::dk M.d D::pt a1 (.cells [.int .i64 off].toArray T.a11)::pt a2 (.cells [.int .i64 (most:Int)].toArray T.a10)::r) (b.at z).x 4 ((b.at z).rs.flatMap zx):=(inferInstance:FocR (pt c (.cells #[.int .i64 b.base,.int .i64 b.pid,.int .i64 b.epoch,.int .i64 b.seq,.int .i64 b.kind,.int .i64 b.time,.slice z.a z.len z.cap] T.a1)::slc T.a3 4 z (b.rs.flatMap zx)::_) z 4 (b.rs.flatMap zx))
  have hs:Sat w' (z4z ao outs'::pt c (.cells #[.int .i64 b.base,.int .i64 b.pid,.int .i64 b.epoch,.int .i64 b.seq,.int .i64 b.kind,.int .i64 b.time,.slice z.a z.len z.cap] T.a1)::slc T.a3 4 z (b.rs.flatMap zx)::slc T.a34 1 y ((z24 b).flatMap zf)::slc T.a34 1 x (t.s.file.flatMap zf)::pt a (.cells #[.pointer (some ⟨t.ix,0,none⟩),.int .i64 t.s.base,.int .i64 t.s.fin,.int .i64 (z0c t.s.bs),.int .i64 (z1i (-1) t.s.bs),.int .i64 (t.s.file.length:Nat)] T.a29)::z2k t.ix (t.s.idx M.gap)::HP.all ((M.SM.eraseIdx i).map λt=>z05 M.gap t.1 t.2)::pt lg (.cells #[.pointer (some ⟨M.d,0,none⟩),.string M.pre,.int .i64 M.seg,.int .i64 M.gap,.slice M.z.a M.z.len M.z.cap] T.a28)::slc T.a17 1 M.z ((M.SM.map Prod.fst).flatMap z0l)::dk M.d D::pt a1 (.cells [.int .i64 off].toArray T.a11)::pt a2 (.cells [.int .i64 (most:Int)].toArray T.a10)::r):=hs.sub
  have htold:=z02r (ao:=ao) (outs:=outs') (b.at z) off (most:Int) a1 a2 ho hzc (by omega) hs
  refine ⟨F.a58,#[],#[.pointer (some ⟨a1,0,none⟩),.pointer (some ⟨ao,0,none⟩),.pointer (some ⟨a2,0,none⟩)],rfl,by kernel_rfl,?_⟩
  refine Calls.mono htold λe w' ⟨vs,he,outs2,hvs,hmap2,hs⟩=>⟨(decide ((outs2.length:Int)<(most:Int)),()),by rw [he,hvs];rfl,trivial,?_⟩
  refine z3f ?_
  have hfe:(z0y off (b.at z)).toList.map BatM.p=(z0y off b).toList:=by
   have hpz:b={ (b.at z) with x:=z7i }:=by rw [<- hpb];rfl
   have e2:z0y off (b.at z)=(z0y off b).map λc=>c.at z:=by
    unfold z0y
    have ev:z02 (b.at z)=z02 b:=rfl
    have en:z3i (b.at z)=z3i b:=rfl
    have em:z10 (b.at z)=z10 b:=rfl
    rw [ev,en,em]
    split
    ·rfl
    ·show (if z10 b=true\/off<=b.base then _ else _)=_
     split <;> rfl
   rw [e2]
   cases hfb:z0y off b with
   | none=>rfl
   | some c =>
    have:=zni hpb hfb
    show [(c.at z).p]=[c]
    have e3:(c.at z).p=c.p:=rfl
    rw [e3,this]
  rw [hfe,hmap,List.append_assoc,<- hfm] at hmap2
  have hlen2:=hfull hmap2
  have hfl1:(z0y off b).toList.length<=1:=by cases z0y off b <;> simp
  have hlen1:=hfull hmap
  rw [hfm,List.length_append] at hlen2
  have hback:∀ {w:World},Sat w (z4z ao outs2::pt c (.cells #[.int .i64 b.base,.int .i64 b.pid,.int .i64 b.epoch,.int .i64 b.seq,.int .i64 b.kind,.int .i64 b.time,.slice z.a z.len z.cap] T.a1)::slc T.a3 4 z (b.rs.flatMap zx)::slc T.a34 1 y ((z24 b).flatMap zf)::slc T.a34 1 x (t.s.file.flatMap zf)::pt a (.cells #[.pointer (some ⟨t.ix,0,none⟩),.int .i64 t.s.base,.int .i64 t.s.fin,.int .i64 (z0c t.s.bs),.int .i64 (z1i (-1) t.s.bs),.int .i64 (t.s.file.length:Nat)] T.a29)::z2k t.ix (t.s.idx M.gap)::HP.all ((M.SM.eraseIdx i).map λt=>z05 M.gap t.1 t.2)::pt lg (.cells #[.pointer (some ⟨M.d,0,none⟩),.string M.pre,.int .i64 M.seg,.int .i64 M.gap,.slice M.z.a M.z.len M.z.cap] T.a28)::slc T.a17 1 M.z ((M.SM.map Prod.fst).flatMap z0l)::dk M.d D::pt a1 (.cells [.int .i64 off].toArray T.a11)::pt a2 (.cells [.int .i64 (most:Int)].toArray T.a10)::r) ->
    Sat w (slc T.a34 1 x (t.s.file.flatMap zf)::pt a (.cells #[.pointer (some ⟨t.ix,0,none⟩),.int .i64 t.s.base,.int .i64 t.s.fin,.int .i64 (z0c t.s.bs),.int .i64 (z1i (-1) t.s.bs),.int .i64 (t.s.file.length:Nat)] T.a29)::z2k t.ix (t.s.idx M.gap)::HP.all ((M.SM.eraseIdx i).map λt=>z05 M.gap t.1 t.2)::pt lg (.cells #[.pointer (some ⟨M.d,0,none⟩),.string M.pre,.int .i64 M.seg,.int .i64 M.gap,.slice M.z.a M.z.len M.z.cap] T.a28)::slc T.a17 1 M.z ((M.SM.map Prod.fst).flatMap z0l)::z4z ao outs2::dk M.d D::pt a1 (.cells [.int .i64 off].toArray T.a11)::pt a2 (.cells [.int .i64 (most:Int)].toArray T.a10)::r):=λhs=>hs.sub
  have hs:=hback hs
  refine zg (λh5=>?_) λh5=>?_
  ·have h5:most<=outs2.length:=by
    have:¬ ((outs2.length:Int)<(most:Int)):=by simpa using h5
    omega
   have h6:outs2.length=most:=by omega
   have h7:((t.s.bs.drop k).filterMap (z0y off))=((t.s.bs.drop k).take (j+1)).filterMap (z0y off)++((t.s.bs.drop k).drop (j+1)).filterMap (z0y off):=by
    rw [<- List.filterMap_append,List.take_append_drop]
   have h8:=congrArg List.length hmap2
   simp only [List.length_map,List.length_append] at h8
   refine zn (zn ⟨rfl,outs2,?_,?_,by omega,hfin hs⟩)
   ·rw [decide_eq_false]
    rw [h7,List.length_append]
    omega
   ·rw [h7,<- List.append_assoc,<- hmap2]
    rw [List.take_append_of_le_length (by rw [List.length_map];omega),List.take_of_length_le (by rw [List.length_map];omega)]
  ·have h5:outs2.length<most:=by
    have:((outs2.length:Int)<(most:Int)):=by simpa using h5
    omega
   have ew:IntKind.wrap .i64 (((z38 t.s (k+j):Nat):Int)+((frL b).length:Nat))=((z38 t.s (k+(j+1)):Nat):Int):=by
    rw [show k+(j+1)=k+j+1 by omega,hpos,w64 (by omega) (by omega)];omega
   refine z1n (y:=((z38 t.s (k+(j+1)):Nat):Int)) ?_ ew
   exact z0n (t.s.bs.length-(k+(j+1))) ⟨j+1,outs2,rfl,by omega,rfl,hmap2,h5,by omega,hs⟩
end
def zc4 (pre:ByteArray) (l:List SegA) (D:DiskA):Prop:=∀ s ∈ l,∃ k,zu D.fs (ze pre s.base zo)=some (s.file,k)
theorem zhq {l:List SegA} (hok:z0b 0 l):∀ s ∈ l,zl l<=s.base:=by
 cases l with
 | nil=>intro s hs;cases hs
 | cons a l =>
  intro s hs
  show a.base<=s.base
  rcases List.mem_cons.1 hs with rfl|hs
  ·exact Int.le_refl _
  ·have:=(hok.2.2.mem s hs).2
   omega
theorem zfy {l:List SegA} (hok:z0b 0 l):zl l<=zr l:=by
 by_cases h:l=[]
 ·subst h;decide
 ·obtain ⟨l0,s,rfl⟩:=z2d h
  have h1:=zhq hok s (by simp)
  have h2:=(z5f (hok.mem s (by simp)).1).1
  unfold zr
  rw [z1l]
  simp only
  omega
theorem zxs {n:Int} {bs:List BatM} (h:z1y n bs):∀ b ∈ bs,n<=b.base:=by
 intro b hb
 obtain ⟨j,hj,rfl⟩:=List.mem_iff_getElem.1 hb
 cases j with
 | zero =>
  cases bs with
  | nil=>simp at hj
  | cons c cs=>exact h.2.2.1
 | succ j =>
  have h1:=h.lt 0 (j+1) hj (by omega)
  obtain ⟨s1,-,-,-,-⟩:=z1e _ (h.valid _ (List.getElem_mem (show 0<bs.length by omega))).1
  omega
theorem zt3 {off:Int} {b:BatM} (hv:z02 b=0) (h:off<=b.base):z0y off b=some b:=by
 obtain ⟨s1,-,-,-,-⟩:=z1e b hv
 unfold z0y
 rw [if_neg,if_pos (.inr h)]
 rintro (hh|hh)
 ·exact hh hv
 ·unfold z3i at hh;rw [if_neg (by rw [hv];simp)] at hh;omega
theorem zkp {α:Type} {f:α->Option α} {l:List α} (h:∀ x ∈ l,f x=some x):l.filterMap f=l:=by
 induction l with
 | nil=>rfl
 | cons a l ih=>rw [List.filterMap_cons,h a (List.mem_cons_self ..)];simp only;rw [ih λx hx=>h x (List.mem_cons_of_mem _ hx)]
theorem zuo {l:List SegA} (hok:z0b 0 l) {n:Int} (hn:(z0e l).length<=n) (h1:1<=n):zdb l (zl l) n=(0,z0e l):=by
 have:=zfy hok
 unfold zdb
 rw [if_neg (by omega),if_neg (by omega),zkp,List.take_of_length_le (by omega)]
 intro b hb
 obtain ⟨s,hs,hbs⟩:=List.mem_flatMap.1 hb
 have h2:=hok.mem s hs
 exact zt3 (h2.1.bs.valid b hbs).1 (by have:=zhq hok s hs;have:=zxs h2.1.bs b hbs;omega)
section
variable {w:World} {l r r1 r2:List HP} {lg ao:Nat} {M:LogM} {A:LogA} {D:DiskA} {gap:Int} {a:Nat} {t:SegM} {outs:List BatM}
theorem zuh (i:Nat) (a0 a1:Nat) (off:Int) (hi:i<M.SM.length)
  (hs:Sat w (pt a0 (.cells [.pointer (some ⟨lg,0,none⟩)].toArray T.a16)::pt a1 (.cells [.int .i64 off].toArray T.a11)::lgQ lg M::r)) :
  Ret P F.a57 #[.int .i64 (i:Int),.pointer (some ⟨a0,0,none⟩),.pointer (some ⟨a1,0,none⟩)] w λvs w'=>vs=[.bool (decide (M.SM[i].2.s.base>off))]/\Sat w' (pt a0 (.cells [.pointer (some ⟨lg,0,none⟩)].toArray T.a16)::pt a1 (.cells [.int .i64 off].toArray T.a11)::lgQ lg M::r) :=
 zqy _ _ _ <| by
  unfold z026
  obtain ⟨hokm,hs⟩:=z2j (hs.pick [2])
  refine z07 hs λw' hs=>?_
  refine zb hs ?_
  refine zm ?_
  refine zb hs ?_
  refine z1k hs (xs:=M.SM.map Prod.fst) (enc:=z0l) i (by rw [List.length_map];exact hi) ?_
  have e0:(M.SM.map Prod.fst)[i]'(by rw [List.length_map];exact hi)=M.SM[i].1:=by simp
  rw [e0]
  refine zm ?_
  have hs:=z2e (z6r (hs.pick [2]) hi)
  refine zb hs ?_
  refine zb hs ?_
  refine wp_lt ?_
  refine zi ?_
  have hs:=z4u hi (z1s M.SM[i].2 hs)
  have hs:=z1a M hokm (hs.pick [1,1])
  exact ⟨rfl,rfl,hs.sub⟩
set_option maxHeartbeats 1000000 in
theorem zy1 (off most:Int) (ho : -9223372036854775808<=off/\off<9223372036854775808) (hmo:most<=1099511627776) {r1:List HP} [hf:Fo l lgP lg A r1] [hf2:Fo r1 dk A.d D r] (hok:z0b 0 A.l) (hhas:zc4 A.pre A.l D) (hlen:A.l.length<=1000000) (hall:(z0e A.l).length<=1000000) (hs:Sat w l) :
  Ret P F.a56 #[.pointer (some ⟨lg,0,none⟩),.int .i64 off,.int .i64 most] w λvs w'=>∃ (z:Sl) (outs:List BatM),vs=[z.v,.int .i64 (zdb A.l off most).1]/\outs.map BatM.p=(zdb A.l off most).2/\Sat w' (slc T.a1 7 z (outs.flatMap zj)::z0p outs::lgP lg A::dk A.d D::r) :=
 zrl _ off most <| by
  unfold z00o
  have hs:=hs.perm (hf.perm.trans (.cons _ hf2.perm))
  clear hf hf2
  obtain ⟨M,rfl,hs⟩:=z4w hs
  have hMl:M.A.l=M.l:=rfl
  have hMpre:M.A.pre=M.pre:=rfl
  have hMd:M.A.d=M.d:=rfl
  rw [hMl] at hlen hok hhas hall ⊢
  rw [hMpre] at hhas
  rw [hMd] at hs ⊢
  have hll:M.l.length=M.SM.length:=List.length_map ..
  have z4y:∀ (i:Nat) (h:i<M.SM.length),M.SM[i].2.s=M.l[i]'(by omega):=λi h=>by unfold LogM.l;simp
  obtain ⟨m_,FS_,-,hokD,-⟩:=z20 (hs.pick [1])
  refine z00 hs λa0 w' hs=>?_
  refine z00 hs λa1 w' hs=>?_
  refine z00 hs λa2 w' hs=>?_
  refine zb hs ?_
  refine wp_lt ?_
  refine z0g ?_ (by simp)
  refine zb hs ?_
  refine wp_lt ?_
  have hfin0:∀ {w:World} {L:List HP},Sat w (lgQ lg M::dk M.d D::r)->Sat w (slc T.a1 7 ⟨none,0,0⟩ (([]:List BatM).flatMap zj)::z0p []::lgP lg M.A::dk M.d D::r):=λhs=>(zej (z2w M hs)).slc_nil
  unfold zdb
  refine zg (λh=>?_) λh=>?_
  ·rw [if_pos (show most<1 by omega)]
   have hs:Sat w' (lgQ lg M::dk M.d D::r):=hs.sub
   exact ⟨rfl,⟨none,0,0⟩,[],rfl,rfl,hfin0 (L:=[]) hs⟩
  rw [if_neg (show ¬ most<1 by omega)]
  refine zp (λq w'=>q=(decide (off<zl M.l\/off>zr M.l),())/\Sat w' (pt a2 (.cells [.int .i64 most].toArray T.a10)::pt a1 (.cells [.int .i64 off].toArray T.a11)::pt a0 (.cells [.pointer (some ⟨lg,0,none⟩)].toArray T.a16)::lgQ lg M::dk M.d D::r)) ?_ ?_
  ·refine z07 hs λw' hs=>?_
   refine z1m hs ?_
   refine zb hs ?_
   refine za (za7 (lg:=lg) hs) λ_ w' hs=>?_
   obtain ⟨rfl,hs⟩:=hs
   refine zd ?_ (by first|trivial|(repeat (first|exact trivial|exact λ_=>z0i hs|exact λ_=>z0o hs|refine And.intro ?_ ?_)))
   refine z1m hs ?_
   refine zb hs ?_
   refine zg (λh1=>?_) λh1=>?_
   ·refine zi ?_
    exact zh ⟨by rw [decide_eq_true (.inl h1)],hs.sub⟩
   ·refine za (z8z (lg:=lg) (by omega) hs) λ_ w' hs=>?_
    obtain ⟨rfl,hs⟩:=hs
    refine zd ?_ (by first|trivial|(repeat (first|exact trivial|exact λ_=>z0i hs|exact λ_=>z0o hs|refine And.intro ?_ ?_)))
    refine wp_lt ?_
    refine zi ?_
    refine zh ⟨?_,hs.sub⟩
    rw [decide_eq_decide.2 (show (off<zl M.l\/off>zr M.l)↔off>zr M.l from ⟨λhh=>hh.resolve_left h1,.inr⟩)]
  rintro _ w2 ⟨rfl,hs⟩
  refine zg (λh1=>?_) λh1=>?_
  ·have h1:off<zl M.l\/off>zr M.l:=by simpa using h1
   rw [if_pos h1]
   have hs:Sat w2 (lgQ lg M::dk M.d D::r):=hs.sub
   exact ⟨rfl,⟨none,0,0⟩,[],rfl,rfl,hfin0 (L:=[]) hs⟩
  have h1:¬ (off<zl M.l\/off>zr M.l):=by simpa using h1
  rw [if_neg h1]
  obtain ⟨mN,rfl⟩:∃ mN:Nat,most=(mN:Int):=⟨most.toNat,by omega⟩
  rw [Int.toNat_natCast]
  refine zy hs λao w' hs=>?_
  refine zb hs ?_
  refine zm ?_
  obtain ⟨hokm,hs⟩:=z2j (hs.pick [4])
  refine zb hs ?_
  have hl:=hs.slen M.z (xs:=M.SM.map Prod.fst) (enc:=z0l)
  rw [List.length_map] at hl
  have hs:=z1a M hokm hs
  have hs:Sat w' (pt a0 (.cells [.pointer (some ⟨lg,0,none⟩)].toArray T.a16)::pt a1 (.cells [.int .i64 off].toArray T.a11)::lgQ lg M::pt ao (.cells #[.slice none 0 0] T.a18)::pt a2 (.cells [.int .i64 (mN:Int)].toArray T.a10)::dk M.d D::r):=hs.sub
  rw [hl]
  refine za (ziy M.SM.length (by omega) F.a57 #[.pointer (some ⟨a0,0,none⟩),.pointer (some ⟨a1,0,none⟩)] (λi=>decide (((M.l.map SegA.base).getD i 0)>off)) (by kernel_rfl) (λi w hi hs=>?_) hs) λ_ w' hs=>?_
  ·have e:(M.l.map SegA.base).getD i 0=M.SM[i].2.s.base:=by
    rw [List.getD_eq_getElem?_getD,List.getElem?_map,List.getElem?_eq_getElem (by omega),z4y i hi];rfl
   simp only [e]
   exact zuh (M:=M) i a0 a1 off hi hs
  obtain ⟨i0,hi0,hs1,hs2,rfl,hs⟩:=hs
  refine zd ?_
  refine z1n (y:=(i0:Int)-1) ?_ (by rw [w64 (by omega) (by omega)])
  refine z1n (y:=((i0-1:Nat):Int)) ?_ (by split <;> omega)
  have hskip:i0-1<M.SM.length->(z0e M.l).filterMap (z0y off)=(z0e (M.l.drop (i0-1))).filterMap (z0y off):=λhlt=>by
   refine zvd hok (i:=i0-1) (by omega) ?_
   by_cases h0:i0=0
   ·right;omega
   ·left
    have h2:=hs1 (by omega)
    rw [List.getD_eq_getElem?_getD,List.getElem?_map,List.getElem?_eq_getElem (by omega)] at h2
    have h2:decide ((M.l[i0-1]'(by omega)).base>off)=false:=h2
    simpa using h2
  have hs:Sat w' (z4z ao []::lgQ lg M::dk M.d D::pt a1 (.cells [.int .i64 off].toArray T.a11)::pt a2 (.cells [.int .i64 (mN:Int)].toArray T.a10)::pt a0 (.cells [.pointer (some ⟨lg,0,none⟩)].toArray T.a16)::r):=by
   have h3:Sat w' (slc T.a1 7 ⟨none,0,0⟩ (([]:List BatM).flatMap zj)::z0p []::_):=(zej hs).slc_nil
   have h4:Sat w' (pt ao (.cells #[.slice none 0 0] T.a18)::slc T.a1 7 ⟨none,0,0⟩ (([]:List BatM).flatMap zj)::z0p []::lgQ lg M::dk M.d D::pt a1 (.cells [.int .i64 off].toArray T.a11)::pt a2 (.cells [.int .i64 (mN:Int)].toArray T.a10)::pt a0 (.cells [.pointer (some ⟨lg,0,none⟩)].toArray T.a16)::r):=h3.sub
   exact zcg (z:=⟨none,0,0⟩) h4
  refine zp (λ_ w'=>∃ outs:List BatM,outs.map BatM.p=((z0e M.l).filterMap (z0y off)).take mN/\Sat w' (z4z ao outs::lgQ lg M::dk M.d D::pt a1 (.cells [.int .i64 off].toArray T.a11)::pt a2 (.cells [.int .i64 (mN:Int)].toArray T.a10)::pt a0 (.cells [.pointer (some ⟨lg,0,none⟩)].toArray T.a16)::r)) ?_ ?_
  rotate_left
  ·rintro _ w3 ⟨outs,h4,hs⟩
   obtain ⟨z,hs⟩:=zj8 hs
   refine zb hs ?_
   refine ⟨rfl,z,outs,rfl,h4,?_⟩
   have hs:Sat w3 (lgQ lg M::slc T.a1 7 z (outs.flatMap zj)::z0p outs::dk M.d D::r):=hs.sub
   have hs:=z2w M hs
   exact hs.sub
  have hpre:∀ (j:Nat),i0-1<=j->j<=M.l.length->(z0e ((M.l.drop (i0-1)).take (j-(i0-1)))).length<=1000000:=λj h1 h2=>by
   refine Nat.le_trans ?_ hall
   have:∀ (a b:List SegA),a.Sublist b->(z0e a).length<=(z0e b).length:=λa b h=>by
    induction h with
    | slnil=>exact Nat.le_refl _
    | cons x _ ih=>unfold z0e at *;rw [List.flatMap_cons,List.length_append];omega
    | cons_cons x _ ih=>unfold z0e at *;rw [List.flatMap_cons,List.flatMap_cons,List.length_append,List.length_append];omega
   exact this _ _ ((List.take_sublist _ _).trans (List.drop_sublist _ _))
  refine z08 (λm v w=>∃ (j:Nat) (outs:List BatM),v=((j:Int),())/\i0-1<=j/\(j<=M.SM.length\/j=i0-1)/\M.SM.length-j=m/\outs.map BatM.p=(z0e ((M.l.drop (i0-1)).take (j-(i0-1)))).filterMap (z0y off)/\outs.length<mN /\
   Sat w (z4z ao outs::lgQ lg M::dk M.d D::pt a1 (.cells [.int .i64 off].toArray T.a11)::pt a2 (.cells [.int .i64 (mN:Int)].toArray T.a10)::pt a0 (.cells [.pointer (some ⟨lg,0,none⟩)].toArray T.a16)::r)) (M.SM.length-(i0-1))
   ⟨i0-1,[],rfl,Nat.le_refl _,.inr rfl,rfl,by simp [z0e],by show 0<mN;omega,hs⟩ ?_
  clear hs
  rintro m _ w ⟨j,outs,rfl,hj1,hj2,hm,hmap,hlt,hs⟩
  refine zk ?_
  refine zb hs ?_
  refine zm ?_
  obtain ⟨hokm,hs⟩:=z2j (hs.pick [1])
  refine zb hs ?_
  refine zg (λhc=>?_) λhc=>?_
  rotate_left
  ·have hs:=z1a M hokm hs
   refine zn (zh ⟨outs,?_,hs.sub⟩)
   by_cases hlt2:i0-1<M.SM.length
   ·have hje:j=M.SM.length:=by omega
    rw [hskip hlt2,hmap,hje]
    rw [List.take_of_length_le (l:=M.l.drop (i0-1)) (by rw [List.length_drop];omega)] at hmap ⊢
    have:=congrArg List.length hmap
    rw [List.length_map] at this
    rw [List.take_of_length_le (by omega)]
   ·have h0:M.l=[]:=List.length_eq_zero_iff.1 (by omega)
    rw [hmap,h0]
    simp [z0e]
  have hjl:j<M.SM.length:=by omega
  refine zb hs ?_
  refine zm ?_
  refine zb hs ?_
  refine z1k hs (xs:=M.SM.map Prod.fst) (enc:=z0l) j (by rw [List.length_map];exact hjl) ?_
  have e0:(M.SM.map Prod.fst)[j]'(by rw [List.length_map];exact hjl)=M.SM[j].1:=by simp
  rw [e0]
  have hmem:M.SM[j].2.s ∈ M.l:=List.mem_map.2 ⟨_,List.getElem_mem hjl,rfl⟩
  have hsok:=(hok.mem _ hmem).1
  obtain ⟨kp,hfile⟩:=hhas _ hmem
  have hrl:M.SM[j].2.s.file.length<=4194304:=Nat.le_trans (zcn hfile) hokD.used
  have hbl:=zgo hsok
  obtain ⟨k,hk,hpl,hskp⟩:=zss hsok hrl M.gap off
  have hlt2:i0-1<M.SM.length:=by omega
  have hstep:(M.l.drop (i0-1)).take (j+1-(i0-1))=(M.l.drop (i0-1)).take (j-(i0-1))++[M.SM[j].2.s]:=by
   rw [show j+1-(i0-1)=(j-(i0-1))+1 by omega,List.take_succ_eq_append_getElem (by rw [List.length_drop];omega),List.getElem_drop,z4y j hjl]
   congr 3
   omega
  have hnone:(M.SM[j].2.s.bs).filterMap (z0y off)=(M.SM[j].2.s.bs.drop k).filterMap (z0y off):=by
   have e:M.SM[j].2.s.bs=M.SM[j].2.s.bs.take k++M.SM[j].2.s.bs.drop k:=(List.take_append_drop _ _).symm
   calc (M.SM[j].2.s.bs).filterMap (z0y off)=(M.SM[j].2.s.bs.take k++M.SM[j].2.s.bs.drop k).filterMap (z0y off):=by rw [<- e]
    _=(M.SM[j].2.s.bs.drop k).filterMap (z0y off):=by
     rw [List.filterMap_append,zaa (l:=M.SM[j].2.s.bs.take k),List.nil_append]
     intro b hb
     exact zfu (hsok.bs.valid b (List.mem_of_mem_take hb)).1 (hskp b hb)
  have hall2:(z0e ((M.l.drop (i0-1)).take (j+1-(i0-1)))).filterMap (z0y off)=(z0e ((M.l.drop (i0-1)).take (j-(i0-1)))).filterMap (z0y off)++(M.SM[j].2.s.bs.drop k).filterMap (z0y off):=by
   rw [hstep]
   unfold z0e
   rw [List.flatMap_append,List.filterMap_append,<- hnone]
   simp
  have hol:outs.length<=1000000:=by
   have:=congrArg List.length hmap
   rw [List.length_map] at this
   rw [this]
   exact Nat.le_trans (List.length_filterMap_le _ _) (hpre j hj1 (by omega))
  refine zp (λq w'=>∃ outs':List BatM,q=(decide (outs.length+((M.SM[j].2.s.bs.drop k).filterMap (z0y off)).length<mN),())/\outs'.map BatM.p=(outs.map BatM.p++(M.SM[j].2.s.bs.drop k).filterMap (z0y off)).take mN /\
    Sat w' (z4z ao outs'::lgQ lg M::dk M.d D::pt a1 (.cells [.int .i64 off].toArray T.a11)::pt a2 (.cells [.int .i64 (mN:Int)].toArray T.a10)::pt a0 (.cells [.pointer (some ⟨lg,0,none⟩)].toArray T.a16)::r)) ?_ ?_
  ·refine z07 hs λw' hs=>?_
   refine z1m hs ?_
   refine zb hs ?_
   have hs:=z6r (hs.pick [2]) hjl
   refine za (zxz (gap:=M.gap) (a:=M.SM[j].1) (t:=M.SM[j].2) off hsok hrl hs) λ_ w' hs=>?_
   obtain ⟨rfl,hs⟩:=hs
   refine zd ?_ (by first|trivial|(repeat (first|exact trivial|exact λ_=>z0i hs|exact λ_=>z0o hs|refine And.intro ?_ ?_)))
   refine zi ?_
   have hs:=z4u hjl hs
   have hs:=z1a M hokm (hs.pick [1,1])
   have hs:Sat w' (z4z ao outs::lgQ lg M::dk M.d D::pt a1 (.cells [.int .i64 off].toArray T.a11)::pt a2 (.cells [.int .i64 (mN:Int)].toArray T.a10)::pt a0 (.cells [.pointer (some ⟨lg,0,none⟩)].toArray T.a16)::r):=hs.sub
   rw [hpl]
   refine za (zzp off mN a1 a2 ho hjl hsok hfile hk hlt (by omega) hs) λ_ w' hs=>?_
   obtain ⟨outs',rfl,hm2,-,hs⟩:=hs
   refine zd ?_
   refine wp_lt ?_
   refine zi ?_
   exact zh ⟨outs',rfl,hm2,hs⟩
  clear hs
  rintro _ w3 ⟨outs',rfl,hm2,hs⟩
  rw [hmap,<- hall2] at hm2
  have hlm:=congrArg List.length hmap
  rw [List.length_map] at hlm
  refine zg (λh5=>?_) λh5=>?_
  ·have h5:¬ (outs.length+((M.SM[j].2.s.bs.drop k).filterMap (z0y off)).length<mN):=by simpa using h5
   refine zn (zh ⟨outs',?_,hs⟩)
   rw [hm2,hskip hlt2]
   have e:z0e (M.l.drop (i0-1))=z0e ((M.l.drop (i0-1)).take (j+1-(i0-1)))++z0e ((M.l.drop (i0-1)).drop (j+1-(i0-1))):=by
    unfold z0e;rw [<- List.flatMap_append,List.take_append_drop]
   rw [e,List.filterMap_append,List.take_append_of_le_length]
   rw [hall2,List.length_append]
   omega
  ·have h5:(outs.length+((M.SM[j].2.s.bs.drop k).filterMap (z0y off)).length<mN):=by simpa using h5
   refine z1n (y:=((j+1:Nat):Int)) ?_ (by rw [w64 (by omega) (by omega)];omega)
   have hll2:((z0e ((M.l.drop (i0-1)).take (j+1-(i0-1)))).filterMap (z0y off)).length<mN:=by rw [hall2,List.length_append];omega
   rw [List.take_of_length_le (by omega)] at hm2
   have hl3:=congrArg List.length hm2
   rw [List.length_map] at hl3
   exact z0n (M.SM.length-(j+1)) ⟨j+1,outs',rfl,by omega,.inl (by omega),rfl,hm2,by omega,hs⟩
theorem zsq {r1:List HP} [hf:Fo l lgP lg A r1] [hf2:Fo r1 dk A.d D r] (hok:z0b 0 A.l) (hhas:zc4 A.pre A.l D) (hlen:A.l.length<=1000000) (hall:(z0e A.l).length<=1000000) (hs:Sat w l) :
  Ret P F.a52 #[.pointer (some ⟨lg,0,none⟩)] w λvs w'=>∃ (z:Sl) (outs:List BatM),vs=[z.v]/\outs.map BatM.p=z0e A.l/\Sat w' (slc T.a1 7 z (outs.flatMap zj)::z0p outs::lgP lg A::dk A.d D::r) :=
 zos _ <| by
  unfold z02o
  have hs:=hs.perm (hf.perm.trans (.cons _ hf2.perm))
  clear hf hf2
  have hfn:=zfy hok
  have hnx:=hok.next (Int.le_refl 0)
  have hf0:0<=zl A.l:=by
   cases hq:A.l with
   | nil=>decide
   | cons s l0=>rw [hq] at hok;have:=hok.1;exact this
  refine z0g ?_ (by simp)
  obtain ⟨M,hM,hs⟩:=z4w hs
  subst hM
  refine za (za7 (lg:=lg) hs) λ_ w' hs=>?_
  obtain ⟨rfl,hs⟩:=hs
  refine zd ?_
  have hs:=z2w M hs
  have hfn:zl M.l<=zr M.l:=hfn
  have hnx:0<=zr M.l/\zr M.l<=1099511627777:=hnx
  have hf0:0<=zl M.l:=hf0
  refine za (zy1 (lg:=lg) (A:=M.A) (D:=D) (zl M.l) 1099511627776 (by omega) (by omega) hok hhas hlen hall hs) λ_ w' hs=>?_
  obtain ⟨z,outs,rfl,hmap,hs⟩:=hs
  refine zd ?_
  refine wp_lt ?_
  have hra:zdb M.A.l (zl M.l) 1099511627776=(0,z0e M.A.l):=zuo hok (by omega) (by omega)
  rw [hra] at hmap
  exact ⟨rfl,z,outs,rfl,hmap,hs⟩
end
end Go.Dec
