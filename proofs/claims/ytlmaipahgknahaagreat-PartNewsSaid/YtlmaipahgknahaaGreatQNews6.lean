/- What the claim of this folder leans on: our own texts, joined, without what it does not use. -/
import Derived.Test.YtlmaipahgknahaaGreatRows
import Derived.WalkKit
import Derived.ProofKit
import Derived.OpenShut
import Derived.RowKit3
import Derived.OrdersHeld
import Derived.Scope
import Derived.KernelRfl
import Derived.Laws.Sem
import Derived.Laws.StructEq
import Derived.Deep.AppendSrc
import Derived.Laws.BytesArg
import Derived.Laws.RangeString
import Derived.Maps.RangeRun
import Derived.Lib.ConvBytes
import Derived.Lib.SlBytesConst
import Derived.ChangeSlices
import Derived.ChangeMaps5
import Derived.ChangeSame
import Derived.Deep.Slices
import Derived.Deep.Fields
import Derived.Test.YtlmaipahgknahaaGreatProg
import Derived.WideKeyRuns
import Derived.DeepKeys3
import Derived.Laws.MakeOwn
import Derived.Sort.MapsRangeIn
import Derived.Sort.KeysCollected
import Derived.RangeFuncNested
import Derived.RangeFuncBound
import Derived.RangeFuncCalls
import Derived.RangeFuncLeaves
import Derived.RangeFuncBox
import Derived.OwnWalkIn
import Derived.TacticsInMore
import Derived.RegionIn
import Derived.LoopNIn
import Derived.LoopIn
import Derived.Maps.AppendAt
import Derived.Shelf.Abstract
import Derived.Shelf.Sort.Plain
import Derived.Shelf.Slices.In.SortNone
import Derived.Test.YtlmaipahgknahaaGreatQNews1
import Derived.Test.YtlmaipahgknahaaGreatQNews2
import Derived.Test.YtlmaipahgknahaaGreatQNews3
import Derived.Test.YtlmaipahgknahaaGreatQNews4
import Derived.Test.YtlmaipahgknahaaGreatQNews5
set_option linter.unusedVariables false
set_option linter.unusedSimpArgs false
namespace Go.Dec
abbrev Lf:=Option (List UInt8)
def z0k:Lf->Nat × Lf
 | none=>(0,none)
 | some bs=>match z3d 0 bs with
  | none=>(0,none)
  | some p=>(p.1,some (bs.drop p.2))
def z1f (lo hi:Int) (s:Lf):Int × Lf:=match (z0k s).2 with
 | none=>(0,none)
 | some t=>if zag (z0k s).1<lo\/zag (z0k s).1>hi then (0,none) else (zag (z0k s).1,some t)
def z0t:Lf->Nat × Lf
 | some (c::t)=>(c.toNat,some t)
 | _=>(0,none)
def z41:Lf->Bool × Lf
 | some (c::t)=>if c.toNat<=1 then (decide (c.toNat=1),some t) else (false,none)
 | _=>(false,none)
def z1e (most:Nat) (s:Lf):ByteArray × Lf:=match (z0k s).2 with
 | none=>(⟨#[]⟩,none)
 | some t=>if (z0k s).1<=most/\(z0k s).1<=t.length then (⟨(t.take (z0k s).1).toArray⟩,some (t.drop (z0k s).1)) else (⟨#[]⟩,none)
def z01 (most:Int) (s:Lf):Int × Lf:=(if ((z0k s).1:Int)>most then most+1 else (z0k s).1,(z0k s).2)
abbrev bl (s:ByteArray):List UInt8:=s.data.toList
theorem z77 {v:Nat} (h:v<18446744073709551616) (t:List UInt8):z0k (some (z3e v++t))=(v,some t):=by
 unfold z0k
 simp only [zi1 h,List.drop_left]
theorem z6u {s:Lf} {t:List UInt8} (h:(z0k s).2=some t):(z0k s).1<18446744073709551616/\s=some (z3e (z0k s).1++t):=by
 cases s with
 | none=>cases h
 | some bs =>
  cases hn:z3d 0 bs with
  | none =>
   have e:z0k (some bs)=(0,none):=by unfold z0k;simp only [hn]
   rw [e] at h;cases h
  | some p =>
   obtain ⟨v,k⟩:=p
   have e:z0k (some bs)=(v,some (bs.drop k)):=by unfold z0k;simp only [hn]
   rw [e] at h ⊢
   obtain ⟨h1,h2⟩:=zkd hn
   simp only [Option.some.injEq] at h ⊢
   subst h
   exact ⟨h2,by rw [<- h1,List.take_append_drop]⟩
theorem zla {lo hi n:Int} (h1:lo<=n) (h2:n<=hi) (hn : -9223372036854775808<=n/\n<9223372036854775808) (t:List UInt8):z1f lo hi (some (z55 n++t))=(n,some t):=by
 unfold z1f z55
 simp only [z77 (zw6 hn),z02o]
 rw [if_neg (by omega)]
theorem zlw {lo hi:Int} {s:Lf} {t:List UInt8} (h:(z1f lo hi s).2=some t):(lo<=(z1f lo hi s).1/\(z1f lo hi s).1<=hi)/\s=some (z55 (z1f lo hi s).1++t):=by
 unfold z1f at h ⊢
 cases hu:(z0k s).2 with
 | none=>rw [hu] at h;cases h
 | some t' =>
  have h2:=z6u hu
  rw [hu] at h
  simp only at h ⊢
  split at h
  ·cases h
  rename_i h3
  simp only [Option.some.injEq] at h
  subst h
  rw [if_neg h3]
  refine ⟨by omega,?_⟩
  unfold z55
  rw [z02p]
  exact h2.2
theorem zbt {s:Lf} {t:List UInt8} (h:(z0t s).2=some t):(z0t s).1<256/\s=some (UInt8.ofNat (z0t s).1::t):=by
 match s,h with
 | some (c::r),h =>
  have h:some r=some t:=h
  cases h
  refine ⟨c.toNat_lt,?_⟩
  show some (c::t)=some (UInt8.ofNat c.toNat::t)
  rw [UInt8.ofNat_toNat]
 | some [],h=>cases h
 | none,h=>cases h
def z7q (b:Bool):UInt8:=if b then 1 else 0
theorem zql (b:Bool) (t:List UInt8):z41 (some (z7q b::t))=(b,some t):=by
 cases b <;> rfl
theorem zud {s:Lf} {t:List UInt8} (h:(z41 s).2=some t):s=some (z7q (z41 s).1::t):=by
 match s,h with
 | some (c::r),h =>
  unfold z41 at h ⊢
  simp only at h ⊢
  split at h
  ·rename_i h1
   simp only [Option.some.injEq] at h
   subst h
   rw [if_pos h1]
   congr 2
   by_cases h2:c.toNat=1
   ·rw [decide_eq_true h2];exact UInt8.toNat_inj.1 h2
   ·rw [decide_eq_false h2];exact UInt8.toNat_inj.1 (by show c.toNat=0;omega)
  ·cases h
 | some [],h=>cases h
 | none,h=>cases h
theorem z1c (s:ByteArray):(bl s).length=s.size:=rfl
theorem zeq (l:List UInt8):bl ⟨l.toArray⟩=l:=by simp [bl]
theorem zbr {a b:ByteArray} (h:bl a=bl b):a=b:=by
 cases a;cases b;exact congrArg ByteArray.mk (Array.ext' h)
theorem zfx {most:Nat} (x:ByteArray) (h:x.size<=most) (hm:most<4294967296) (t:List UInt8):z1e most (some (uI x.size++(bl x++t)))=(x,some t):=by
 unfold z1e uI
 have e:((x.size:Int)).toNat=x.size:=by omega
 rw [e]
 simp only [z77 (show x.size<18446744073709551616 by omega)]
 rw [if_pos ⟨h,by rw [List.length_append,z1c];omega⟩,<- z1c,List.take_left,List.drop_left]
theorem zik {most:Nat} {s:Lf} {t:List UInt8} (h:(z1e most s).2=some t):(z1e most s).1.size<=most/\s=some (uI (z1e most s).1.size++(bl (z1e most s).1++t)):=by
 unfold z1e at h ⊢
 cases hu:(z0k s).2 with
 | none=>rw [hu] at h;cases h
 | some t' =>
  have h2:=z6u hu
  rw [hu] at h
  simp only at h ⊢
  split at h
  rotate_left
  ·cases h
  rename_i h3
  simp only [Option.some.injEq] at h
  subst h
  rw [if_pos h3]
  have e:(ByteArray.mk (t'.take (z0k s).1).toArray).size=(z0k s).1:=by
   show (t'.take (z0k s).1).length=_
   rw [List.length_take];omega
  refine ⟨by rw [e];exact h3.1,?_⟩
  rw [e,zeq,List.take_append_drop]
  unfold uI
  exact h2.2
theorem z57 {most n:Int} (h0:0<=n) (hn:n<=most) (hm:most<9223372036854775808) (t:List UInt8):z01 most (some (uI n++t))=(n,some t):=by
 unfold z01 uI
 rw [z77 (by omega),if_neg (by simp only;omega)]
 congr 1
 simp only;omega
theorem z5x {most:Int} (hm:0<=most) {s:Lf} {t:List UInt8} (h:(z01 most s).2=some t):(0<=(z01 most s).1/\(z01 most s).1<=most+1)/\((z01 most s).1<=most->s=some (uI (z01 most s).1++t)):=by
 have h2:=z6u (show (z0k s).2=some t from h)
 unfold z01
 simp only
 split
 ·exact ⟨⟨by omega,by omega⟩,λh3=>absurd h3 (by omega)⟩
 ·refine ⟨⟨by omega,by omega⟩,λh3=>?_⟩
  unfold uI
  rw [Int.toNat_natCast]
  exact h2.2
def z0l:List UInt8->List UInt8->Nat
 | a::x,b::y=>if a=b then z0l x y+1 else 0
 | _,_=>0
theorem z9e:∀ x y:List UInt8,z0l x y<=x.length/\z0l x y<=y.length
 | [],_=>by simp [z0l]
 | _::_,[]=>by simp [z0l]
 | a::x,b::y=>by
  have:=z9e x y
  unfold z0l
  split <;> simp <;> omega
theorem zd6:∀ x y:List UInt8,x.take (z0l x y)=y.take (z0l x y)
 | [],_=>by simp [z0l]
 | _::_,[]=>by simp [z0l]
 | a::x,b::y=>by
  unfold z0l
  split
  ·rename_i h
   rw [List.take_succ_cons,List.take_succ_cons,h,zd6 x y]
  ·rfl
theorem zbo:∀ {x y:List UInt8} {i:Nat} (h1:i<=x.length) (h2:i<=y.length),x.take i=y.take i->(i=x.length\/i=y.length\/x[i]? ≠ y[i]?)->z0l x y=i
 | [],y,i,h1,h2,_,_=>by simp at h1;simp [z0l,h1]
 | _::_,[],i,h1,h2,_,_=>by simp at h2;simp [z0l,h2]
 | a::x,b::y,0,_,_,_,h=>by
  unfold z0l
  rw [if_neg]
  rintro rfl
  rcases h with h|h|h
  ·simp at h
  ·simp at h
  ·simp at h
 | a::x,b::y,i+1,h1,h2,ht,h=>by
  rw [List.take_succ_cons,List.take_succ_cons,List.cons.injEq] at ht
  unfold z0l
  rw [if_pos ht.1,zbo (by simpa using h1) (by simpa using h2) ht.2]
  rcases h with h|h|h
  ·left;simpa using h
  ·right;left;simpa using h
  ·right;right;simpa using h
def z6i (ahead key:ByteArray):List UInt8:=uI (key.size-z0l (bl ahead) (bl key):Nat)++(bl key).drop (z0l (bl ahead) (bl key))
def z5v (time:Int) (ahead:ByteArray) (r:RecM):List UInt8 :=
 z55 (r.time-time)++(z7q r.gone::(uI (z0l (bl ahead) (bl r.key):Nat)++(z6i ahead r.key++if r.gone then [] else uI r.value.size++bl r.value)))
def z29 (time:Int):ByteArray->List RecM->List UInt8
 | _,[]=>[]
 | ahead,r::rs=>z5v time ahead r++z29 time r.key rs
def z2c (b:BatM):List UInt8 :=
 1::UInt8.ofNat b.kind.toNat::(uI b.base++(uI b.pid++((if b.pid>0 then uI b.epoch++(if z0g b then [] else uI b.seq) else [])++(uI b.time++if z0g b then [] else uI b.rs.length++z29 b.time ⟨#[]⟩ b.rs))))
def BatM.p (b:BatM):BatM:={ b with x:=⟨none,0,0⟩ }
def z4m (ahead:ByteArray) (n:Int) (rest:ByteArray):ByteArray:=ahead.extract 0 n.toNat++rest
def z34 (time:Int) (ahead:ByteArray) (s:Lf):Option RecM × Lf :=
 if (z01 1024 (z41 (z1f (-1099511627776) 1099511627776 s).2).2).1>ahead.size then (none,(z1e 1024 (z01 1024 (z41 (z1f (-1099511627776) 1099511627776 s).2).2).2).2) else
 let a:=z1f (-1099511627776) 1099511627776 s
 let b:=z41 a.2
 let c:=z01 1024 b.2
 let d:=z1e 1024 c.2
 let e:=if b.1 then (⟨#[]⟩,d.2) else z1e 1024 d.2
 if e.2.isSome=true/\(z0l (bl ahead) (bl (z4m ahead c.1 d.1)):Int)=c.1 then (some ⟨z4m ahead c.1 d.1,e.1,b.1,time+a.1⟩,e.2) else (none,e.2)
def z49 (time:Int):Nat->ByteArray->Lf->Option (List RecM × Lf)
 | 0,_,s=>some ([],s)
 | n+1,ahead,s=>match (z34 time ahead s).1 with
  | none=>none
  | some x=>(z49 time n x.key (z34 time ahead s).2).map λq=>(x::q.1,q.2)
theorem zoi (ahead rest:ByteArray) (n:Int):bl (z4m ahead n rest)=(bl ahead).take n.toNat++bl rest:=by
 unfold z4m bl
 simp [List.extract_eq_take_drop]
theorem zul (ahead key:ByteArray):z4m ahead (z0l (bl ahead) (bl key):Nat) ⟨((bl key).drop (z0l (bl ahead) (bl key))).toArray⟩=key:=by
 apply zbr
 rw [zoi,zeq,Int.toNat_natCast,zd6,List.take_append_drop]
theorem z4s {r:RecM} (h:z23 r=0):r.key.size<=1024/\r.value.size<=1024/\(0<=r.time/\r.time<=1099511627776)/\(r.gone=true->r.value=⟨#[]⟩):=by
 unfold z23 at h
 split at h
 ·cases h
 rename_i h1
 split at h
 ·cases h
 rename_i h2
 refine ⟨by omega,by omega,by omega,λhg=>?_⟩
 apply Decidable.byContradiction
 intro h3
 exact h2 (.inr ⟨hg,zkz.2 h3⟩)
theorem zrc {time:Int} (ht:0<=time/\time<=1099511627776) {r:RecM} (hr:z23 r=0) (ahead:ByteArray) (t:List UInt8):z34 time ahead (some (z5v time ahead r++t))=(some r,some t):=by
 obtain ⟨h1,h2,h3,h4⟩:=z4s hr
 have hle:=z9e (bl ahead) (bl r.key)
 rw [z1c,z1c] at hle
 have hd:(ByteArray.mk ((bl r.key).drop (z0l (bl ahead) (bl r.key))).toArray).size=r.key.size-z0l (bl ahead) (bl r.key):=by
  show ((bl r.key).drop _).length=_
  rw [List.length_drop,z1c]
 have e0:z5v time ahead r++t=z55 (r.time-time)++(z7q r.gone::(uI (z0l (bl ahead) (bl r.key):Nat)++(uI ((ByteArray.mk ((bl r.key).drop (z0l (bl ahead) (bl r.key))).toArray).size:Nat)++(bl (ByteArray.mk ((bl r.key).drop (z0l (bl ahead) (bl r.key))).toArray)++((if r.gone then [] else uI r.value.size++bl r.value)++t))))):=by
  rw [hd,zeq]
  unfold z5v z6i
  simp only [List.append_assoc,List.cons_append]
 rw [e0]
 generalize hZ:(if r.gone then [] else uI r.value.size++bl r.value)++t=Z
 have e1:=zla (lo := -1099511627776) (hi:=1099511627776) (n:=r.time-time) (by omega) (by omega) (by omega)
 have e3:=z57 (most:=1024) (n:=(z0l (bl ahead) (bl r.key):Nat)) (by omega) (by omega) (by omega)
 have e4:=zfx (most:=1024) (ByteArray.mk ((bl r.key).drop (z0l (bl ahead) (bl r.key))).toArray) (by rw [hd];omega) (by omega)
 unfold z34
 simp only [e1,zql,e3,e4,zul]
 rw [if_neg (by omega)]
 have e5:(if r.gone=true then ((⟨#[]⟩:ByteArray),some Z) else z1e 1024 (some Z))=(r.value,some t):=by
  by_cases hg:r.gone=true
  ·rw [if_pos hg] at hZ ⊢
   rw [h4 hg,<- hZ];rfl
  ·rw [if_neg hg] at hZ ⊢
   rw [<- hZ,List.append_assoc]
   exact zfx _ h2 (by omega) t
 rw [e5]
 simp only [Option.isSome_some,true_and]
 rw [if_pos trivial,show time+(r.time-time)=r.time by omega]
theorem zvh {time:Int} {ahead:ByteArray} (hah:ahead.size<=1024) {s:Lf} {r:RecM} (h:(z34 time ahead s).1=some r):∃ t,(z34 time ahead s).2=some t/\s=some (z5v time ahead r++t):=by
 unfold z34 at h ⊢
 split at h
 ·cases h
 rename_i hc
 rw [if_neg hc]
 simp only at h ⊢
 generalize ha:z1f (-1099511627776) 1099511627776 s=a at *
 generalize hb:z41 a.2=b at *
 generalize hcc:z01 1024 b.2=c at *
 generalize hd:z1e 1024 c.2=d at *
 generalize he:(if b.1=true then ((⟨#[]⟩:ByteArray),d.2) else z1e 1024 d.2)=e at *
 split at h
 rotate_left
 ·cases h
 rename_i h5
 rw [if_pos h5]
 obtain ⟨h5,h6⟩:=h5
 obtain ⟨t,ht⟩:=Option.isSome_iff_exists.1 h5
 refine ⟨t,ht,?_⟩
 simp only [Option.some.injEq] at h
 have hd2:d.2=some ((if b.1=true then [] else uI e.1.size++bl e.1)++t):=by
  by_cases hg:b.1=true
  ·rw [if_pos hg] at he ⊢
   rw [<- he] at ht
   exact ht
  ·rw [if_neg hg] at he ⊢
   rw [<- he] at ht ⊢
   rw [List.append_assoc]
   exact (zik ht).2
 rw [<- hd] at hd2
 have h7:=zik hd2
 rw [hd] at h7
 have hc2:c.2=_:=h7.2
 rw [<- hcc] at hc2
 have h8:=z5x (by omega) hc2
 rw [hcc] at h8
 have hle:=z9e (bl ahead) (bl (z4m ahead c.1 d.1))
 have hb2:=h8.2 (by omega)
 rw [<- hb] at hb2
 have ha2:=zud hb2
 rw [hb,<- ha] at ha2
 have h9:=zlw ha2
 rw [ha] at h9
 rw [h9.2,<- h]
 unfold z5v z6i
 simp only
 have hn:c.1.toNat=z0l (bl ahead) (bl (z4m ahead c.1 d.1)):=by omega
 have hl1:((bl ahead).take c.1.toNat).length=c.1.toNat:=by rw [List.length_take,hn];omega
 have hdrop:(bl (z4m ahead c.1 d.1)).drop c.1.toNat=bl d.1:=by
  rw [zoi]
  exact List.drop_left' hl1
 have hsz:(z4m ahead c.1 d.1).size-c.1.toNat=d.1.size:=by
  rw [<- z1c,<- z1c,<- hdrop,List.length_drop]
 rw [<- hn,hdrop,hsz,show time+a.1-time=a.1 by omega,show ((c.1.toNat:Nat):Int)=c.1 by omega]
 simp only [List.append_assoc,List.cons_append]
theorem zfq {time:Int} (ht:0<=time/\time<=1099511627776):∀ {rs:List RecM} (hr:∀ r ∈ rs,z23 r=0) (ahead:ByteArray) (t:List UInt8),z49 time rs.length ahead (some (z29 time ahead rs++t))=some (rs,some t)
 | [],_,_,_=>rfl
 | r::rs,hr,ahead,t=>by
  have e:=zrc ht (hr r (List.mem_cons_self ..)) ahead (z29 time r.key rs++t)
  show z49 time (rs.length+1) ahead (some ((z5v time ahead r++z29 time r.key rs)++t))=_
  rw [List.append_assoc]
  unfold z49
  rw [e]
  simp only
  rw [zfq ht (λx hx=>hr x (List.mem_cons_of_mem _ hx)) r.key t]
  rfl
theorem zi9 {time:Int}:∀ {n:Nat} {ahead:ByteArray} (hah:ahead.size<=1024) {s:Lf} {rs:List RecM} {t:List UInt8} (hk:∀ r ∈ rs,r.key.size<=1024) (h:z49 time n ahead s=some (rs,some t)),rs.length=n/\s=some (z29 time ahead rs++t)
 | 0,ahead,hah,s,rs,t,hk,h=>by
  simp only [z49,Option.some.injEq,Prod.mk.injEq] at h
  obtain ⟨rfl,rfl⟩:=h
  exact ⟨rfl,rfl⟩
 | n+1,ahead,hah,s,rs,t,hk,h=>by
  unfold z49 at h
  cases hx:(z34 time ahead s).1 with
  | none=>rw [hx] at h;cases h
  | some x =>
   rw [hx] at h
   simp only [Option.map_eq_some_iff,Prod.mk.injEq] at h
   obtain ⟨⟨rs',s'⟩,h1,rfl,rfl⟩:=h
   obtain ⟨t1,h2,h3⟩:=zvh hah hx
   rw [h2] at h1
   have hk1:x.key.size<=1024:=hk x (List.mem_cons_self ..)
   obtain ⟨h4,h5⟩:=zi9 hk1 (λr hr=>hk r (List.mem_cons_of_mem _ hr)) h1
   simp only [Option.some.injEq] at h5
   refine ⟨by rw [List.length_cons,h4],?_⟩
   rw [h3,h5]
   show some (z5v time ahead x++(z29 time x.key rs'++t))=some ((z5v time ahead x++z29 time x.key rs')++t)
   rw [List.append_assoc]
def z7f:Sl:=⟨none,0,0⟩
structure HdS where
 k:Nat × Lf
 ba:Int × Lf
 pi:Int × Lf
 ep:Int × Lf
 sq:Int × Lf
 tm:Int × Lf
def z2w (k:Nat):Bool:=decide ((k:Int)=2) || decide ((k:Int)=3)
def hdS (s:Lf):HdS :=
 let k:=z0t s
 let ba:=z01 1099511627776 k.2
 let pi:=z01 1048576 ba.2
 let ep:=if pi.1>0 then z01 32767 pi.2 else (0,pi.2)
 let sq:=if pi.1>0/\z2w k.1=false then z01 2147483647 ep.2 else (0,ep.2)
 ⟨k,ba,pi,ep,sq,z01 1099511627776 sq.2⟩
def HdS.b (h:HdS) (rs:List RecM):BatM:=⟨h.ba.1,h.pi.1,h.ep.1,h.sq.1,h.k.1,h.tm.1,z7f,rs⟩
def zjh (h:HdS):Option BatM :=
 if h.tm.2.isSome=false\/h.tm.1>1099511627776 then none else
 if z2w h.k.1=true then (if h.tm.2=some []/\z05 (h.b [])=0 then some (h.b []) else none) else
 if (z01 64 h.tm.2).1>64 then none else
 match z49 h.tm.1 (z01 64 h.tm.2).1.toNat ⟨#[]⟩ (z01 64 h.tm.2).2 with
 | none=>none
 | some q=>if q.2=some []/\z05 (h.b q.1)=0 then some (h.b q.1) else none
def z5i (raw:List UInt8):Option BatM:=if (z0t (some raw)).1≠1 then none else zjh (hdS (z0t (some raw)).2)
theorem zje:∀ {rs:List RecM},z5g rs=0->∀ r ∈ rs,z23 r=0
 | [],_,r,h=>by cases h
 | x::rs,h,r,hr=>by
  have h:(if z23 x≠0 then z23 x else z5g rs)=0:=h
  by_cases hx:z23 x≠0
  ·rw [if_pos hx] at h;exact absurd h hx
  rw [if_neg hx] at h
  rcases List.mem_cons.1 hr with rfl|hr
  ·exact Decidable.not_not.1 hx
  ·exact zje h r hr
theorem z2z {b:BatM} (hv:z05 b=0):b.rs.length<=64/\∀ r ∈ b.rs,z23 r=0:=by
 unfold z05 at hv
 split at hv
 ·cases hv
 split at hv
 ·cases hv
 rename_i h2
 split at hv
 ·rename_i h3;exact absurd hv h3
 rename_i h3
 exact ⟨by omega,zje (Decidable.not_not.1 h3)⟩
theorem zp2 {b:BatM} (h:0<=b.kind):z2w b.kind.toNat=z0g b:=by
 unfold z2w z0g
 rw [Int.toNat_of_nonneg h]
theorem zwm {b:BatM} (hv:z05 b=0):∃ s1 s2 s3 s4 s5,hdS (z0t (some (z2c b))).2=⟨(b.kind.toNat,s1),(b.base,s2),(b.pid,s3),(b.epoch,s4),(b.seq,s5),(b.time,some (if z0g b then [] else uI b.rs.length++z29 b.time ⟨#[]⟩ b.rs))⟩:=by
 obtain ⟨-,-,⟨hk,hba,hpi,hep,hsq,htm⟩,hfit,-⟩:=z11 b hv
 unfold z2c
 generalize hY:(if z0g b then [] else uI b.rs.length++z29 b.time ⟨#[]⟩ b.rs)=Y
 have e1:∀ t,z0t (some (UInt8.ofNat b.kind.toNat::t))=(b.kind.toNat,some t):=λt=>by
  show ((UInt8.ofNat b.kind.toNat).toNat,some t)=_
  rw [UInt8.toNat_ofNat']
  congr 1
  omega
 have e2:=z57 (most:=1099511627776) (n:=b.base) hba.1 hba.2 (by omega)
 have e3:=z57 (most:=1048576) (n:=b.pid) hpi.1 hpi.2 (by omega)
 have e4:=z57 (most:=32767) (n:=b.epoch) hep.1 hep.2 (by omega)
 have e5:=z57 (most:=2147483647) (n:=b.seq) hsq.1 hsq.2 (by omega)
 have e6:=z57 (most:=1099511627776) (n:=b.time) htm.1 htm.2 (by omega)
 show ∃ s1 s2 s3 s4 s5,hdS (some (UInt8.ofNat b.kind.toNat::_))=_
 unfold hdS
 simp only [e1,e2,e3,zp2 hk.1]
 by_cases hp:b.pid>0
 ·rw [if_pos hp,if_pos hp]
  by_cases hm:z0g b=true
  ·have hs0:b.seq=0:=by have:=hfit.2;rw [if_pos hm] at this;exact this.1
   simp only [hm,if_true,Bool.true_eq_false,and_false,if_false,List.append_nil,List.append_assoc,e4,e6]
   exact ⟨_,_,_,_,_,by rw [hs0]⟩
  ·have hm:z0g b=false:=by simpa using hm
   simp only [hm,hp,Bool.false_eq_true,and_self,if_true,if_false,List.append_assoc,e4,e5,e6]
   exact ⟨_,_,_,_,_,rfl⟩
 ·have h0:b.pid=0:=by omega
  have hz:b.kind=0/\b.epoch=0/\b.seq=0:=by
   have:=hfit.1
   refine ⟨?_,?_,?_⟩ <;> (apply Decidable.byContradiction;intro h;apply this;simp [h0,h])
  rw [if_neg hp,if_neg hp,if_neg (λh=>hp h.1)]
  simp only [List.nil_append,e6]
  exact ⟨_,_,_,_,_,by rw [hz.2.1,hz.2.2]⟩
theorem zhe {b:BatM} (hv:z05 b=0):z5i (z2c b)=some b.p:=by
 obtain ⟨s1,s2,s3,s4,s5,h⟩:=zwm hv
 obtain ⟨-,-,⟨hk,hba,hpi,hep,hsq,htm⟩,hfit,-⟩:=z11 b hv
 obtain ⟨h64,hrs⟩:=z2z hv
 have hb:∀ rs,(HdS.mk (b.kind.toNat,s1) (b.base,s2) (b.pid,s3) (b.epoch,s4) (b.seq,s5) (b.time,some (if z0g b then [] else uI b.rs.length++z29 b.time ⟨#[]⟩ b.rs))).b rs={ b.p with rs:=rs }:=λrs=>by
  unfold HdS.b BatM.p
  simp only [Int.toNat_of_nonneg hk.1]
  rfl
 unfold z5i
 rw [h,if_neg (by show ¬ ((1:Nat)≠1);simp)]
 unfold zjh
 rw [if_neg (by simp only [Option.isSome_some];rintro (h|h);cases h;omega)]
 simp only [hb,zp2 hk.1]
 by_cases hm:z0g b=true
 ·have h0:b.rs=[]:=by have:=hfit.2;rw [if_pos hm] at this;exact List.length_eq_zero_iff.1 this.2
  rw [if_pos hm,if_pos hm]
  have e:{ b.p with rs:=[] }=b.p:=by rw [<- h0];rfl
  rw [e,if_pos ⟨rfl,hv⟩]
 ·have e1:=z57 (most:=64) (n:=(b.rs.length:Int)) (by omega) (by omega) (by omega) (z29 b.time ⟨#[]⟩ b.rs)
  have e2:=zfq htm hrs ⟨#[]⟩ []
  rw [List.append_nil] at e2
  rw [if_neg hm,if_neg hm]
  simp only [e1,Int.toNat_natCast,e2]
  rw [if_neg (by omega),if_pos (by first|exact ⟨rfl,hv⟩|exact ⟨trivial,hv⟩)]
  rfl
theorem zor {s:Lf} {t:List UInt8} (h:(hdS s).tm.2=some t) (htm:(hdS s).tm.1<=1099511627776) {rs:List RecM} (hv:z05 ((hdS s).b rs)=0) :
  s=some (UInt8.ofNat ((hdS s).b rs).kind.toNat::(uI ((hdS s).b rs).base++(uI ((hdS s).b rs).pid++((if ((hdS s).b rs).pid>0 then uI ((hdS s).b rs).epoch++(if z0g ((hdS s).b rs) then [] else uI ((hdS s).b rs).seq) else [])++(uI ((hdS s).b rs).time++t))))):=by
 obtain ⟨-,-,⟨hk,hba,hpi,hep,hsq,-⟩,hfit,-⟩:=z11 _ hv
 unfold hdS at *
 unfold HdS.b at *
 simp only at *
 generalize e1:z0t s=k at *
 generalize e2:z01 1099511627776 k.2=ba at *
 generalize e3:z01 1048576 ba.2=pi at *
 generalize e4:(if pi.1>0 then z01 32767 pi.2 else (0,pi.2))=ep at *
 generalize e5:(if pi.1>0/\z2w k.1=false then z01 2147483647 ep.2 else (0,ep.2))=sq at *
 have hmk:z0g (⟨ba.1,pi.1,ep.1,sq.1,k.1,(z01 1099511627776 sq.2).1,z7f,rs⟩:BatM)=z2w k.1:=rfl
 have h6:=(z5x (by omega) h).2 htm
 have h5:ep.2=some ((if pi.1>0/\z2w k.1=false then uI sq.1 else [])++(uI (z01 1099511627776 sq.2).1++t)):=by
  generalize (z01 1099511627776 sq.2).1=tm at *
  by_cases hc:pi.1>0/\z2w k.1=false
  ·rw [if_pos hc] at e5 ⊢
   rw [<- e5] at h6 hsq ⊢
   exact (z5x (by omega) h6).2 hsq.2
  ·rw [if_neg hc] at e5 ⊢
   rw [<- e5] at h6
   exact h6
 generalize (z01 1099511627776 sq.2).1=tm at *
 have h4:pi.2=some ((if pi.1>0 then uI ep.1 else [])++((if pi.1>0/\z2w k.1=false then uI sq.1 else [])++(uI tm++t))):=by
  by_cases hc:pi.1>0
  ·rw [if_pos hc] at e4 ⊢
   rw [<- e4] at h5 hep ⊢
   exact (z5x (by omega) h5).2 hep.2
  ·rw [if_neg hc] at e4 ⊢
   rw [<- e4] at h5
   exact h5
 rw [<- e3] at h4 hpi
 have h3:=(z5x (by omega) h4).2 hpi.2
 rw [e3] at h3
 rw [<- e2] at h3 hba
 have h2:=(z5x (by omega) h3).2 hba.2
 rw [e2] at h2
 rw [<- e1] at h2
 have h1:=(zbt h2).2
 rw [e1] at h1
 have e:(if pi.1>0 then uI ep.1 else [])++((if pi.1>0/\z2w k.1=false then uI sq.1 else [])++(uI tm++t))=(if pi.1>0 then uI ep.1++(if z2w k.1 then [] else uI sq.1) else [])++(uI tm++t):=by
  by_cases hp:pi.1>0
  ·by_cases hm:z2w k.1=true
   ·simp [hp,hm]
   ·simp [hp,hm]
  ·simp [hp]
 rw [h1,hmk,Int.toNat_natCast,e]
theorem zjl {raw:List UInt8} {b:BatM} (h:z5i raw=some b):z05 b=0/\z2c b=raw/\b.p=b:=by
 unfold z5i at h
 split at h
 ·cases h
 rename_i h1
 have h1:(z0t (some raw)).1=1:=Decidable.not_not.1 h1
 generalize hs:(z0t (some raw)).2=s at h
 have hraw:∀ t,s=some t->raw=1::t:=λt ht=>by
  rw [<- hs] at ht
  have:=(zbt ht).2
  rw [h1] at this
  exact Option.some.inj this
 unfold zjh at h
 split at h
 ·cases h
 rename_i h2
 have h3:(hdS s).tm.2.isSome=true:=by
  cases he:(hdS s).tm.2.isSome with
  | true=>rfl
  | false=>exact absurd (.inl he) h2
 have h4:(hdS s).tm.1<=1099511627776:=by omega
 obtain ⟨t,ht⟩:=Option.isSome_iff_exists.1 h3
 split at h
 ·rename_i hm
  split at h
  rotate_left
  ·cases h
  rename_i h5
  simp only [Option.some.injEq] at h
  subst h
  refine ⟨h5.2,?_,rfl⟩
  have h6:=hraw _ (zor h5.1 h4 h5.2)
  rw [h6]
  have hm:z0g ((hdS s).b [])=true:=hm
  unfold z2c
  rw [hm]
  rfl
 ·rename_i hm
  split at h
  ·cases h
  rename_i h7
  cases hr:z49 (hdS s).tm.1 (z01 64 (hdS s).tm.2).1.toNat ⟨#[]⟩ (z01 64 (hdS s).tm.2).2 with
  | none=>rw [hr] at h;cases h
  | some q =>
   rw [hr] at h
   simp only at h
   split at h
   rotate_left
   ·cases h
   rename_i h5
   simp only [Option.some.injEq] at h
   subst h
   refine ⟨h5.2,?_,rfl⟩
   obtain ⟨rs,q2⟩:=q
   obtain ⟨rfl,h5⟩:=h5
   have hrs:=(z2z h5).2
   obtain ⟨h8,h9⟩:=zi9 (by decide) (λr hr=>(z4s (hrs r hr)).1) hr
   have h10:=z5x (by omega) h9
   have h11:=h10.2 (by omega)
   have h6:=hraw _ (zor h11 h4 h5)
   rw [h6]
   have hm:z0g ((hdS s).b rs)≠true:=hm
   unfold z2c
   rw [if_neg hm,if_neg hm]
   have e:((hdS s).b rs).rs.length=(z01 64 (hdS s).tm.2).1:=by
    have h12:=h10.1
    have h13:rs.length=(z01 64 (hdS s).tm.2).1.toNat:=h8
    show ((rs.length:Nat):Int)=_
    rw [h13,Int.toNat_of_nonneg h12.1]
   rw [e,List.append_nil]
   rfl
abbrev polyB:BitVec 32:=0xEDB88320#32
def zwa (s:BitVec 32):BitVec 32:=(s >>> 1) ^^^ (polyB &&& (0#32-(s &&& 1#32)))
def zq9:Nat->BitVec 32->BitVec 32
 | 0,s=>s
 | k+1,s=>zwa (zq9 k s)
def zq8 (s:BitVec 32) (c:UInt8):BitVec 32:=zq9 8 (s ^^^ BitVec.ofNat 32 c.toNat)
def z5a (s:BitVec 32) (bs:List UInt8):BitVec 32:=bs.foldl zq8 s
def zr0 (x:BitVec 32) (bs:List UInt8):BitVec 32 := ~~~ (z5a (~~~ x) bs)
def z94 (bs:List UInt8):Nat:=(zr0 0#32 bs).toNat
def z3a (n:Nat):List UInt8:=[UInt8.ofNat n,UInt8.ofNat (n / 256),UInt8.ofNat (n / 65536),UInt8.ofNat (n / 16777216)]
def z0h:List UInt8->Nat
 | a::b::c::d::_=>a.toNat+256*b.toNat+65536*c.toNat+16777216*d.toNat
 | _=>0
def z2u (bs:List UInt8):List UInt8:=z3a bs.length++bs
def z2a (bs:List UInt8):List UInt8:=if bs.length>262144 then [] else z2u bs++z3a (z94 (z2u bs))
def z0v (b:List UInt8):Option (List UInt8 × Nat) :=
 if b.length<8\/z0h b>262144\/z0h b+8>b.length then none else if z0h (b.drop (z0h b+4))=z94 (b.take (z0h b+4)) then some ((b.drop 4).take (z0h b),z0h b+8) else none
theorem zv3 (a b c d:UInt8) (r:List UInt8):z0h (a::b::c::d::r)=a.toNat+256*b.toNat+65536*c.toNat+16777216*d.toNat:=rfl
theorem zkc {n:Nat} (h:n<4294967296) (r:List UInt8):z0h (z3a n++r)=n:=by
 unfold z3a z0h
 simp
 omega
theorem zdz:∀ (b:List UInt8),4<=b.length->z3a (z0h b)=b.take 4/\z0h b<4294967296
 | a::b::c::d::r,_=>by
  have h1:=a.toNat_lt
  have h2:=b.toNat_lt
  have h3:=c.toNat_lt
  have h4:=d.toNat_lt
  rw [zv3]
  refine ⟨?_,by omega⟩
  have e:∀ (x:UInt8) (n:Nat),n % 256=x.toNat->UInt8.ofNat n=x:=λx n h=>by
   apply UInt8.toNat_inj.1
   simp [h]
  unfold z3a
  rw [e a _ (by omega),e b _ (by omega),e c _ (by omega),e d _ (by omega)]
  rfl
theorem z5m (n:Nat):(z3a n).length=4:=rfl
theorem zpm (bs:List UInt8):z94 bs<4294967296:=(zr0 0#32 bs).isLt
theorem z61 {bs:List UInt8} (h:bs.length<=262144) (r:List UInt8):z0v (z2a bs++r)=some (bs,bs.length+8):=by
 have hs:=zpm (z2u bs)
 have hl:(z2u bs).length=bs.length+4:=by unfold z2u;rw [List.length_append,z5m];omega
 have e0:z2a bs++r=z2u bs++(z3a (z94 (z2u bs))++r):=by unfold z2a;rw [if_neg (by omega),List.append_assoc]
 have e1:z0h (z2a bs++r)=bs.length:=by
  rw [e0];unfold z2u;rw [List.append_assoc];exact zkc (by omega) _
 have e2:(z2a bs++r).length=bs.length+8+r.length:=by
  rw [e0,List.length_append,List.length_append,hl,z5m];omega
 unfold z0v
 rw [e1,e2,if_neg (by omega),e0,<- hl,List.drop_left,List.take_left,zkc hs,if_pos rfl]
 congr 2
 unfold z2u
 rw [List.append_assoc,show (4:Nat)=(z3a bs.length).length from rfl,List.drop_left,List.take_left]
theorem z5l {b body:List UInt8} {n:Nat} (h:z0v b=some (body,n)):n=body.length+8/\n<=b.length/\body.length<=262144/\b.take n=z2a body:=by
 unfold z0v at h
 split at h
 ·cases h
 rename_i h1
 split at h
 ·rename_i h2
  simp only [Option.some.injEq,Prod.mk.injEq] at h
  obtain ⟨rfl,rfl⟩:=h
  have hbl:((b.drop 4).take (z0h b)).length=z0h b:=by rw [List.length_take,List.length_drop];omega
  refine ⟨by rw [hbl],by omega,by rw [hbl];omega,?_⟩
  have hh:z2u ((b.drop 4).take (z0h b))=b.take (z0h b+4):=by
   unfold z2u
   rw [hbl,(zdz b (by omega)).1,Nat.add_comm,List.take_add]
  unfold z2a
  rw [if_neg (by rw [hbl];omega),hh,<- h2,(zdz (b.drop (z0h b+4)) (by rw [List.length_drop];omega)).1,show z0h b+8=(z0h b+4)+4 from rfl,List.take_add]
 ·cases h
theorem zuc (b:List UInt8):z0v b=if b.length<8\/z0h b>262144\/z0h b+8>b.length then none else if z2a ((b.drop 4).take (z0h b))=b.take (z0h b+8) then some ((b.drop 4).take (z0h b),z0h b+8) else none:=by
 by_cases h1:b.length<8\/z0h b>262144\/z0h b+8>b.length
 ·unfold z0v;rw [if_pos h1,if_pos h1]
 rw [if_neg h1]
 by_cases h2:z2a ((b.drop 4).take (z0h b))=b.take (z0h b+8)
 ·rw [if_pos h2]
  have hbl:((b.drop 4).take (z0h b)).length=z0h b:=by rw [List.length_take,List.length_drop];omega
  have h3:=z61 (bs:=(b.drop 4).take (z0h b)) (by rw [hbl];omega) (b.drop (z0h b+8))
  rw [h2,List.take_append_drop,hbl] at h3
  exact h3
 ·rw [if_neg h2]
  cases hf:z0v b with
  | none=>rfl
  | some q =>
   obtain ⟨g1,g2,g3,g4⟩:=z5l (body:=q.1) (n:=q.2) hf
   unfold z0v at hf
   rw [if_neg h1] at hf
   split at hf
   ·simp only [Option.some.injEq] at hf
    subst hf
    exact absurd g4.symm h2
   ·cases hf
def shB (base fin:Int):List UInt8:=83::(uI base++uI fin)
def shL (base fin:Int):List UInt8:=z2a (shB base fin)
def frL (b:BatM):List UInt8:=z2a (z2c b)
structure SegA where
 base:Int
 fin:Int
 bs:List BatM
def SegA.file (s:SegA):List UInt8:=shL s.base s.fin++s.bs.flatMap frL
def z0a (bs:List BatM):Int:=match bs.getLast? with
 | none=>0
 | some b=>b.base+zp b
def SegA.reach (s:SegA):Int:=max (max s.base s.fin) (z0a s.bs)
def z5f (x:Int) (rs:List RecM):Int:=rs.foldl (λt r=>max t r.time) x
def z2v (b:BatM):Int:=if b.rs=[] then b.time else z5f (-1) b.rs
def z1a (x:Int) (bs:List BatM):Int:=bs.foldl (λt b=>max t (z2v b)) x
def zq (l:List SegA):Int:=match l.getLast? with
 | none=>0
 | some s=>s.reach
def z1t (l:List SegA):Int:=match l with
 | []=>0
 | s::_=>s.base
def z1g:Int->List BatM->Prop
 | _,[]=>True
 | n,b::bs=>z05 b=0/\b.p=b/\n<=b.base/\z1g (b.base+zp b) bs
structure SegOk (s:SegA):Prop where
 base:0<=s.base/\s.base<=1099511627776
 fin:s.fin=0\/(s.base<s.fin/\s.fin<=1099511627776)
 bs:z1g s.base s.bs
def z0b:Int->List SegA->Prop
 | _,[]=>True
 | n,s::r=>n<=s.base/\SegOk s/\z0b (max s.reach (s.base+1)) r
def z5c (base:Int) (body:List UInt8):Option Int :=
 let a:=z0t (some body)
 let b:=z0k a.2
 let c:=z0k b.2
 if c.2=some []/\a.1=83/\(b.1:Int)=base/\base<=1099511627776/\c.1<=1099511627776/\(c.1=0\/base<c.1) then some c.1 else none
def z25:Nat->Int->List UInt8->List BatM × Nat
 | 0,_,_=>([],0)
 | k+1,n,raw=>match z0v raw with
  | none=>([],0)
  | some (body,m)=>match z5i body with
   | none=>([],0)
   | some b=>if b.base<n then ([],0) else (b::(z25 k (b.base+zp b) (raw.drop m)).1,m+(z25 k (b.base+zp b) (raw.drop m)).2)
def z4b (base:Int) (raw:List UInt8):Option (SegA × Nat):=match z0v raw with
 | none=>none
 | some (body,m)=>match z5c base body with
  | none=>none
  | some fin=>some (⟨base,fin,(z25 raw.length base (raw.drop m)).1⟩,m+(z25 raw.length base (raw.drop m)).2)
theorem z7j {bs:List UInt8} (h:bs.length<=262144):(z2a bs).length=bs.length+8:=by
 unfold z2a
 rw [if_neg (by omega),List.length_append,z5m]
 show (z3a _++_).length+4=_
 rw [List.length_append,z5m]
 omega
theorem zd0 (base fin:Int):3<=(shB base fin).length/\(shB base fin).length<=21:=by
 have h1:=z1p base
 have h2:=z1p fin
 unfold shB
 rw [List.length_cons,List.length_append]
 omega
theorem zgy (base fin:Int):11<=(shL base fin).length/\(shL base fin).length<=29:=by
 have h:=zd0 base fin
 unfold shL
 rw [z7j (by omega)]
 omega
theorem zxm {time:Int} {ahead:ByteArray} {r:RecM}:(z5v time ahead r).length<=31+r.key.size+10+r.value.size:=by
 unfold z5v z6i
 have h1:=zif (r.time-time)
 have h2:=z1p ((z0l (bl ahead) (bl r.key):Nat):Int)
 have h3:=z1p (((r.key.size-z0l (bl ahead) (bl r.key):Nat)):Int)
 have h4:=z1p (r.value.size:Int)
 have h5:=z1c r.key
 have h6:=z1c r.value
 simp only [List.length_append,List.length_cons,List.length_drop]
 split
 ·simp only [List.length_nil];omega
 ·simp only [List.length_append];omega
theorem zci {time:Int} {n:Nat}:∀ {rs:List RecM} {ahead:ByteArray},(∀ r ∈ rs,r.key.size+r.value.size<=n)->(z29 time ahead rs).length<=rs.length*(41+n)
 | [],_,_=>by simp [z29]
 | r::rs,ahead,h=>by
  have h1:=zxm (time:=time) (ahead:=ahead) (r:=r)
  have h2:=zci (time:=time) (n:=n) (rs:=rs) (ahead:=r.key) λx hx=>h x (List.mem_cons_of_mem _ hx)
  have h3:=h r (List.mem_cons_self ..)
  unfold z29
  rw [List.length_append,List.length_cons,Nat.add_mul]
  omega
theorem zog {b:BatM} {n:Nat} (h:∀ r ∈ b.rs,r.key.size+r.value.size<=n):2<=(z2c b).length/\(z2c b).length<=62+b.rs.length*(41+n):=by
 have h1:=z1p b.base
 have h2:=z1p b.pid
 have h3:=z1p b.epoch
 have h4:=z1p b.seq
 have h5:=z1p b.time
 have h6:=z1p (b.rs.length:Nat)
 have h7:=zci (time:=b.time) (ahead:=⟨#[]⟩) h
 unfold z2c
 simp only [List.length_cons,List.length_append]
 split <;> split <;> simp only [List.length_nil,List.length_append] <;> omega
theorem z5h {b:BatM} (hv:z05 b=0):2<=(z2c b).length/\(z2c b).length<=262144:=by
 obtain ⟨h64,hrs⟩:=z2z hv
 have h:=zog (b:=b) (n:=2048) λr hr=>by
  obtain ⟨h1,h2,-⟩:=z4s (hrs r hr)
  omega
 have:b.rs.length*(41+2048)<=64*(41+2048):=Nat.mul_le_mul_right _ h64
 omega
theorem z4l {b:BatM} (hv:z05 b=0):10<=(frL b).length/\(frL b).length=(z2c b).length+8:=by
 have h:=z5h hv
 unfold frL
 rw [z7j h.2]
 omega
theorem zqo {base fin:Int} (hb:0<=base/\base<=1099511627776) (hf:fin=0\/(base<fin/\fin<=1099511627776)):z5c base (shB base fin)=some fin:=by
 unfold z5c shB
 have e1:z0t (some (83::(uI base++uI fin)))=(83,some (uI base++uI fin)):=rfl
 have e2:z0k (some (uI base++uI fin))=(base.toNat,some (uI fin)):=z77 (by omega) _
 have e3:z0k (some (uI fin))=(fin.toNat,some []):=by
  have:=z77 (v:=fin.toNat) (by omega) []
  rwa [List.append_nil] at this
 simp only [e1,e2,e3]
 rw [if_pos ⟨trivial,trivial,by omega,by omega,by omega,by omega⟩]
 congr 1
 omega
theorem zhr {base fin:Int} {body:List UInt8} (h:z5c base body=some fin):(0<=base/\base<=1099511627776)/\(fin=0\/(base<fin/\fin<=1099511627776))/\body=shB base fin:=by
 unfold z5c at h
 simp only at h
 split at h
 rotate_left
 ·cases h
 rename_i hc
 obtain ⟨h1,h2,h3,h4,h5,h6⟩:=hc
 simp only [Option.some.injEq] at h
 have i1:=z6u h1
 have i2:=z6u i1.2
 have i3:=zbt i2.2
 refine ⟨by omega,by omega,?_⟩
 have e:=i3.2
 rw [h2] at e
 simp only [Option.some.injEq] at e
 rw [e]
 unfold shB uI
 have e1:base.toNat=(z0k (z0t (some body)).2).1:=by omega
 have e2:fin.toNat=(z0k (z0k (z0t (some body)).2).2).1:=by omega
 rw [e1,e2,List.append_nil]
 rfl
theorem z1g.mono {m n:Int} {bs:List BatM} (h:z1g n bs) (hm:m<=n):z1g m bs:=by
 cases bs with
 | nil=>trivial
 | cons b bs=>exact ⟨h.1,h.2.1,by have:=h.2.2.1;omega,h.2.2.2⟩
theorem z1g.valid:∀ {n:Int} {bs:List BatM},z1g n bs->∀ b ∈ bs,z05 b=0/\b.p=b
 | _,b::bs,h,x,hx=>by
  rcases List.mem_cons.1 hx with rfl|hx
  ·exact ⟨h.1,h.2.1⟩
  ·exact h.2.2.2.valid x hx
theorem zhn:z0v []=none:=by
 rw [zuc,if_pos (by simp)]
theorem zdd {bs r:List UInt8} (h:bs.length<=262144) {k:Nat} (hk:k<bs.length+8):z0v ((z2a bs++r).take k)=none:=by
 cases hf:z0v ((z2a bs++r).take k) with
 | none=>rfl
 | some q =>
  exfalso
  obtain ⟨body,n⟩:=q
  obtain ⟨h1,h2,h3,h4⟩:=z5l hf
  rw [List.length_take] at h2
  have e1:((z2a bs++r).take k).take n=(z2a bs++r).take n:=by rw [List.take_take,Nat.min_eq_left (by omega)]
  rw [e1] at h4
  have e2:=z61 h3 ((z2a bs++r).drop n)
  rw [<- h4,List.take_append_drop,z61 h] at e2
  simp only [Option.some.injEq,Prod.mk.injEq] at e2
  omega
theorem zfv:∀ {bs:List BatM} {n:Int} {k:Nat} {rest:List UInt8},z1g n bs->bs.length<=k->z0v rest=none->z25 k n (bs.flatMap frL++rest)=(bs,(bs.flatMap frL).length)
 | [],n,0,rest,_,_,_=>rfl
 | [],n,k+1,rest,_,_,hr=>by
  unfold z25
  rw [List.flatMap_nil,List.nil_append,hr]
  rfl
 | b::bs,n,0,rest,_,hk,_=>by simp at hk
 | b::bs,n,k+1,rest,⟨hv,hp,hn,ho⟩,hk,hr=>by
  have hl:=z5h hv
  have hf:=z4l hv
  unfold z25
  rw [List.flatMap_cons,List.append_assoc]
  have e:z0v (frL b++(bs.flatMap frL++rest))=some (z2c b,(z2c b).length+8):=z61 hl.2 _
  rw [e]
  simp only
  rw [zhe hv]
  simp only
  rw [hp,if_neg (by omega),<- hf.2,List.drop_left,zfv ho (by simpa using hk) hr,List.length_append]
theorem zij:∀ {k:Nat} {n:Int} {raw:List UInt8},z1g n (z25 k n raw).1/\raw.take (z25 k n raw).2=(z25 k n raw).1.flatMap frL/\(z25 k n raw).2<=raw.length
 | 0,n,raw=>⟨trivial,by simp [z25],Nat.zero_le _⟩
 | k+1,n,raw=>by
  unfold z25
  cases hf:z0v raw with
  | none=>exact ⟨trivial,by simp,Nat.zero_le _⟩
  | some q =>
   obtain ⟨body,m⟩:=q
   simp only
   cases hd:z5i body with
   | none=>exact ⟨trivial,by simp,Nat.zero_le _⟩
   | some b =>
    simp only
    by_cases hb:b.base<n
    ·rw [if_pos hb];exact ⟨trivial,by simp,Nat.zero_le _⟩
    rw [if_neg hb]
    obtain ⟨i1,i2,i3⟩:=zij (k:=k) (n:=b.base+zp b) (raw:=raw.drop m)
    obtain ⟨d1,d2,d3⟩:=zjl hd
    obtain ⟨f1,f2,f3,f4⟩:=z5l hf
    rw [List.length_drop] at i3
    refine ⟨⟨d1,d3,by omega,i1⟩,?_,by simp only;omega⟩
    simp only
    rw [List.take_add,f4,i2,List.flatMap_cons,<- d2]
    rfl
theorem z8t:∀ {n:Int} {bs:List BatM},z1g n bs->bs.length*10<=(bs.flatMap frL).length
 | _,[],_=>by simp
 | _,b::bs,⟨h1,_,_,h⟩=>by
  have:=z8t h
  have:=z4l h1
  rw [List.flatMap_cons,List.length_append,List.length_cons]
  omega
theorem z2d (s:SegA):s.file.length=(shL s.base s.fin).length+(s.bs.flatMap frL).length:=by
 unfold SegA.file
 rw [List.length_append]
theorem zid {s:SegA} (h:SegOk s) {rest:List UInt8} (hr:z0v rest=none):z4b s.base (s.file++rest)=some (s,s.file.length):=by
 have hl:=zd0 s.base s.fin
 unfold z4b
 have e0:s.file++rest=z2a (shB s.base s.fin)++(s.bs.flatMap frL++rest):=by
  unfold SegA.file shL
  rw [List.append_assoc]
 have e:z0v (s.file++rest)=some (shB s.base s.fin,(shB s.base s.fin).length+8):=by
  rw [e0]
  exact z61 (by omega) _
 rw [e]
 simp only
 rw [zqo h.base h.fin]
 simp only
 have e2:(s.file++rest).drop ((shB s.base s.fin).length+8)=s.bs.flatMap frL++rest:=by
  rw [e0,<- z7j (show (shB s.base s.fin).length<=262144 by omega),List.drop_left]
 have e3:s.bs.length<=(s.file++rest).length:=by
  have:=z8t h.bs
  rw [List.length_append,z2d]
  omega
 rw [e2,zfv h.bs e3 hr,z2d]
 unfold shL
 rw [z7j (by omega)]
theorem zic {s:SegA} (h:SegOk s):z4b s.base s.file=some (s,s.file.length):=by
 have:=zid h zhn
 rwa [List.append_nil] at this
theorem zkw {base:Int} {raw:List UInt8} {s:SegA} {m:Nat} (h:z4b base raw=some (s,m)):SegOk s/\s.base=base/\raw.take m=s.file/\m<=raw.length/\m=s.file.length:=by
 unfold z4b at h
 cases hf:z0v raw with
 | none=>rw [hf] at h;cases h
 | some q =>
  obtain ⟨body,k⟩:=q
  rw [hf] at h
  simp only at h
  cases hh:z5c base body with
  | none=>rw [hh] at h;cases h
  | some fin =>
   rw [hh] at h
   simp only [Option.some.injEq,Prod.mk.injEq] at h
   obtain ⟨rfl,rfl⟩:=h
   obtain ⟨h1,h2,h3⟩:=zhr hh
   obtain ⟨i1,i2,i3⟩:=zij (k:=raw.length) (n:=base) (raw:=raw.drop k)
   obtain ⟨f1,f2,f3,f4⟩:=z5l hf
   rw [List.length_drop] at i3
   have e:raw.take (k+(z25 raw.length base (raw.drop k)).2)=SegA.file ⟨base,fin,(z25 raw.length base (raw.drop k)).1⟩:=by
    rw [List.take_add,f4,i2,h3]
    rfl
   refine ⟨⟨h1,h2,i1⟩,rfl,e,by omega,?_⟩
   rw [<- e,List.length_take]
   omega
theorem z1g.take:∀ {n:Int} {bs:List BatM} (k:Nat),z1g n bs->z1g n (bs.take k)
 | _,[],k,_=>by simp [z1g]
 | _,b::bs,0,_=>trivial
 | _,b::bs,k+1,⟨h1,h2,h3,h4⟩=>⟨h1,h2,h3,h4.take k⟩
theorem zjs:∀ {n:Int} {bs:List BatM} (k:Nat),z1g n bs->∃ j rest,j<=bs.length/\(bs.flatMap frL).take k=(bs.take j).flatMap frL++rest/\z0v rest=none/\∀ m,m<=bs.length->((bs.take m).flatMap frL).length<=k->m<=j
 | _,[],k,_=>⟨0,[],by simp,by simp,zhn,λm hm _=>hm⟩
 | n,b::bs,k,⟨h1,h2,h3,h4⟩=>by
  have hl:=z5h h1
  have hf:=z4l h1
  by_cases hk:k<(frL b).length
  ·refine ⟨0,(frL b++bs.flatMap frL).take k,by omega,by simp,zdd hl.2 (by omega),λm hm h=>?_⟩
   cases m with
   | zero=>omega
   | succ m =>
    rw [List.take_succ_cons,List.flatMap_cons,List.length_append] at h
    omega
  ·obtain ⟨j,rest,i1,i2,i3,i4⟩:=zjs (k-(frL b).length) h4
   refine ⟨j+1,rest,by simp;omega,?_,i3,λm hm h=>?_⟩
   ·rw [List.flatMap_cons,List.take_append,List.take_of_length_le (by omega),i2,List.take_succ_cons,List.flatMap_cons,List.append_assoc]
   ·cases m with
    | zero=>omega
    | succ m =>
     rw [List.take_succ_cons,List.flatMap_cons,List.length_append] at h
     have:=i4 m (by simpa using hm) (by omega)
     omega
def SegA.cut (s:SegA) (j:Nat):SegA:=⟨s.base,s.fin,s.bs.take j⟩
theorem SegOk.cut {s:SegA} (h:SegOk s) (j:Nat):SegOk (s.cut j):=⟨h.base,h.fin,h.bs.take j⟩
theorem zxu {s:SegA} (h:SegOk s) (k:Nat):(k<(shL s.base s.fin).length/\z4b s.base (s.file.take k)=none) \/
  ∃ j,j<=s.bs.length/\(s.cut j).file.length<=k/\z4b s.base (s.file.take k)=some (s.cut j,(s.cut j).file.length)/\∀ m,m<=s.bs.length->(s.cut m).file.length<=k->m<=j:=by
 have hl:=zd0 s.base s.fin
 have hsl:(shL s.base s.fin).length=(shB s.base s.fin).length+8:=z7j (by omega)
 by_cases hk:k<(shL s.base s.fin).length
 ·left
  refine ⟨hk,?_⟩
  unfold z4b
  have e:z0v (s.file.take k)=none:=zdd (by omega) (by omega)
  rw [e]
 ·right
  obtain ⟨j,rest,i1,i2,i3,i4⟩:=zjs (k-(shL s.base s.fin).length) h.bs
  have e:s.file.take k=(s.cut j).file++rest:=by
   unfold SegA.file SegA.cut
   rw [List.take_append,List.take_of_length_le (by omega),i2,List.append_assoc]
  refine ⟨j,i1,?_,by rw [e];exact zid (h.cut j) i3,λm hm h2=>i4 m hm ?_⟩
  ·have:=congrArg List.length e
   rw [List.length_take,List.length_append] at this
   omega
  ·rw [z2d] at h2
   have:(s.cut m).bs=s.bs.take m:=rfl
   rw [this] at h2
   have:(shL (s.cut m).base (s.cut m).fin).length=(shL s.base s.fin).length:=rfl
   omega
theorem z1o {α:Type} (l:List α) (x:α):(l++[x]).getLast? = some x:=by simp
theorem z3c (bs:List BatM) (b:BatM):z0a (bs++[b])=b.base+zp b:=by
 unfold z0a
 rw [z1o]
theorem zfe (x:Int) (bs:List BatM) (b:BatM):z1a x (bs++[b])=max (z1a x bs) (z2v b):=by
 unfold z1a
 rw [List.foldl_append]
 rfl
theorem z1g.next:∀ {n:Int} {bs:List BatM},0<=n->z1g n bs->(bs≠[]->n<z0a bs)/\(bs=[]->z0a bs=0)/\z0a bs<=1099511627777
 | _,[],_,_=>⟨λh=>absurd rfl h,λ_=>rfl,by decide⟩
 | n,b::bs,hn,⟨h1,h2,h3,h4⟩=>by
  obtain ⟨s1,-,⟨-,hba,-⟩,-,s2⟩:=z11 b h1
  obtain ⟨i1,i2,i3⟩:=h4.next (by omega)
  by_cases hb:bs=[]
  ·subst hb
   have e:z0a [b]=b.base+zp b:=z3c [] b
   rw [e]
   exact ⟨λ_=>by omega,(λh=>by cases h),by omega⟩
  ·have e:z0a (b::bs)=z0a bs:=by
    unfold z0a
    cases bs with
    | nil=>exact absurd rfl hb
    | cons c cs=>rfl
   rw [e]
   have:=i1 hb
   exact ⟨λ_=>by omega,(λh=>by cases h),i3⟩
theorem z1g.snoc:∀ {n:Int} {bs:List BatM} {b:BatM},0<=n->z1g n bs->z05 b=0->b.p=b->n<=b.base->z0a bs<=b.base->z1g n (bs++[b])
 | n,[],b,_,_,hv,hp,hn,_=>⟨hv,hp,hn,trivial⟩
 | n,a::bs,b,h0,⟨h1,h2,h3,h4⟩,hv,hp,hn,hx=>by
  obtain ⟨s1,-,⟨-,hba,-⟩,-,s2⟩:=z11 a h1
  refine ⟨h1,h2,h3,?_⟩
  have i:=h4.next (by omega)
  by_cases hb:bs=[]
  ·subst hb
   have e:z0a [a]=a.base+zp a:=z3c [] a
   exact z1g.snoc (by omega) h4 hv hp (by omega) (by rw [i.2.1 rfl];omega)
  ·have e:z0a (a::bs)=z0a bs:=by
    unfold z0a
    cases bs with
    | nil=>exact absurd rfl hb
    | cons c cs=>rfl
   rw [e] at hx
   have:=i.1 hb
   exact z1g.snoc (by omega) h4 hv hp (by omega) hx
theorem z50 {s:SegA} (h:SegOk s):s.base<=s.reach/\s.fin<=s.reach/\z0a s.bs<=s.reach/\s.reach<=1099511627777/\(s.bs≠[]->s.base<z0a s.bs):=by
 obtain ⟨i1,i2,i3⟩:=h.bs.next h.base.1
 have h1:=h.base
 have h2:=h.fin
 unfold SegA.reach
 refine ⟨by omega,by omega,by omega,by omega,i1⟩
structure EntA where
 offset:Int
 place:Int
 before:Int
structure IdxA where
 offset:Int
 place:Int
 late:Int
 gap:Int
 l:List EntA
def zc7 (gap:Int):IdxA:=⟨-1,-1,-1,gap,[]⟩
def zb0 (o p t:Int):Prop:=(0<=o/\o<=1099511627776)/\(0<=p/\p<=4194304)/\(0<=t/\t<=1099511627776)
instance (o p t:Int):Decidable (zb0 o p t):=by unfold zb0;infer_instance
def zwz (x:IdxA) (p:Int):Bool:=match x.l.getLast? with
 | none=>true
 | some e=>decide (p-e.place>=x.gap)
def z47 (x:IdxA) (o p:Int):List EntA:=if zwz x p then x.l++[⟨o,p,x.late⟩] else x.l
def z9m (x:IdxA) (o p t:Int):Int × IdxA:=if ¬ zb0 o p t then (2,x) else if o<=x.offset\/p<=x.place then (21,x) else (0,⟨o,p,max x.late t,x.gap,z47 x o p⟩)
def zav:IdxA->Int->List BatM->IdxA
 | x,_,[]=>x
 | x,q,b::bs=>zav (z9m x b.base q (z2v b)).2 (q+(frL b).length) bs
def SegA.idx (gap:Int) (s:SegA):IdxA:=zav (zc7 gap) (shL s.base s.fin).length s.bs
def z2t (l:List EntA) (o:Int):Option EntA:=(l.filter λe=>decide (e.offset<=o)).getLast?
theorem zc8:∀ (bs:List BatM) (x:IdxA) (q:Int) (b:BatM),zav x q (bs++[b])=(z9m (zav x q bs) b.base (q+(bs.flatMap frL).length) (z2v b)).2
 | [],x,q,b=>by simp [zav]
 | a::bs,x,q,b=>by
  show zav (z9m x a.base q (z2v a)).2 (q+(frL a).length) (bs++[b])=_
  rw [zc8 bs]
  rw [show q+((frL a).length:Int)+((bs.flatMap frL).length:Nat)=q+(((a::bs).flatMap frL).length:Nat) by rw [List.flatMap_cons,List.length_append];omega]
  rfl
theorem zl6:∀ {rs:List RecM} {x:Int},x<=z5f x rs/\∀ r ∈ rs,r.time<=z5f x rs
 | [],x=>⟨Int.le_refl _,λ_ h=>by cases h⟩
 | r::rs,x=>by
  have h:=zl6 (rs:=rs) (x:=max x r.time)
  have e:z5f x (r::rs)=z5f (max x r.time) rs:=rfl
  rw [e]
  refine ⟨by omega,λy hy=>?_⟩
  rcases List.mem_cons.1 hy with rfl|hy
  ·omega
  ·exact h.2 y hy
theorem zil:∀ {rs:List RecM} {x m:Int},x<=m->(∀ r ∈ rs,r.time<=m)->z5f x rs<=m
 | [],x,m,h,_=>h
 | r::rs,x,m,h,hr=>by
  have e:z5f x (r::rs)=z5f (max x r.time) rs:=rfl
  rw [e]
  have:=hr r (List.mem_cons_self ..)
  exact zil (by omega) λy hy=>hr y (List.mem_cons_of_mem _ hy)
theorem zwr {b:BatM} (h:z05 b=0):0<=z2v b/\z2v b<=1099511627776:=by
 obtain ⟨-,-,⟨-,-,-,-,-,htm⟩,-,-⟩:=z11 b h
 obtain ⟨-,hrs⟩:=z2z h
 unfold z2v
 split
 ·exact htm
 ·rename_i hne
  obtain ⟨r,hr⟩:=List.exists_mem_of_ne_nil _ hne
  have h1:=(zl6 (rs:=b.rs) (x := -1)).2 r hr
  have h2:=(z4s (hrs r hr)).2.2.1
  refine ⟨by omega,zil (by omega) λr hr=>(z4s (hrs r hr)).2.2.1.2⟩
theorem ze6:∀ {bs:List BatM} {x:Int},x<=z1a x bs/\∀ b ∈ bs,z2v b<=z1a x bs
 | [],x=>⟨Int.le_refl _,λ_ h=>by cases h⟩
 | r::rs,x=>by
  have h:=ze6 (bs:=rs) (x:=max x (z2v r))
  have e:z1a x (r::rs)=z1a (max x (z2v r)) rs:=rfl
  rw [e]
  refine ⟨by omega,λy hy=>?_⟩
  rcases List.mem_cons.1 hy with rfl|hy
  ·omega
  ·exact h.2 y hy
theorem zhv:∀ {bs:List BatM} {x m:Int},x<=m->(∀ b ∈ bs,z2v b<=m)->z1a x bs<=m
 | [],x,m,h,_=>h
 | r::rs,x,m,h,hr=>by
  have e:z1a x (r::rs)=z1a (max x (z2v r)) rs:=rfl
  rw [e]
  have:=hr r (List.mem_cons_self ..)
  exact zhv (by omega) λy hy=>hr y (List.mem_cons_of_mem _ hy)
theorem zqr {x:Int} (bs:List BatM) (i:Nat):z1a x (bs.take i)<=z1a x bs :=
 zhv ze6.1 λb hb=>ze6.2 b (List.mem_of_mem_take hb)
structure IdxOk (gap q:Int) (bs:List BatM) (x:IdxA):Prop where
 gap:x.gap=gap
 late:x.late=z1a (-1) bs
 offset:x.offset=match bs.getLast? with|none => -1|some b=>b.base
 place:x.place<q+(bs.flatMap frL).length
 lplace:∀ e ∈ x.l,e.place<=x.place
 ent:∀ e ∈ x.l,∃ i,∃ hi:i<bs.length,e=⟨bs[i].base,q+((bs.take i).flatMap frL).length,z1a (-1) (bs.take i)⟩
 first:∀ b,bs.head? = some b->x.l.head? = some ⟨b.base,q,-1⟩
 offs:x.l.Pairwise λa b=>a.offset<b.offset
 befs:x.l.Pairwise λa b=>a.before<=b.before
theorem z9k {n:Int} {bs:List BatM} {b:BatM} (h:z1g n (bs++[b])) (h0:0<=n):z05 b=0/\n<=b.base/\(∀ c,bs.getLast? = some c->c.base<b.base)/\z1g n bs/\z0a bs<=b.base:=by
 induction bs generalizing n with
 | nil=>exact ⟨h.1,h.2.2.1,by simp,trivial,by have:=h.2.2.1;show (0:Int)<=_;omega⟩
 | cons a bs ih =>
  obtain ⟨h1,h2,h3,h4⟩:=h
  obtain ⟨s1,-,⟨-,hba,-⟩,-,s2⟩:=z11 a h1
  obtain ⟨i1,i2,i3,i4,i5⟩:=ih h4 (by omega)
  refine ⟨i1,by omega,λc hc=>?_,⟨h1,h2,h3,i4⟩,?_⟩
  ·cases bs with
   | nil=>simp at hc;subst hc;omega
   | cons d ds=>exact i3 c (by simpa using hc)
  ·cases bs with
   | nil=>show a.base+zp a<=_;omega
   | cons d ds=>exact i5
theorem zk0 (gap:Int):∀ (m:Nat) {n q:Int} {bs:List BatM},bs.length=m->0<=n->0<=q->z1g n bs->q+(bs.flatMap frL).length<=4194304->IdxOk gap q bs (zav (zc7 gap) q bs)
 | 0,n,q,bs,hm,_,hq,_,_=>by
  have:bs=[]:=List.length_eq_zero_iff.1 hm
  subst this
  exact ⟨rfl,rfl,rfl,by show (-1:Int)<_;simp;omega,(λ_ h=>by cases h),(λ_ h=>by cases h),(λ_ h=>by cases h),.nil,.nil⟩
 | m+1,n,q,bs,hm,hn,hq,hb,hl=>by
  have hne:bs≠[]:=by rintro rfl;cases hm
  obtain ⟨bs,b,rfl⟩:∃ cs b,bs=cs++[b]:=⟨bs.dropLast,bs.getLast hne,(List.dropLast_concat_getLast hne).symm⟩
  rw [List.length_append] at hm
  obtain ⟨hv,hnb,hlb,hb',-⟩:=z9k hb hn
  have hfl:=z4l hv
  have hfl2:((bs++[b]).flatMap frL).length=(bs.flatMap frL).length+(frL b).length:=by simp
  have ih:=zk0 gap m (by simpa using hm) hn hq hb' (by omega)
  have hlt:=zwr hv
  obtain ⟨-,-,⟨-,hba,-⟩,-,-⟩:=z11 b hv
  rw [zc8]
  generalize hx:zav (zc7 gap) q bs=x at ih
  have hoff:x.offset<b.base:=by
   rw [ih.offset]
   cases hc:bs.getLast? with
   | none=>show (-1:Int)<_;omega
   | some c=>exact hlb c hc
  unfold z9m
  rw [if_neg (by intro h;apply h;exact ⟨by omega,by omega,by omega⟩),if_neg (by have:=ih.place;omega)]
  have hw:∀ (i:Nat) (hi:i<bs.length),(bs++[b])[i]'(by rw [List.length_append];omega)=bs[i]/\(bs++[b]).take i=bs.take i:=λi hi=>⟨List.getElem_append_left hi,by rw [List.take_append_of_le_length (by omega)]⟩
  have hmem:∀ e ∈ z47 x b.base (q+(bs.flatMap frL).length),e ∈ x.l\/e=⟨b.base,q+(bs.flatMap frL).length,x.late⟩:=λe he=>by
   unfold z47 at he
   split at he
   ·rcases List.mem_append.1 he with he|he
    ·exact .inl he
    ·exact .inr (by simpa using he)
   ·exact .inl he
  have hent:∀ e ∈ x.l,e.offset<b.base/\e.before<=x.late:=λe he=>by
   obtain ⟨i,hi,rfl⟩:=ih.ent e he
   refine ⟨?_,by rw [ih.late];exact zqr bs i⟩
   have hlast:∀ {n:Int} {bs:List BatM},z1g n bs->0<=n->∀ (i:Nat) (hi:i<bs.length),bs[i].base<z0a bs:=by
    intro n bs hbs hn i hi
    have h1:z1g n (bs.take i++[bs[i]]):=by
     have:=hbs.take (i+1)
     rwa [List.take_succ_eq_append_getElem hi] at this
    have h2:=z9k h1 hn
    have h3:∀ {n:Int} {ds cs:List BatM},z1g n (ds++cs)->0<=n->z0a ds<=z0a (ds++cs):=by
     intro n ds cs h hn
     induction cs generalizing ds with
     | nil=>rw [List.append_nil];exact Int.le_refl _
     | cons c cs ih =>
      have h':z1g n ((ds++[c])++cs):=by rwa [List.append_assoc]
      have i1:=ih h'
      rw [List.append_assoc] at i1
      have h4:z1g n (ds++[c]):=by
       have:=h'.take (ds++[c]).length
       rwa [List.take_left] at this
      have h5:=z9k h4 hn
      obtain ⟨s1,-,-,-,-⟩:=z11 c h5.1
      have e:z0a (ds++[c])=c.base+zp c:=z3c ds c
      have i1:z0a (ds++[c])<=z0a (ds++(c::cs)):=i1
      have:=h5.2.2.2.2
      omega
    have h6:=h3 (ds:=bs.take i++[bs[i]]) (cs:=bs.drop (i+1)) (by rw [<- List.take_succ_eq_append_getElem hi,List.take_append_drop];exact hbs) hn
    rw [<- List.take_succ_eq_append_getElem hi,List.take_append_drop,List.take_succ_eq_append_getElem hi,z3c] at h6
    obtain ⟨s1,-,-,-,-⟩:=z11 _ h2.1
    omega
   have h7:=hlast hb' hn i hi
   have h8:=(z9k hb hn).2.2.2.2
   show bs[i].base<b.base
   omega
  refine ⟨ih.gap,?_,by rw [z1o],?_,?_,?_,?_,?_,?_⟩
  ·rw [zfe,<- ih.late]
  ·show q+((bs.flatMap frL).length:Int)<_
   omega
  ·intro e he
   show e.place<=q+((bs.flatMap frL).length:Int)
   rcases hmem e he with he|rfl
   ·have:=ih.lplace e he
    have:=ih.place
    omega
   ·exact Int.le_refl _
  ·intro e he
   rcases hmem e he with he|rfl
   ·obtain ⟨i,hi,rfl⟩:=ih.ent e he
    obtain ⟨h1,h2⟩:=hw i hi
    exact ⟨i,by rw [List.length_append];omega,by rw [h1,h2]⟩
   ·refine ⟨bs.length,by simp,?_⟩
    rw [List.getElem_append_right (Nat.le_refl _),List.take_left,ih.late]
    simp
  ·intro a ha
   show (z47 x b.base (q+(bs.flatMap frL).length)).head? = _
   cases bs with
   | nil =>
    simp at ha
    subst ha
    subst hx
    show some (⟨b.base,q+((([]:List BatM).flatMap frL).length:Int),-1⟩:EntA)=_
    congr 2
    simp
   | cons c cs =>
    have h1:=ih.first a (by simpa using ha)
    unfold z47
    split
    ·rw [List.head?_append,h1];rfl
    ·exact h1
  ·show (z47 x b.base _).Pairwise _
   unfold z47
   split
   ·refine List.pairwise_append.2 ⟨ih.offs,by simp,λa ha c hc=>?_⟩
    simp at hc
    subst hc
    exact (hent a ha).1
   ·exact ih.offs
  ·show (z47 x b.base _).Pairwise _
   unfold z47
   split
   ·refine List.pairwise_append.2 ⟨ih.befs,by simp,λa ha c hc=>?_⟩
    simp at hc
    subst hc
    exact (hent a ha).2
   ·exact ih.befs
theorem zqj {α:Type} {p:α->Bool} {l:List α} {i:Nat} (hi:i<=l.length) (h1:∀ x ∈ l.take i,p x=true) (h2:∀ x ∈ l.drop i,p x=false):l.filter p=l.take i:=by
 rw [<- List.take_append_drop i l,List.filter_append,List.filter_eq_self.2 h1,List.filter_eq_nil_iff.2 λx hx=>by rw [h2 x hx];simp,List.append_nil]
 rw [List.take_append_drop]
theorem zrg {α:Type} {p:α->Bool} {l:List α} {i:Nat} (hi:i<=l.length) (hm:l.Pairwise λa b=>p b=true->p a=true) (h1:∀ (h:i-1<l.length),0<i->p l[i-1]=true) (h2:∀ h:i<l.length,p l[i]=false):l.filter p=l.take i:=by
 have hm':∀ (a b:Nat) (hb:b<l.length) (h:a<b),p l[b]=true->p (l[a]'(by omega))=true:=λa b hb h=>List.pairwise_iff_getElem.1 hm a b (by omega) hb h
 refine zqj hi (λx hx=>?_) λx hx=>?_
 ·obtain ⟨j,hj,rfl⟩:=List.mem_iff_getElem.1 hx
  rw [List.length_take] at hj
  rw [List.getElem_take]
  by_cases hji:j=i-1
  ·subst hji;exact h1 (by omega) (by omega)
  ·exact hm' j (i-1) (by omega) (by omega) (h1 (by omega) (by omega))
 ·obtain ⟨j,hj,rfl⟩:=List.mem_iff_getElem.1 hx
  rw [List.length_drop] at hj
  rw [List.getElem_drop]
  cases hp:p (l[i+j]'(by omega)) with
  | false=>rfl
  | true =>
   have h3:=h2 (by omega)
   by_cases hj0:j=0
   ·subst hj0;simp only [Nat.add_zero] at hp;rw [hp] at h3;cases h3
   ·have:=hm' i (i+j) (by omega) (by omega) hp
    rw [this] at h3;cases h3
theorem zvt {α:Type} {l:List α} {i:Nat} (hi:i<=l.length):(l.take i).getLast? = if i=0 then none else l[i-1]? := by
 cases i with
 | zero=>simp
 | succ i =>
  rw [if_neg (by omega),List.take_succ_eq_append_getElem (by omega),z1o]
  simp
theorem zlm {α:Type} {p:α->Bool} {l:List α} {e:α} (h:(l.filter p).getLast? = some e):∃ a c,l=a++e::c/\p e=true/\∀ x ∈ c,p x=false:=by
 induction l with
 | nil=>simp at h
 | cons y r ih =>
  rw [List.filter_cons] at h
  by_cases hr:(r.filter p)=[]
  ·split at h
   ·rw [hr] at h
    simp at h
    subst h
    exact ⟨[],r,rfl,by assumption,λx hx=>by simpa using List.filter_eq_nil_iff.1 hr x hx⟩
   ·rw [hr] at h;simp at h
  ·have h':(r.filter p).getLast? = some e:=by
    split at h
    ·cases hq:r.filter p with
     | nil=>exact absurd hq hr
     | cons z zs=>rw [hq] at h;simpa using h
    ·exact h
   obtain ⟨a,c,rfl,h1,h2⟩:=ih h'
   exact ⟨y::a,c,rfl,h1,h2⟩
theorem Ret.mono {P:Program} {f:FuncId} {args:Array Value} {w:World} {R R':List Value->World->Prop} (h:Ret P f args w R) (hi:∀ vs w',R vs w'->R' vs w'):Ret P f args w R' :=
 Calls.mono h λe w' ⟨vs,he,hv⟩=>⟨vs,he,hi _ _ hv⟩
def stR (R:RdM):Lf:=if R.e=0 then some (z4c R) else none
theorem z74 {R:RdM} (h:R.e=0):stR R=some (z4c R):=if_pos h
theorem z6a {R:RdM} (h:R.e≠0):stR R=none:=if_neg h
theorem zxy {R:RdM}:(stR R).isSome=decide (R.e=0):=by
 unfold stR;split <;> simp [*]
theorem zd1 {R:RdM}:(R.uint).1=(z0k (stR R)).1/\stR R.uint.2=(z0k (stR R)).2:=by
 by_cases h:R.e=0
 ·rw [z74 h]
  cases hn:z3d 0 (R.bs.drop R.at_) with
  | none =>
   have e1:R.uint=(0,⟨R.bs,R.at_,6⟩):=by unfold RdM.uint;rw [if_neg (by rw [h];simp)];simp only [hn]
   have e2:z0k (some (z4c R))=(0,none):=by unfold z0k z4c;simp only [hn]
   rw [e1,e2]
   exact ⟨rfl,if_neg (show ¬ (6:Int)=0 by decide)⟩
  | some q =>
   have e1:R.uint=(q.1,⟨R.bs,R.at_+q.2,R.e⟩):=by unfold RdM.uint;rw [if_neg (by rw [h];simp)];simp only [hn]
   have e2:z0k (some (z4c R))=(q.1,some ((z4c R).drop q.2)):=by unfold z0k z4c;simp only [hn]
   rw [e1,e2]
   refine ⟨rfl,?_⟩
   show (if R.e=0 then some (R.bs.drop (R.at_+q.2)) else none)=some ((R.bs.drop R.at_).drop q.2)
   rw [if_pos h,List.drop_drop]
 ·rw [zl9 h]
  show 0=(z0k (stR R)).1/\stR R=(z0k (stR R)).2
  rw [z6a h]
  exact ⟨rfl,rfl⟩
theorem zih {R:RdM} {lo hi:Int}:(R.within lo hi).1=(z1f lo hi (stR R)).1/\stR (R.within lo hi).2=(z1f lo hi (stR R)).2:=by
 obtain ⟨h1,h2⟩:=zd1 (R:=R)
 unfold RdM.within z1f
 rw [<- h1,<- h2]
 by_cases h:R.uint.2.e=0
 ·rw [if_neg (by rw [h];simp),z74 h]
  simp only
  by_cases hc:zag R.uint.1<lo\/zag R.uint.1>hi
  ·rw [if_pos hc,if_pos hc]
   exact ⟨rfl,if_neg (show ¬ (8:Int)=0 by decide)⟩
  ·rw [if_neg hc,if_neg hc]
   exact ⟨rfl,z74 h⟩
 ·rw [if_pos h]
  show 0=_/\stR R.uint.2=_
  rw [z6a h]
  exact ⟨rfl,rfl⟩
def rdS (T':TypeId) (p:Nat) (s:Lf):HP:=HP.ex λR:RdM=>HP.and (stR R=s) (rdP T' p R)
section
variable {w:World} {l r:List HP} {p:Nat} {s:Lf} {T':TypeId}
theorem z6l (hs:Sat w (rdS T' p s::l)):∃ R:RdM,stR R=s/\Sat w (rdP T' p R::l):=by
 obtain ⟨R,hs⟩:=hs.ex
 obtain ⟨h,hs⟩:=hs.and
 exact ⟨R,h,hs⟩
theorem z24 {R:RdM} (h:stR R=s) (hs:Sat w (rdP T' p R::l)):Sat w (rdS T' p s::l):=.ex_mk R (.and_mk h hs)
theorem zuz (x:Sl) (bs:List UInt8) [hx:FocR l x 1 (bs.flatMap zi)] (hn:bs.length<=1000000000) (hs:Sat w l) :
  Ret P F.a189 #[x.v] w λvs w'=>∃ p:Nat,vs=[.pointer (some ⟨p,0,none⟩)]/\Sat w' (rdS T.a61 p (some bs)::l) :=
 (zlp x bs hn hs).mono λ_ _ h=>by
  obtain ⟨p,rfl,hs⟩:=h
  exact ⟨p,rfl,z24 (R:=⟨bs,0,0⟩) rfl hs⟩
theorem zh0 [hf:Fo l (rdS T.a61) p s r] (hs:Sat w l):Ret P F.a196 #[.pointer (some ⟨p,0,none⟩)] w λvs w'=>vs=[.int .u64 ((z0k s).1:Int)]/\Sat w' (rdS T.a61 p (z0k s).2::r):=by
 obtain ⟨R,rfl,hs⟩:=z6l (hs.perm hf.perm)
 refine (zpi (p:=p) hs).mono λ_ _ h=>?_
 obtain ⟨rfl,hs⟩:=h
 exact ⟨by rw [zd1.1],z24 zd1.2 hs⟩
theorem zvw (lo hi:Int) [hf:Fo l (rdS T.a61) p s r] (hs:Sat w l):Ret P F.a197 #[.pointer (some ⟨p,0,none⟩),.int .i64 lo,.int .i64 hi] w λvs w'=>vs=[.int .i64 (z1f lo hi s).1]/\Sat w' (rdS T.a61 p (z1f lo hi s).2::r):=by
 obtain ⟨R,rfl,hs⟩:=z6l (hs.perm hf.perm)
 refine (zvl (p:=p) lo hi hs).mono λ_ _ h=>?_
 obtain ⟨rfl,hs⟩:=h
 exact ⟨by rw [zih.1],z24 zih.2 hs⟩
theorem zua [hf:Fo l (rdS T.a61) p s r] (hs:Sat w l):Ret P F.a192 #[.pointer (some ⟨p,0,none⟩)] w λvs w'=>∃ e:Int,vs=[.int .i64 e]/\(e=0↔s.isSome=true)/\Sat w' (rdS T.a61 p s::r):=by
 obtain ⟨R,rfl,hs⟩:=z6l (hs.perm hf.perm)
 refine (z03w (p:=p) hs).mono λ_ _ h=>?_
 obtain ⟨rfl,hs⟩:=h
 exact ⟨R.e,rfl,by rw [zxy,decide_eq_true_iff],z24 rfl hs⟩
theorem zu9 [hf:Fo l (rdS T.a61) p s r] (hs:Sat w l):Ret P F.a191 #[.pointer (some ⟨p,0,none⟩)] w λvs w'=>∃ e:Int,vs=[.int .i64 e]/\(e=0↔s=some [])/\Sat w' r:=by
 obtain ⟨R,rfl,hs⟩:=z6l (hs.perm hf.perm)
 have hb:=(z5u hs).1
 refine (z03v (p:=p) hs).mono λ_ _ h=>?_
 obtain ⟨rfl,hs⟩:=h
 refine ⟨_,rfl,?_,hs.tail⟩
 rw [zqc hb]
 unfold stR
 by_cases h:R.e=0 <;> simp [h]
end
section
variable {w:World} {l r:List HP} {p:Nat} {s:Lf}
theorem z02l (b:Bool) (hs:Sat w l):Ret P F.a186 #[.bool b] w λvs w'=>∃ z:Sl,vs=[z.v]/\Sat w' (slc T.a59 1 z ([z7q b].flatMap zi)::l) :=
 zns b <| by
  delta z00d AR Ai Am
  refine ze (λh=>?_) λh=>?_
  ·subst h
   refine z99 hs (enc:=zi) (1:UInt8) λz w' hs=>?_
   exact ⟨rfl,z,rfl,hs⟩
  ·have h:b=false:=by simpa using h
   subst h
   refine z99 hs (enc:=zi) (0:UInt8) λz w' hs=>?_
   exact ⟨rfl,z,rfl,hs⟩
theorem zgs (n:Nat) {x:Sl} {bs:List UInt8} {e:Int} {at_:Nat} (hn:at_+n<=bs.length) (hb:bs.length<=1000000000) (hcap:x.len<=x.cap) [hf:FocB l p (.cells [.slice x.a x.len x.cap,.int .i64 at_,.int .i64 e].toArray T.a61) r] [hr:FocR r x 1 (bs.flatMap zi)] (hs:Sat w l) :
  Ret P F.a203 #[.pointer (some ⟨p,0,none⟩),.int .i64 n] w λvs w'=>vs=[.slice (z1r x.a 1 at_ x.cap) n (x.cap-at_)]/\Sat w' (pt p (.cells #[.slice x.a x.len x.cap,.int .i64 (at_+n:Nat),.int .i64 e] T.a61)::r) :=
 zo9 _ n <| by
  delta z00u AF AI AL AN AV Aa Am Aq Bp
  have hs:=hs.perm hf.perm
  have hl:=hs.slen x (xs:=bs) (enc:=zi)
  refine zj ?_
  refine za hs ?_
  refine zj ?_
  have e2:IntKind.wrap .i64 ((at_:Int)+n)=((at_+n:Nat):Int):=by rw [w64 (by omega) (by omega)];omega
  rw [e2]
  refine z07 hs λw' hs=>?_
  refine zy hs λw' hs=>?_
  refine zj ?_
  refine za hs ?_
  refine zj ?_
  refine za hs ?_
  refine zj ?_
  refine za hs ?_
  have e3:IntKind.wrap .i64 (((at_+n:Nat):Int)-n)=(at_:Int):=by rw [w64 (by omega) (by omega)];omega
  rw [e3]
  refine wp_must (by omega) ?_
  refine zd ?_
  refine ⟨rfl,?_,hs⟩
  simp only [Int.toNat_natCast,Nat.add_sub_cancel_left]
end
theorem bvi (s:BitVec 32):BitVec.ofInt 32 ((s.toNat:Nat):Int)=s:=by rw [BitVec.ofInt_natCast,BitVec.ofNat_toNat,BitVec.setWidth_eq]
theorem wbv (s:BitVec 32):IntKind.wrap .u32 ((s.toNat:Nat):Int)=((s.toNat:Nat):Int):=by rw [zj5,Nat.mod_eq_of_lt s.isLt]
theorem zv2 (s:BitVec 32):BitVec.ofInt 32 4294967295 ^^^ BitVec.ofInt 32 ((s.toNat:Nat):Int) = ~~~ s:=by
 rw [bvi]
 have:BitVec.ofInt 32 4294967295=BitVec.allOnes 32:=by decide +kernel
 rw [this,BitVec.allOnes_xor]
theorem z06l (s:BitVec 32):BitVec.ofInt 32 (Int.fdiv ((s.toNat:Nat):Int) 2)=s >>> 1:=by
 rw [z79 _ (by decide),BitVec.ofInt_natCast]
 apply BitVec.eq_of_toNat_eq
 have:=s.isLt
 rw [BitVec.toNat_ofNat,BitVec.toNat_ushiftRight,Nat.shiftRight_eq_div_pow]
 show s.toNat / 2 % 2 ^ 32=s.toNat / 2 ^ 1
 omega
theorem z03j (s:BitVec 32):BitVec.ofInt 32 (IntKind.wrap .u32 (0-((s.toNat:Nat):Int)))=0#32-s:=by
 apply BitVec.eq_of_toNat_eq
 have:=s.isLt
 have e:IntKind.wrap .u32 (0-((s.toNat:Nat):Int))=(((4294967296-s.toNat) % 4294967296:Nat):Int):=by
  simp [IntKind.wrap,IntKind.bits,IntKind.signed];omega
 rw [e,BitVec.ofInt_natCast,BitVec.toNat_ofNat,BitVec.toNat_sub]
 simp
theorem z02h (s:BitVec 32):IntKind.wrap .u32 (((BitVec.toNat (BitVec.ofInt 32 (Int.fdiv ((s.toNat:Nat):Int) 2) ^^^ BitVec.ofInt 32 (IntKind.wrap .u32 (((BitVec.toNat (BitVec.ofInt 32 3988292384 &&& BitVec.ofInt 32 (IntKind.wrap .u32 (0-IntKind.wrap .u32 (((BitVec.toNat (BitVec.ofInt 32 ((s.toNat:Nat):Int) &&& BitVec.ofInt 32 1):Nat):Int))))):Nat):Int)))):Nat):Int))=(((zwa s).toNat:Nat):Int):=by
 rw [wbv,wbv,wbv,bvi,bvi,z03j,z06l]
 rfl
theorem zyb (s:BitVec 32) (c:UInt8):IntKind.wrap .u32 (((BitVec.toNat (BitVec.ofInt 32 ((s.toNat:Nat):Int) ^^^ BitVec.ofInt 32 (IntKind.wrap .u32 ((c.toNat:Nat):Int))):Nat):Int))=(((s ^^^ BitVec.ofNat 32 c.toNat).toNat:Nat):Int):=by
 have:=c.toNat_lt
 rw [wbv,bvi,zj5,Nat.mod_eq_of_lt (by omega),BitVec.ofInt_natCast]
section
variable {w:World} {l r:List HP} {Q:Post} {S:World->Prop}
theorem zu2 (s:BitVec 32) (bs:List UInt8) (i:Nat) (hi:i<bs.length):z5a s (bs.take (i+1))=zq8 (z5a s (bs.take i)) bs[i]:=by
 unfold z5a
 rw [List.take_add_one,List.getElem?_eq_getElem hi,Option.toList_some,List.foldl_append];rfl
theorem z01a (m:BitVec 32) (x:Sl) (ps:List (Sl × List UInt8)) [hx:FocR l x 1 ((ps.map Prod.fst).flatMap z0d)] (hps:∀ p ∈ ps,FocR l p.1 1 (p.2.flatMap zi)/\p.2.length<=1000000000) (hpl:ps.length<=1000000) (hs:Sat w l) :
  Ret P F.a35 #[.int .u32 ((m.toNat:Nat):Int),x.v] w λvs w'=>vs=[.int .u32 (((zr0 m (ps.flatMap Prod.snd)).toNat:Nat):Int)]/\Sat w' l :=
 zsi _ x <| by
  delta z057 AB AF Aa Ai Am B3 B4 BQ BR BS Bp
  have hl:=hs.slen x (xs:=ps.map Prod.fst) (enc:=z0d)
  rw [List.length_map] at hl
  rw [zv2,wbv]
  refine wp_lt ?_
  refine zf (λu w'=>u=((((z5a (~~~ m) (ps.flatMap Prod.snd)).toNat:Nat):Int),())/\Sat w' l) ?_ ?_
  rotate_left
  ·rintro _ w' ⟨rfl,hs⟩
   refine zm ?_
   rw [zv2,wbv]
   refine wp_lt ?_
   exact ⟨rfl,rfl,hs⟩
  refine z02 (λk u w=>∃ i:Nat,u=((((z5a (~~~ m) ((ps.take i).flatMap Prod.snd)).toNat:Nat):Int),(i:Int),())/\i<=ps.length/\ps.length-i=k/\Sat w l) ps.length ⟨0,rfl,by omega,rfl,hs⟩ ?_
  clear hs
  rintro k _ w ⟨i,rfl,hi,hk,hs⟩
  refine zm ?_
  refine ze (λhc=>?_) λhc=>?_
  rotate_left
  ·refine zh (zg ⟨?_,hs⟩)
   rw [List.take_of_length_le (by omega)]
  have hil:i<ps.length:=by omega
  obtain ⟨hF,hpl2⟩:=hps _ (List.getElem_mem hil)
  have hpi:=hs.slen ps[i].1 (xs:=ps[i].2) (enc:=zi)
  refine zf (λu w'=>u=((((z5a (~~~ m) ((ps.take (i+1)).flatMap Prod.snd)).toNat:Nat):Int),())/\Sat w' l) ?_ ?_
  rotate_left
  ·rintro _ w' ⟨rfl,hs⟩
   refine zm ?_
   refine z3f (us':=[.int .u32 (((z5a (~~~ m) ((ps.take (i+1)).flatMap Prod.snd)).toNat:Nat):Int),.int .i64 ((i+1:Nat):Int)]) (by (try simp (disch:=omega) only [w64]);first|rfl|(congr;omega)) ?_
   refine z0z (ps.length-(i+1)) ?_
   exact ⟨i+1,rfl,by omega,rfl,hs⟩
  refine z1y hs (xs:=ps.map Prod.fst) (enc:=z0d) i (by rw [List.length_map];exact hil) ?_
  rw [List.getElem_map]
  have hto:z5a (~~~ m) ((ps.take (i+1)).flatMap Prod.snd)=z5a (z5a (~~~ m) ((ps.take i).flatMap Prod.snd)) ps[i].2:=by
   rw [List.take_add_one,List.getElem?_eq_getElem hil,Option.toList_some,List.flatMap_append,List.flatMap_singleton]
   unfold z5a
   rw [List.foldl_append]
  rw [hto]
  generalize z5a (~~~ m) ((ps.take i).flatMap Prod.snd)=s0
  generalize ps[i]=q at *
  refine zf (λu w'=>u=((((z5a s0 q.2).toNat:Nat):Int),())/\Sat w' l) ?_ (by rintro _ w' ⟨rfl,hs⟩;refine zm ?_;exact zg ⟨rfl,hs⟩)
  refine z02 (λk u w=>∃ j:Nat,u=((((z5a s0 (q.2.take j)).toNat:Nat):Int),(j:Int),())/\j<=q.2.length/\q.2.length-j=k/\Sat w l) q.2.length ⟨0,rfl,by omega,rfl,hs⟩ ?_
  clear hs
  rintro k _ w ⟨j,rfl,hj,hk,hs⟩
  refine zm ?_
  refine ze (λhc=>?_) λhc=>?_
  rotate_left
  ·refine zh (zg ⟨?_,hs⟩)
   rw [List.take_of_length_le (by omega)]
  have hjl:j<q.2.length:=by omega
  refine zf (λu w'=>u=((((z5a s0 (q.2.take (j+1))).toNat:Nat):Int),())/\Sat w' l) ?_ ?_
  rotate_left
  ·rintro _ w' ⟨rfl,hs⟩
   refine zm ?_
   refine z3f (us':=[.int .u32 (((z5a s0 (q.2.take (j+1))).toNat:Nat):Int),.int .i64 ((j+1:Nat):Int)]) (by (try simp (disch:=omega) only [w64]);first|rfl|(congr;omega)) ?_
   refine z0z (q.2.length-(j+1)) ?_
   exact ⟨j+1,rfl,by omega,rfl,hs⟩
  refine z1y hs (xs:=q.2) (enc:=zi) j hjl ?_
  refine wp_lt ?_
  rw [zyb]
  refine wp_lt ?_
  rw [zu2 s0 q.2 j hjl]
  generalize z5a s0 (q.2.take j)=s1
  show Prog.wp P _ _ _ _
  refine zf (λu w'=>u=((((zq8 s1 q.2[j]).toNat:Nat):Int),())/\Sat w' l) ?_ (by rintro _ w' ⟨rfl,hs⟩;refine zm ?_;exact zg ⟨rfl,hs⟩)
  unfold zq8
  generalize s1 ^^^ BitVec.ofNat 32 q.2[j].toNat=s2
  refine z02 (λk u w=>∃ i:Nat,u=((((zq9 i s2).toNat:Nat):Int),(i:Int),())/\i<=8/\8-i=k/\Sat w l) 8 ⟨0,rfl,by omega,rfl,hs⟩ ?_
  clear hs
  rintro k _ w ⟨i,rfl,hi,hk,hs⟩
  refine zm ?_
  refine ze (λhc=>?_) λhc=>?_
  rotate_left
  ·obtain rfl:i=8:=by omega
   exact zh (zg ⟨rfl,hs⟩)
  rw [z02h]
  refine wp_lt ?_
  refine z3f (us':=[.int .u32 (((zwa (zq9 i s2)).toNat:Nat):Int),.int .i64 ((i+1:Nat):Int)]) (by (try simp (disch:=omega) only [w64]);first|rfl|(congr;omega)) ?_
  refine z0z (8-(i+1)) ?_
  exact ⟨i+1,rfl,by omega,rfl,hs⟩
theorem z036 (x:Sl) (ps:List (Sl × List UInt8)) [hx:FocR l x 1 ((ps.map Prod.fst).flatMap z0d)] (hps:∀ p ∈ ps,FocR l p.1 1 (p.2.flatMap zi)/\p.2.length<=1000000000) (hpl:ps.length<=1000000) (hs:Sat w l) :
  Ret P F.a38 #[x.v] w λvs w'=>vs=[.int .u32 ((z94 (ps.flatMap Prod.snd):Nat):Int)]/\Sat w' l :=
 zsl x <| by
  delta z05a Am BO BQ
  refine z8 (z01a 0#32 x ps hps hpl hs) λ_ _ hs=>?_
  obtain ⟨rfl,hs⟩:=hs
  refine zb ?_
  refine wp_lt ?_
  exact ⟨rfl,rfl,hs⟩
theorem zge (x y:Sl) (bs:List UInt8) [hx:FocR l x 1 ([y].flatMap z0d)] [hy:FocR l y 1 (bs.flatMap zi)] (hn:bs.length<=1000000000) (hs:Sat w l) :
  Ret P F.a38 #[x.v] w λvs w'=>vs=[.int .u32 ((z94 bs:Nat):Int)]/\Sat w' l:=by
 have:=@z036 w l x [(y,bs)] hx (by intro p hp;rw [List.mem_singleton.1 hp];exact ⟨hy,hn⟩) (by simp) hs
 simpa using this
theorem zon (n:Nat) (hn:n<4294967296) (hs:Sat w l):Ret P F.a39 #[.int .u32 (n:Int)] w λvs w'=>∃ z:Sl,vs=[z.v]/\Sat w' (slc T.a59 1 z ((z3a n).flatMap zi)::l) :=
 zsm n <| by
  delta z05b AR Am
  have e0:IntKind.wrap .u8 (n:Int)=(((UInt8.ofNat n).toNat:Nat):Int):=by rw [zcq];simp
  have e1:IntKind.wrap .u8 (Int.fdiv (n:Int) 256)=(((UInt8.ofNat (n / 256)).toNat:Nat):Int):=by rw [z79 n (by decide),zcq];simp
  have e2:IntKind.wrap .u8 (Int.fdiv (n:Int) 65536)=(((UInt8.ofNat (n / 65536)).toNat:Nat):Int):=by rw [z79 n (by decide),zcq];simp
  have e3:IntKind.wrap .u8 (Int.fdiv (n:Int) 16777216)=(((UInt8.ofNat (n / 16777216)).toNat:Nat):Int):=by rw [z79 n (by decide),zcq];simp
  rw [e0,e1,e2,e3]
  refine z8q hs (enc:=zi) (z3a n) (cs:=((z3a n).flatMap zi).toArray) (by kernel_rfl) (λb w' hs=>?_) (by simp)
  exact ⟨rfl,_,rfl,hs⟩
theorem zx7 {a b c d:Nat} (ha:a<256) (hb:b<256) (hc:c<256) (hd:d<256) :
  IntKind.wrap .u32 (((BitVec.toNat (BitVec.ofInt 32 (IntKind.wrap .u32 (((BitVec.toNat (BitVec.ofInt 32 (IntKind.wrap .u32 (((BitVec.toNat (BitVec.ofInt 32 (IntKind.wrap .u32 (a:Int)) ||| BitVec.ofInt 32 (IntKind.wrap .u32 (IntKind.wrap .u32 (b:Int)*256))):Nat):Int))) ||| BitVec.ofInt 32 (IntKind.wrap .u32 (IntKind.wrap .u32 (c:Int)*65536))):Nat):Int))) ||| BitVec.ofInt 32 (IntKind.wrap .u32 (IntKind.wrap .u32 (d:Int)*16777216))):Nat):Int))=((a+256*b+65536*c+16777216*d:Nat):Int):=by
 have wm:∀ {m:Nat},m<4294967296->IntKind.wrap .u32 (m:Int)=(m:Int):=λ{m} h=>by rw [zj5,Nat.mod_eq_of_lt h]
 have or2:∀ {x y i:Nat},x<2 ^ i->y*2 ^ i+x<4294967296->BitVec.toNat (BitVec.ofInt 32 (x:Int) ||| BitVec.ofInt 32 ((y*2 ^ i:Nat):Int))=x+y*2 ^ i:=λ{x y i} h1 h2=>by
  rw [BitVec.ofInt_natCast,BitVec.ofInt_natCast,BitVec.toNat_or,BitVec.toNat_ofNat,BitVec.toNat_ofNat,Nat.mod_eq_of_lt (show x<2 ^ 32 by omega),Nat.mod_eq_of_lt (show y*2 ^ i<2 ^ 32 by omega),Nat.or_comm,Nat.mul_comm,<- Nat.two_pow_add_eq_or_of_lt h1,Nat.add_comm]
 have m1:((b:Nat):Int)*256=((b*2 ^ 8:Nat):Int):=rfl
 have m2:((c:Nat):Int)*65536=((c*2 ^ 16:Nat):Int):=rfl
 have m3:((d:Nat):Int)*16777216=((d*2 ^ 24:Nat):Int):=rfl
 rw [wm (show a<_ by omega),wm (show b<_ by omega),wm (show c<_ by omega),wm (show d<_ by omega),m1,m2,m3,wm (show b*2 ^ 8<_ by omega),wm (show c*2 ^ 16<_ by omega),wm (show d*2 ^ 24<_ by omega),
  or2 (by omega) (by omega),wm (show a+b*2 ^ 8<_ by omega),or2 (by omega) (by omega),wm (show a+b*2 ^ 8+c*2 ^ 16<_ by omega),or2 (by omega) (by omega),wm (by omega)]
 congr 1
 omega
theorem zx1 {bs:List UInt8} (h:4<=bs.length):z0h bs=bs[0].toNat+256*bs[1].toNat+65536*bs[2].toNat+16777216*bs[3].toNat:=by
 match bs,h with
 | a::b::c::d::r,_=>rfl
theorem z7l {α:Type} {enc:α->List Value} {xs:List α} {sz m:Nat} {ii:Int} {x:Sl} {T:TypeId} {g':Prop} {p:Pr} {dec:α->p.D} {f:p.D->Prog} (hs:Sat w l) [hf:FocR l x sz (xs.flatMap enc)] [hE:EncN enc sz] [hD:Enc1 enc p dec] [hT:One P T]
  (n:Nat) (hn:n<xs.length) (h:(f (dec xs[n])).wp P S w Q) (hm:m=n*sz:=by rfl) (hi:ii=n:=by rfl) :
  (Prog.ex [.adr] (c1 λa=>(0:Int)<=ii/\ii<((x.len:Nat):Int)/\x.a=some a) (u1 λa=>.read g' (ld T (Addr.add a m)) (.one (.one p)) (u1 f))).wp P S w Q:=by
 subst hm hi
 have hr:=hf.rd w hs
 have hl:x.len=xs.length:=hr.len hE.len hE.pos
 obtain ⟨a,ha,he⟩:=hr.el hE.len (by omega)
 refine ⟨(a,()),⟨by omega,by omega,ha⟩,(dec xs[n],()),λ_=>?_,h⟩
 have:=he n hn
 rw [hD.ok] at this
 have h2:=At.ld1 (P:=P) (T:=T) this rfl
 cases p <;> exact h2
theorem zc2 (x:Sl) (bs:List UInt8) [hx:FocR l x 1 (bs.flatMap zi)] (hn:4<=bs.length) (hs:Sat w l):Ret P F.a40 #[x.v] w λvs w'=>vs=[.int .u32 ((z0h bs:Nat):Int)]/\Sat w' l :=
 zsn x <| by
  delta z05c AB AL AN Am B3 BQ
  refine zy hs λw' hs=>?_
  refine z7l hs (xs:=bs) (enc:=zi) 0 (by omega) ?_
  refine z7l hs (xs:=bs) (enc:=zi) 1 (by omega) ?_
  refine z7l hs (xs:=bs) (enc:=zi) 2 (by omega) ?_
  refine z7l hs (xs:=bs) (enc:=zi) 3 (by omega) ?_
  rw [zx7 (by have:=bs[0].toNat_lt;omega) (by have:=bs[1].toNat_lt;omega) (by have:=bs[2].toNat_lt;omega) (by have:=bs[3].toNat_lt;omega),<- zx1 hn]
  refine wp_lt ?_
  refine zd ?_
  exact ⟨rfl,rfl,hs⟩
theorem zop (x:Sl) (ps:List (Sl × List UInt8)) [hx:FocR l x 1 ((ps.map Prod.fst).flatMap z0d)] (hps:∀ p ∈ ps,FocR l p.1 1 (p.2.flatMap zi)/\p.2.length<=1000000000) (hpl:ps.length<=1000000) (hs:Sat w l) :
  Ret P F.a37 #[x.v] w λvs w'=>∃ z:Sl,vs=[z.v]/\Sat w' (slc T.a59 1 z ((z2a (ps.flatMap Prod.snd)).flatMap zi)::l) :=
 zsk x <| by
  delta z059 AB AF AQ AR Aa Ac Ai Am Az BG BO Bg Bp Br
  have hl:=hs.slen x (xs:=ps.map Prod.fst) (enc:=z0d)
  rw [List.length_map] at hl
  have hstep:∀ i (hi:i<ps.length),(ps.take (i+1)).flatMap Prod.snd=(ps.take i).flatMap Prod.snd++ps[i].2:=λi hi=>by
   rw [List.take_add_one,List.getElem?_eq_getElem hi,Option.toList_some,List.flatMap_append,List.flatMap_singleton]
  have hmany:∀ i,((ps.take i).flatMap Prod.snd).length<=(ps.flatMap Prod.snd).length:=λi=>by
   have:ps.flatMap Prod.snd=(ps.take i).flatMap Prod.snd++(ps.drop i).flatMap Prod.snd:=by rw [<- List.flatMap_append,List.take_append_drop]
   rw [this,List.length_append]
   omega
  refine zf (λu w'=>u=((((ps.flatMap Prod.snd).length:Nat):Int),())/\(ps.flatMap Prod.snd).length<=262144/\Sat w' l) ?_ ?_
  ·refine z02 (λk u w=>∃ i:Nat,u=(((((ps.take i).flatMap Prod.snd).length:Nat):Int),(i:Int),())/\i<=ps.length/\ps.length-i=k/\((ps.take i).flatMap Prod.snd).length<=262144/\Sat w l) ps.length ⟨0,rfl,by omega,rfl,by simp,hs⟩ ?_
   clear hs
   rintro k _ w ⟨i,rfl,hi,hk,hsm,hs⟩
   refine zm ?_
   refine ze (λhc=>?_) λhc=>?_
   rotate_left
   ·rw [List.take_of_length_le (by omega)] at hsm ⊢
    exact zh (zg ⟨rfl,hsm,hs⟩)
   have hil:i<ps.length:=by omega
   refine z1y hs (xs:=ps.map Prod.fst) (enc:=z0d) i (by rw [List.length_map];exact hil) ?_
   rw [List.getElem_map]
   obtain ⟨hF,hpb⟩:=hps _ (List.getElem_mem hil)
   have hpi:=hs.slen ps[i].1 (xs:=ps[i].2) (enc:=zi)
   have h1:=hmany (i+1)
   have h2:=congrArg List.length (hstep i hil)
   rw [List.length_append] at h2
   have e:IntKind.wrap .i64 (((((ps.take i).flatMap Prod.snd).length:Nat):Int)+((ps[i].1.len:Nat):Int))=((((ps.take (i+1)).flatMap Prod.snd).length:Nat):Int):=by rw [w64 (by omega) (by omega)];omega
   refine z0n e ?_
   refine ze (λhbig=>?_) λhbig=>?_
   ·refine zh (zh ⟨rfl,⟨none,0,0⟩,rfl,?_⟩)
    have:z2a (ps.flatMap Prod.snd)=[]:=by unfold z2a;rw [if_pos (by omega)]
    rw [this]
    exact hs.slc_nil
   refine z3f (us':=[.int .i64 ((((ps.take (i+1)).flatMap Prod.snd).length:Nat):Int),.int .i64 ((i+1:Nat):Int)]) (by (try simp (disch:=omega) only [w64]);first|rfl|(congr;omega)) ?_
   refine z0z (ps.length-(i+1)) ?_
   exact ⟨i+1,rfl,by omega,rfl,by omega,hs⟩
  clear hs
  rintro _ w ⟨rfl,hsm,hs⟩
  refine zm ?_
  have e8:IntKind.wrap .i64 ((((ps.flatMap Prod.snd).length:Nat):Int)+8)=(((ps.flatMap Prod.snd).length+8:Nat):Int):=by rw [w64 (by omega) (by omega)];omega
  rw [e8,zj5,Nat.mod_eq_of_lt (by omega)]
  refine zpw ((ps.flatMap Prod.snd).length+8) hs λz w' hs=>?_
  refine z8 (zon (ps.flatMap Prod.snd).length (by omega) hs) λ_ _ hs=>?_
  obtain ⟨y,rfl,hs⟩:=hs
  refine zb ?_
  have hs:=hs.pick [1,0]
  refine wp_app' (xs:=[]) (ys:=z3a (ps.flatMap Prod.snd).length) (enc:=zi) hs (λz w' hs=>?_) (by simp [z5m])
  rw [List.nil_append] at hs
  have hs:Sat w' (slc T.a59 1 z ((z3a (ps.flatMap Prod.snd).length).flatMap zi)::l):=hs.sub
  refine zf (λu w'=>∃ z:Sl,u=(z,())/\Sat w' (slc T.a59 1 z ((z2u (ps.flatMap Prod.snd)).flatMap zi)::l)) ?_ ?_
  ·refine z02 (λk u w=>∃ (i:Nat) (z:Sl),u=(z,(i:Int),())/\i<=ps.length/\ps.length-i=k/\Sat w (slc T.a59 1 z ((z3a (ps.flatMap Prod.snd).length++(ps.take i).flatMap Prod.snd).flatMap zi)::l)) ps.length ⟨0,z,rfl,by omega,rfl,?_⟩ ?_
   ·simpa using hs
   clear hs
   rintro k _ w ⟨i,z,rfl,hi,hk,hs⟩
   refine zm ?_
   refine ze (λhc=>?_) λhc=>?_
   rotate_left
   ·refine zh (zg ⟨z,rfl,?_⟩)
    rw [List.take_of_length_le (by omega)] at hs
    exact hs
   have hil:i<ps.length:=by omega
   refine z1y hs (xs:=ps.map Prod.fst) (enc:=z0d) i (by rw [List.length_map];exact hil) ?_
   rw [List.getElem_map]
   have hF:=(hps _ (List.getElem_mem hil)).1
   have h1:=hmany (i+1)
   rw [hstep i hil,List.length_append] at h1
   refine wp_app' (xs:=z3a (ps.flatMap Prod.snd).length++(ps.take i).flatMap Prod.snd) (ys:=ps[i].2) (enc:=zi) hs (λz w' hs=>?_) (by rw [List.length_append,z5m];omega)
   rw [List.append_assoc,<- hstep i hil] at hs
   refine z3f (us':=[z.v,.int .i64 ((i+1:Nat):Int)]) (by (try simp (disch:=omega) only [w64]);first|rfl|(congr;omega)) ?_
   refine z0z (ps.length-(i+1)) ?_
   exact ⟨i+1,z,rfl,by omega,rfl,hs⟩
  clear hs
  rintro _ w ⟨z,rfl,hs⟩
  refine zm ?_
  have hhl:(z2u (ps.flatMap Prod.snd)).length=(ps.flatMap Prod.snd).length+4:=by unfold z2u;rw [List.length_append,z5m];omega
  have hsl:=zpm (z2u (ps.flatMap Prod.snd))
  refine z99 hs (enc:=z0d) z λy w' hs=>?_
  refine z8 (zge y z (z2u (ps.flatMap Prod.snd)) (by omega) hs) λ_ _ hs=>?_
  obtain ⟨rfl,hs⟩:=hs
  refine zb ?_
  refine z8 (zon (z94 (z2u (ps.flatMap Prod.snd))) hsl hs) λ_ _ hs=>?_
  obtain ⟨u,rfl,hs⟩:=hs
  refine zb ?_
  have hs:=hs.pick [2,0,0]
  refine wp_app' (xs:=z2u (ps.flatMap Prod.snd)) (ys:=z3a (z94 (z2u (ps.flatMap Prod.snd)))) (enc:=zi) hs (λz w' hs=>?_) (by rw [z5m];omega)
  have e:z2a (ps.flatMap Prod.snd)=z2u (ps.flatMap Prod.snd)++z3a (z94 (z2u (ps.flatMap Prod.snd))):=by unfold z2a;rw [if_neg (by omega)]
  rw [<- e] at hs
  exact ⟨rfl,z,rfl,hs.sub⟩
theorem zwk (x y:Sl) (bs:List UInt8) [hx:FocR l x 1 ([y].flatMap z0d)] [hy:FocR l y 1 (bs.flatMap zi)] (hn:bs.length<=1000000000) (hs:Sat w l) :
  Ret P F.a37 #[x.v] w λvs w'=>∃ z:Sl,vs=[z.v]/\Sat w' (slc T.a59 1 z ((z2a bs).flatMap zi)::l):=by
 have:=@zop w l x [(y,bs)] hx (by intro p hp;rw [List.mem_singleton.1 hp];exact ⟨hy,hn⟩) (by simp) hs
 simpa using this
theorem zaq (x:Sl) (bs:List UInt8) [hx:FocR l x 1 (bs.flatMap zi)] (hcap:x.len<=x.cap) (hn:bs.length<=1000000000) (hs:Sat w l) :
  Ret P F.a34 #[x.v] w λvs w'=>∃ z:Sl,vs=[z.v,.int .i64 ((((z0v bs).getD ([],0)).2:Nat):Int),.bool (z0v bs).isSome]/\Sat w' (slc T.a59 1 z (((z0v bs).getD ([],0)).1.flatMap zi)::l) :=
 zsh x <| by
  delta z056 AB AF AL AN AR Aa Ac Ai Aj Am Az BO BQ
  have hl:=hs.slen x (xs:=bs) (enc:=zi)
  have hno:∀ {w':World},z0v bs=none->Sat w' l->∃ z:Sl,[.slice none 0 0,.int .i64 0,.bool false]=[z.v,.int .i64 ((((z0v bs).getD ([],0)).2:Nat):Int),.bool (z0v bs).isSome]/\Sat w' (slc T.a59 1 z (((z0v bs).getD ([],0)).1.flatMap zi)::l):=λ{w'} h hs=>by
   rw [h];exact ⟨⟨none,0,0⟩,rfl,hs.slc_nil⟩
  refine ze (λh=>?_) λh=>?_
  ·exact ⟨rfl,hno (by unfold z0v;rw [if_pos (.inl (by omega))]) hs⟩
  refine z8 (zc2 x bs (by omega) hs) λ_ _ hs=>?_
  obtain ⟨rfl,hs⟩:=hs
  refine zb ?_
  have hf:=(zdz bs (by omega)).2
  refine wp_lt ?_
  have e1:IntKind.wrap .i64 ((z0h bs:Nat):Int)=((z0h bs:Nat):Int):=by rw [w64 (by omega) (by omega)]
  have e2:IntKind.wrap .i64 (((x.len:Nat):Int)-8)=((bs.length-8:Nat):Int):=by rw [w64 (by omega) (by omega)];omega
  have e3:IntKind.wrap .i64 (((z0h bs:Nat):Int)+4)=((z0h bs+4:Nat):Int):=by rw [w64 (by omega) (by omega)];omega
  rw [e1,e2,e3]
  refine ze (λh2=>?_) λh2=>?_
  ·exact ⟨rfl,hno (by unfold z0v;rw [if_pos (by omega)]) hs⟩
  refine wp_lt ?_
  rw [Int.toNat_natCast]
  have hle:z0h bs+8<=bs.length:=by omega
  have hF1:FocR l ⟨z1r x.a 1 (z0h bs+4) x.cap,x.len-(z0h bs+4),x.cap-(z0h bs+4)⟩ 1 ((bs.drop (z0h bs+4)).flatMap zi):=FocR.post hcap
  have hF2:FocR l ⟨x.a,z0h bs+4,x.cap⟩ 1 ((bs.take (z0h bs+4)).flatMap zi):=FocR.pre (by omega)
  have htl:(bs.take (z0h bs+4)).length<=1000000000:=by rw [List.length_take];omega
  have hdl:4<=(bs.drop (z0h bs+4)).length:=by rw [List.length_drop];omega
  refine zf (λu w'=>u=(decide (z0h (bs.drop (z0h bs+4))≠z94 (bs.take (z0h bs+4))),())/\Sat w' l) ?_ ?_
  ·have hbeq:∀ a b:Nat,(((a:Int) != (b:Int)):Bool)=decide (a≠b):=λa b=>by
    rw [Bool.eq_iff_iff];simp;omega
   refine zy hs λw' hs=>?_
   refine wp_must ⟨by omega,show ((z0h bs+4:Nat):Int)<=((x.len:Nat):Int) by omega⟩ ?_
   refine wp_must ⟨by omega,show ((z0h bs+4:Nat):Int)<=((x.cap:Nat):Int) by omega⟩ ?_
   refine zh2 ?_ ?_
   ·refine z8 (zc2 ⟨z1r x.a 1 (z0h bs+4) x.cap,x.len-(z0h bs+4),x.cap-(z0h bs+4)⟩ (bs.drop (z0h bs+4)) hdl hs) λ_ _ hs=>?_
    obtain ⟨rfl,hs⟩:=hs
    refine zb ?_
    refine z99 hs (enc:=z0d) ⟨x.a,z0h bs+4,x.cap⟩ λy w' hs=>?_
    refine z8 (zge y ⟨x.a,z0h bs+4,x.cap⟩ (bs.take (z0h bs+4)) htl hs) λ_ _ hs=>?_
    obtain ⟨rfl,hs⟩:=hs
    refine zb ?_
    refine zd ?_
    exact zg ⟨by rw [hbeq],hs.tail⟩
   ·refine z99 hs (enc:=z0d) ⟨x.a,z0h bs+4,x.cap⟩ λy w' hs=>?_
    refine z8 (zc2 ⟨z1r x.a 1 (z0h bs+4) x.cap,x.len-(z0h bs+4),x.cap-(z0h bs+4)⟩ (bs.drop (z0h bs+4)) hdl hs) λ_ _ hs=>?_
    obtain ⟨rfl,hs⟩:=hs
    refine zb ?_
    refine z8 (zge y ⟨x.a,z0h bs+4,x.cap⟩ (bs.take (z0h bs+4)) htl hs) λ_ _ hs=>?_
    obtain ⟨rfl,hs⟩:=hs
    refine zb ?_
    refine zd ?_
    exact zg ⟨by rw [hbeq],hs.tail⟩
  clear hs
  rintro _ w ⟨rfl,hs⟩
  refine zm ?_
  refine ze (λh3=>?_) λh3=>?_
  ·exact ⟨rfl,hno (by unfold z0v;rw [if_neg (by omega),if_neg h3]) hs⟩
  have h3:z0h (bs.drop (z0h bs+4))=z94 (bs.take (z0h bs+4)):=Decidable.not_not.1 h3
  have hsome:z0v bs=some ((bs.drop 4).take (z0h bs),z0h bs+8):=by unfold z0v;rw [if_neg (by omega),if_pos h3]
  rw [hsome]
  refine wp_must ⟨by omega,by omega,show ((z0h bs+4:Nat):Int)<=((x.cap:Nat):Int) by omega⟩ ?_
  have hF3:FocR l ⟨z1r x.a 1 4 x.cap,x.len-4,x.cap-4⟩ 1 ((bs.drop 4).flatMap zi):=FocR.post hcap
  have hF4:FocR l ⟨z1r x.a 1 4 x.cap,z0h bs+4-4,x.cap-4⟩ 1 (((bs.drop 4).take (z0h bs+4-4)).flatMap zi):=FocR.pre (x:=⟨z1r x.a 1 4 x.cap,x.len-4,x.cap-4⟩) (by rw [List.length_drop];omega)
  refine z8 (zjg ⟨z1r x.a 1 4 x.cap,z0h bs+4-4,x.cap-4⟩ ((bs.drop 4).take (z0h bs+4-4)) (by rw [List.length_take];omega) hs) λ_ _ hs=>?_
  obtain ⟨z,rfl,hs⟩:=hs
  refine zb ?_
  refine z1z (y:=((z0h bs+8:Nat):Int)) ?_ (by rw [w64 (by omega) (by omega)];omega)
  exact ⟨rfl,z,rfl,hs⟩
def ziw (bs:List UInt8):Option (List UInt8):=match z0v bs with
 | some (body,n)=>if n=bs.length then some body else none
 | none=>none
end
section
variable {w:World} {l r:List HP} {p:Nat} {s:Lf}
theorem zpk {R:RdM} (hb:R.at_<=R.bs.length) (he:R.e=0) (h:R.bs.length-R.at_=0):stR R=some []:=by
 rw [z74 he]
 unfold z4c
 rw [List.drop_eq_nil_of_le (by omega)]
theorem zl4 {R:RdM} (he:R.e=0) (h:R.at_<R.bs.length):stR R=some (R.bs[R.at_]::R.bs.drop (R.at_+1)):=by
 rw [z74 he]
 unfold z4c
 rw [List.drop_eq_getElem_cons h]
theorem zdy {x:Sl} {bs:List UInt8} {n k:Nat} (hcap:x.len<=x.cap) (hk:n+k<=bs.length) [hf:FocR l x 1 (bs.flatMap zi)]:FocR l ⟨z1r x.a 1 n x.cap,k,x.cap-n⟩ 1 (((bs.drop n).take k).flatMap zi):=by
 have h:FocR l ⟨z1r x.a 1 n x.cap,x.len-n,x.cap-n⟩ 1 ((bs.drop n).flatMap zi):=FocR.post hcap
 exact FocR.pre (x:=⟨z1r x.a 1 n x.cap,x.len-n,x.cap-n⟩) (by rw [List.length_drop];omega)
theorem zgb [hf:Fo l (rdS T.a61) p s r] (hs:Sat w l):Ret P F.a190 #[.pointer (some ⟨p,0,none⟩)] w λvs w'=>vs=[.int .i64 ((z0t s).1:Int)]/\Sat w' (rdS T.a61 p (z0t s).2::r) :=
 znw _ <| by
  delta z00h AB AF AI Aa Ac Ah Ai Ak Am Ao Ax Az B1 B3
  obtain ⟨R,rfl,hs⟩:=z6l (hs.perm hf.perm)
  have hb:=z5u hs
  refine z8 (zc4 (p:=p) hs) λ_ _ hs=>?_
  obtain ⟨rfl,hs⟩:=hs
  refine zb ?_
  refine ze (λh=>?_) λh=>?_
  ·have h:R.e≠0:=by simpa using h
   rw [z6a h]
   exact ⟨rfl,rfl,z24 (z6a h) hs⟩
  have h:R.e=0:=by simpa using h
  refine zj ?_
  refine z8 (zc9 (p:=p) hs) λ_ _ hs=>?_
  obtain ⟨rfl,hs⟩:=hs
  refine zb ?_
  refine ze (λh2=>?_) λh2=>?_
  ·refine zj ?_
   refine z8 (z6s (p:=p) 6 hs) λ_ _ hs=>?_
   obtain ⟨rfl,hs⟩:=hs
   refine zb ?_
   rw [zpk hb.1 h (by omega)]
   exact ⟨rfl,rfl,z24 (if_neg (by show ¬ (if R.e=0 then (6:Int) else R.e)=0;rw [if_pos h];decide)) hs⟩
  have hlt:R.at_<R.bs.length:=by omega
  rw [zl4 h hlt]
  obtain ⟨x,-,hs⟩:=z21 hs
  have hl:=hs.slen x (xs:=R.bs) (enc:=zi)
  have hcap:x.len<=x.cap:=(hs.pick [1]).slc_cap
  refine zj ?_
  refine z8 (zgs (p:=p) 1 (x:=x) (bs:=R.bs) (at_:=R.at_) (e:=R.e) (by omega) hb.2 hcap hs) λ_ w' hs=>?_
  obtain ⟨rfl,hs⟩:=hs
  refine zb ?_
  refine z7l (hf:=zdy hcap (by omega)) hs (xs:=(R.bs.drop R.at_).take 1) (enc:=zi) 0 (by rw [List.length_take,List.length_drop];omega) ?_ rfl rfl
  have hg:((R.bs.drop R.at_).take 1)[0]'(by rw [List.length_take,List.length_drop];omega)=R.bs[R.at_]:=by simp
  rw [hg]
  have hc:=(R.bs[R.at_]).toNat_lt
  refine z1z (y:=((R.bs[R.at_]).toNat:Int)) ?_ (by rw [w64 (by omega) (by omega)])
  refine ⟨rfl,rfl,z24 (R:=⟨R.bs,R.at_+1,R.e⟩) ?_ (z13 ⟨R.bs,R.at_+1,R.e⟩ ⟨by show R.at_+1<=R.bs.length;omega,hb.2⟩ hs)⟩
  rw [z74 (R:=⟨R.bs,R.at_+1,R.e⟩) h]
  rfl
end
section
variable {w:World} {l r:List HP} {p:Nat} {s:Lf}
theorem z04d {P:Program} {t tx ty el:TypeId} {bytes:Nat} {xs:List UInt8} {t0:ByteArray} {x:Sl} {k:Sl->Prog} {Q:Post} {S:World->Prop} (hs:Sat w l) [ht:SlT P t el 1 bytes] [hst:StT P tx] [hf:FocS l x el 1 (xs.flatMap zi) r]
  (h:∀ z w',Sat w' (slc el 1 z ((xs++bl t0).flatMap zi)::r)->(k z).wp P S w' Q) (hb:(xs.length+t0.size)*bytes<=140737488355328/\xs.length+t0.size<=9223372036854775807) (hS:∀ w',S w':=by exact λ_=>trivial) :
  (Prog.act (app t tx ty (.slice x.a x.len x.cap) (.string t0)) sL (u1 k)).wp P S w Q:=by
 have h1:x.len=xs.length:=(hs.focS x).rd.len (enc:=zi) (λ_=>rfl) (by decide)
 obtain ⟨i,z,hi,h2,rfl,hz,hzs⟩:=ht.parts
 have hsrc:Src P i.size tx (.string t0) t0.size (byteCells t0) w:=by rw [h2];exact Src.ofString w hst.ok t0
 have hs':=hs.focS x
 rw [<- h2] at hs'
 obtain ⟨z,w',hrun,hlen,hs',_⟩:=zjc (ty:=ty) ht.ok.1 hi hz hzs hs' hsrc (by rw [h1];exact hb.1) (by rw [h1];exact hb.2)
 refine ⟨(z,()),w',hrun,hS _,h z w' ?_⟩
 rw [h2] at hs'
 rw [List.flatMap_append,z9j (bl t0)]
 exact hs'
theorem zq0 (t:ByteArray) (ht:t.size<=1000000000) (hs:Sat w l):Ret P F.a199 #[.string t] w λvs w'=>∃ z:Sl,vs=[z.v]/\Sat w' (slc T.a59 1 z ((uI (t.size:Nat)++bl t).flatMap zi)::l) :=
 zo5 t <| by
  delta z00q AR Am Az
  refine z8 (z4p ((t.size:Nat):Int) (by omega) hs) λ_ w' hs=>?_
  obtain ⟨x,rfl,hs⟩:=hs
  refine zb ?_
  have hl:=hs.slen x
  have hul:=z1p ((t.size:Nat):Int)
  refine z04d (t0:=t) (xs:=uI (t.size:Nat)) hs (λz w' hs=>?_) (by omega)
  exact ⟨rfl,z,rfl,hs⟩
theorem z019 [hf:Fo l (rdS T.a61) p s r] (hs:Sat w l):Ret P F.a193 #[.pointer (some ⟨p,0,none⟩)] w λvs w'=>vs=[.bool (z41 s).1]/\Sat w' (rdS T.a61 p (z41 s).2::r) :=
 znz _ <| by
  delta z00k AB AI AL AN AO Aa Ah Ai Ak Al Am Ao Ar Ax Az B1 B3 Bx
  obtain ⟨R,rfl,hs⟩:=z6l (hs.perm hf.perm)
  have hb:=z5u hs
  refine z8 (zc4 (p:=p) hs) λ_ _ hs=>?_
  obtain ⟨rfl,hs⟩:=hs
  refine zb ?_
  refine ze (λh=>?_) λh=>?_
  ·have h:R.e≠0:=by simpa using h
   rw [z6a h]
   exact ⟨rfl,rfl,z24 (z6a h) hs⟩
  have h:R.e=0:=by simpa using h
  refine zy hs λw' hs=>?_
  refine zj ?_
  refine z8 (zc9 (p:=p) hs) λ_ _ hs=>?_
  obtain ⟨rfl,hs⟩:=hs
  refine zb ?_
  obtain ⟨x,-,hs⟩:=z21 hs
  have hl:=hs.slen x (xs:=R.bs) (enc:=zi)
  have hcap:x.len<=x.cap:=(hs.pick [1]).slc_cap
  refine z0c ?_
  refine za hs ?_
  refine z0c ?_
  refine za hs ?_
  by_cases h2:R.bs.length-R.at_=0
  ·refine zpt hs (xs:=R.bs) (enc:=zi) (0:Int) (λhg=>absurd hg (by rw [h2];simp)) ?_
   refine zd ?_
   refine z0q ?_ (by rw [h2];exact .inl rfl)
   refine zj ?_
   have hs:=z13 R hb hs
   refine z8 (z6s (p:=p) 6 hs) λ_ _ hs=>?_
   obtain ⟨rfl,hs⟩:=hs
   refine zb ?_
   rw [zpk hb.1 h h2]
   exact ⟨rfl,rfl,z24 (if_neg (by show ¬ (if R.e=0 then (6:Int) else R.e)=0;rw [if_pos h];decide)) hs⟩
  ·have hlt:R.at_<R.bs.length:=by omega
   refine zpt hs (xs:=R.bs) (enc:=zi) (((R.bs[R.at_]).toNat:Nat):Int) (λ_=>⟨R.at_,hlt,rfl,rfl⟩) ?_
   refine zd ?_
   rw [zl4 h hlt]
   have hc:=(R.bs[R.at_]).toNat_lt
   unfold z41
   simp only
   refine ze (λh3=>?_) λh3=>?_
   ·rw [if_neg (by omega)]
    refine zj ?_
    have hs:=z13 R hb hs
    refine z8 (z6s (p:=p) 6 hs) λ_ _ hs=>?_
    obtain ⟨rfl,hs⟩:=hs
    refine zb ?_
    exact ⟨rfl,rfl,z24 (if_neg (by show ¬ (if R.e=0 then (6:Int) else R.e)=0;rw [if_pos h];decide)) hs⟩
   ·rw [if_pos (by omega)]
    refine zj ?_
    refine z8 (zgs (p:=p) 1 (x:=x) (bs:=R.bs) (at_:=R.at_) (e:=R.e) (by omega) hb.2 hcap hs) λ_ w' hs=>?_
    obtain ⟨rfl,hs⟩:=hs
    refine zb ?_
    refine z7l (hf:=zdy hcap (by omega)) hs (xs:=(R.bs.drop R.at_).take 1) (enc:=zi) 0 (by rw [List.length_take,List.length_drop];omega) ?_ rfl rfl
    have hg:((R.bs.drop R.at_).take 1)[0]'(by rw [List.length_take,List.length_drop];omega)=R.bs[R.at_]:=by simp
    rw [hg]
    refine wp_lt ?_
    have e:((((R.bs[R.at_]).toNat:Nat):Int) == 1)=decide ((R.bs[R.at_]).toNat=1):=by
     rw [Bool.eq_iff_iff];simp;omega
    rw [e]
    refine ⟨rfl,rfl,z24 (R:=⟨R.bs,R.at_+1,R.e⟩) ?_ (z13 ⟨R.bs,R.at_+1,R.e⟩ ⟨by show R.at_+1<=R.bs.length;omega,hb.2⟩ hs)⟩
    rw [z74 (R:=⟨R.bs,R.at_+1,R.e⟩) h]
    rfl
theorem zpp (most:Nat) (hm:most<=1000000000) [hf:Fo l (rdS T.a61) p s r] (hs:Sat w l):Ret P F.a195 #[.pointer (some ⟨p,0,none⟩),.int .i64 (most:Nat)] w λvs w'=>vs=[.string (z1e most s).1]/\Sat w' (rdS T.a61 p (z1e most s).2::r) :=
 zo1 _ _ <| by
  delta z00m AF AH AI AU AV AY AZ Aa Ac Ah Ai Ak Al Am Ao Aq Ax Ay Az B1
  obtain ⟨R,rfl,hs⟩:=z6l (hs.perm hf.perm)
  have hb:=z5u hs
  refine z8 (zc4 (p:=p) hs) λ_ _ hs=>?_
  obtain ⟨rfl,hs⟩:=hs
  refine zb ?_
  refine ze (λh=>?_) λh=>?_
  ·have h:R.e≠0:=by simpa using h
   rw [z6a h]
   exact ⟨rfl,rfl,z24 (z6a h) hs⟩
  have h:R.e=0:=by simpa using h
  refine zj ?_
  obtain ⟨x,-,hs⟩:=z21 hs
  refine za hs ?_
  refine wp_lt ?_
  refine zj ?_
  have hs:=z13 R hb hs
  refine z8 (zpd (p:=p) h hs) λ_ _ hs=>?_
  obtain ⟨rfl,hs⟩:=hs
  refine zb ?_
  refine wp_lt ?_
  refine zj ?_
  have hst:=zd1 (R:=R)
  have hbs:=zpq R
  generalize hU:R.uint=U at *
  obtain ⟨v,R'⟩:=U
  have hs:Sat _ (rdP T.a61 p R'::r):=hs
  have hbs:R'.bs=R.bs:=hbs
  have hb':=z5u hs
  obtain ⟨y,-,hs⟩:=z21 hs
  have hl:=hs.slen y (xs:=R'.bs) (enc:=zi)
  have hcap:y.len<=y.cap:=(hs.pick [1]).slc_cap
  refine za hs ?_
  refine wp_lt ?_
  have hend':∀ {w':World} {e:Int} {y:Sl},e≠0->Sat w' (pt p (.cells #[.slice y.a y.len y.cap,.int .i64 R'.at_,.int .i64 e] T.a61)::slc T.a59 1 y (R'.bs.flatMap zi)::r) ->
    (z1e most (stR R)).2=none->(z1e most (stR R)).1=⟨#[]⟩ ->
    (Prog.ex [.adr] (c1 λa27=>some ((⟨p,0,none⟩:Addr))=some a27) (u1 λa28=>.actU (st T.a12 (Addr.add (Addr.add a28 0) 1) (.int .i64 (R.at_:Int))) <| .done 0 [.string (ByteArray.mk #[])])).wp P (λ_=>True) w' λe vs w'=>e=0/\vs=[.string (z1e most (stR R)).1]/\Sat w' (rdS T.a61 p (z1e most (stR R)).2::r):=by
   intro w' e y he hs h1 h2
   refine zj ?_
   refine z07 hs λw' hs=>?_
   rw [h1,h2]
   refine ⟨rfl,rfl,z24 (R:=⟨R'.bs,R.at_,e⟩) (z6a he) (z13 ⟨R'.bs,R.at_,e⟩ ⟨by rw [hbs];exact hb.1,hb'.2⟩ hs)⟩
  refine z4q ?_
  refine ze (λhe=>?_) λhe=>?_
  ·have he:R'.e≠0:=by simpa using he
   refine z3q ?_
   have h1:(z0k (stR R)).2=none:=by rw [<- hst.2];exact z6a he
   refine hend' he hs (by unfold z1e;rw [h1]) (by unfold z1e;rw [h1])
  ·have he:R'.e=0:=by simpa using he
   have h1:(z0k (stR R)).2=some (z4c R'):=by rw [<- hst.2];exact z74 he
   have hv:=z6u h1
   have h0:(z0k (stR R)).1=v:=hst.1.symm
   have hlen:(z4c R').length=R'.bs.length-R'.at_:=zko
   have ew:IntKind.wrap .u64 (if 0>((most:Nat):Int) then 0 else ((most:Nat):Int))=((most:Nat):Int):=by
    rw [if_neg (by omega),zlg (by omega) (by omega)]
   rw [ew]
   refine wp_lt ?_
   refine z4q ?_
   refine ze (λh3=>?_) λh3=>?_
   ·refine zj ?_
    have hs:=z13 R' hb' hs
    refine z8 (z6s (p:=p) 7 hs) λ_ _ hs=>?_
    obtain ⟨rfl,hs⟩:=hs
    refine zb ?_
    refine z3q ?_
    refine z3q ?_
    obtain ⟨y2,-,hs⟩:=z21 hs
    refine hend' (e:=(R'.fail 7).e) ?_ hs ?_ ?_
    ·show (if R'.e=0 then (7:Int) else R'.e)≠0
     rw [if_pos he];decide
    ·unfold z1e;rw [h1];simp only;rw [h0,if_neg (by omega)]
    ·unfold z1e;rw [h1];simp only;rw [h0,if_neg (by omega)]
   ·refine zj ?_
    have hs:=z13 R' hb' hs
    refine z8 (zc9 (p:=p) hs) λ_ _ hs=>?_
    obtain ⟨rfl,hs⟩:=hs
    refine zb ?_
    have eu:IntKind.wrap .u64 ((R'.bs.length-R'.at_:Nat):Int)=((R'.bs.length-R'.at_:Nat):Int):=zlg (by omega) (by omega)
    rw [eu]
    refine wp_lt ?_
    refine ze (λh4=>?_) λh4=>?_
    ·refine zj ?_
     refine z8 (z6s (p:=p) 6 hs) λ_ _ hs=>?_
     obtain ⟨rfl,hs⟩:=hs
     refine zb ?_
     refine z3q ?_
     refine z3q ?_
     obtain ⟨y2,-,hs⟩:=z21 hs
     refine hend' (e:=(R'.fail 6).e) ?_ hs ?_ ?_
     ·show (if R'.e=0 then (6:Int) else R'.e)≠0
      rw [if_pos he];decide
     ·unfold z1e;rw [h1];simp only;rw [h0,if_neg (by omega)]
     ·unfold z1e;rw [h1];simp only;rw [h0,if_neg (by omega)]
    ·refine zj ?_
     rw [w64 (by omega) (by omega)]
     obtain ⟨y2,-,hs⟩:=z21 hs
     have hcap2:y2.len<=y2.cap:=(hs.pick [1]).slc_cap
     refine z8 (zgs (p:=p) v (x:=y2) (bs:=R'.bs) (at_:=R'.at_) (e:=R'.e) (by omega) hb'.2 hcap2 hs) λ_ w' hs=>?_
     obtain ⟨rfl,hs⟩:=hs
     refine zb ?_
     refine zw0 (hf:=zdy hcap2 (by omega)) (bs:=(R'.bs.drop R'.at_).take v) hs ?_
     refine wp_lt ?_
     have e1:z1e most (stR R)=(⟨((z4c R').take v).toArray⟩,some ((z4c R').drop v)):=by
      unfold z1e;rw [h1];simp only;rw [h0,if_pos ⟨by omega,by omega⟩]
     rw [e1]
     refine zh (zh ⟨rfl,rfl,z24 (R:=⟨R'.bs,R'.at_+v,R'.e⟩) ?_ (z13 ⟨R'.bs,R'.at_+v,R'.e⟩ ⟨by show R'.at_+v<=R'.bs.length;omega,hb'.2⟩ hs)⟩)
     rw [z74 (R:=⟨R'.bs,R'.at_+v,R'.e⟩) he]
     unfold z4c
     rw [List.drop_drop]
end
section
variable {w:World} {l r:List HP} {p:Nat} {s:Lf}
theorem z97 (most:Int) (hm:0<=most/\most<9223372036854775807) [hf:Fo l (rdS T.a61) p s r] (hs:Sat w l):Ret P F.a100 #[.pointer (some ⟨p,0,none⟩),.int .i64 most] w λvs w'=>vs=[.int .i64 (z01 most s).1]/\Sat w' (rdS T.a61 p (z01 most s).2::r) :=
 zm4 _ most <| by
  delta zz2 AF AY AZ Aa Ac Ah Ai Am;unfold z01
  refine z8 (zh0 (p:=p) hs) λ_ _ hs=>?_
  obtain ⟨rfl,hs⟩:=hs
  refine zb ?_
  refine wp_lt ?_
  have e:IntKind.wrap .u64 most=most:=by rw [z7n];omega
  rw [e]
  refine ze (λh=>?_) λh=>?_
  ·refine z1z (y:=most+1) ?_ (by rw [w64 (by omega) (by omega)])
   rw [if_pos h]
   exact ⟨rfl,rfl,hs⟩
  ·refine z1z (y:=((z0k s).1:Int)) ?_ (by rw [w64 (by omega) (by omega)])
   rw [if_neg h]
   exact ⟨rfl,rfl,hs⟩
theorem zoc (a b:ByteArray) (ha:a.size<=1000000000) (hs:Sat w l):Ret P F.a93 #[.string a,.string b] w λvs w'=>vs=[.int .i64 (z0l (bl a) (bl b):Nat)]/\Sat w' l :=
 ztt a b <| by
  delta z06g AA AF AL AN Aa Ac Ai Am Ay
  refine z1z (y:=((min a.size b.size:Nat):Int)) ?_ (by split <;> omega)
  refine zf (λ_ w'=>(bl a).take (min a.size b.size)=(bl b).take (min a.size b.size)/\Sat w' l) ?_ ?_
  rotate_left
  ·rintro _ w' ⟨ht,hs⟩
   refine zm ?_
   refine wp_lt ?_
   refine ⟨rfl,?_,hs⟩
   rw [zbo (i:=min a.size b.size) (by rw [z1c];omega) (by rw [z1c];omega) ht (by rw [z1c,z1c];omega)]
  refine z02 (λk v w=>∃ i:Nat,v=((i:Int),())/\i<=min a.size b.size/\min a.size b.size-i=k/\(bl a).take i=(bl b).take i/\Sat w l) (min a.size b.size) ⟨0,rfl,by omega,rfl,rfl,hs⟩ ?_
  clear hs
  rintro k _ w ⟨i,rfl,hi,hk,ht,hs⟩
  refine zm ?_
  refine ze (λhc=>?_) λhc=>?_
  rotate_left
  ·refine zh (zg ⟨?_,hs⟩)
   have:i=min a.size b.size:=by omega
   rwa [this] at ht
  have h1:i<(bl a).length:=by rw [z1c];omega
  have h2:i<(bl b).length:=by rw [z1c];omega
  refine wp_lt ?_
  refine zy hs λw' hs=>?_
  refine wp_must (by omega) ?_
  refine wp_must (by omega) ?_
  refine zd ?_
  have hb:∀ (c:ByteArray) (h:i<(bl c).length),bt c (i:Int)=(((bl c)[i]).toNat:Int):=λc h=>by
   unfold bt
   rw [Int.toNat_natCast,List.getD_eq_getElem?_getD,List.getElem?_eq_getElem h];rfl
  rw [hb a h1,hb b h2]
  refine ze (λhd=>?_) λhd=>?_
  ·refine wp_lt ?_
   refine zh (zh ⟨rfl,?_,hs⟩)
   have hne:(bl a)[i]≠(bl b)[i]:=λe=>by rw [e] at hd;simp at hd
   rw [zbo (i:=i) (by omega) (by omega) ht (.inr (.inr (by rw [List.getElem?_eq_getElem h1,List.getElem?_eq_getElem h2];simpa using hne)))]
  ·have he:(bl a)[i]=(bl b)[i]:=by
    apply UInt8.toNat_inj.1
    have:(((bl a)[i]).toNat:Int)=(((bl b)[i]).toNat:Int):=by simpa using hd
    omega
   refine z3f (us':=[.int .i64 ((i+1:Nat):Int)]) (by (try simp (disch:=omega) only [w64]);first|rfl|(congr;omega)) ?_
   refine z0z (min a.size b.size-(i+1)) ?_
   exact ⟨i+1,rfl,by omega,rfl,by rw [List.take_succ_eq_append_getElem h1,List.take_succ_eq_append_getElem h2,ht,he],hs⟩
end
theorem zrl {lo hi:Int} (h:lo<=0/\0<=hi) (s:Lf):lo<=(z1f lo hi s).1/\(z1f lo hi s).1<=hi:=by
 unfold z1f
 split
 ·exact h
 ·split
  ·exact h
  ·simp only;omega
theorem zek {most:Int} (h:0<=most) (s:Lf):0<=(z01 most s).1/\(z01 most s).1<=most+1:=by
 unfold z01
 simp only
 split <;> omega
theorem zy2 (most:Nat) (s:Lf):(z1e most s).1.size<=most:=by
 unfold z1e
 split
 ·show 0<=most;omega
 ·split
  ·rename_i h
   show (List.take _ _).length<=most
   rw [List.length_take];omega
  ·show 0<=most;omega
section
variable {w:World} {l r:List HP} {p:Nat} {s:Lf}
theorem z025 (time:Int) (ht:0<=time/\time<=1099511627776) (ahead:ByteArray) (ha:ahead.size<=100000) [hf:Fo l (rdS T.a61) p s r] (hs:Sat w l) :
  Ret P F.a98 #[.pointer (some ⟨p,0,none⟩),.int .i64 time,.string ahead] w λvs w'=>∃ x:RecM,vs=[.agg (z00 x).toArray,.bool (z34 time ahead s).1.isSome]/\(∀ y,(z34 time ahead s).1=some y->x=y)/\x.key.size<=2100/\Sat w' (rdS T.a61 p (z34 time ahead s).2::r) :=
 zm2 _ _ _ <| by
  delta zz0 AF AL AN AU AV Aa Ac Ad Ae Ah Ai Aj Ak Al Am Aw Ax Ay B7 BI BJ Bd
  refine zt hs λa0 w' hs=>?_
  have hbd:=zrl (lo := -1099511627776) (hi:=1099511627776) (by decide) s
  refine z8 (zvw (p:=p) (-1099511627776) 1099511627776 hs) λ_ _ hs=>?_
  obtain ⟨rfl,hs⟩:=hs
  refine zb ?_
  refine wp_lt ?_
  refine z8 (z019 (p:=p) hs) λ_ _ hs=>?_
  obtain ⟨rfl,hs⟩:=hs
  refine zb ?_
  refine zt hs λa4 w' hs=>?_
  rw [w64 (by omega) (by omega)]
  refine zu hs λw' hs=>?_
  refine z8 (z97 (p:=p) 1024 (by omega) hs) λ_ _ hs=>?_
  obtain ⟨rfl,hs⟩:=hs
  refine zb ?_
  refine wp_lt ?_
  refine z8 (zpp (p:=p) 1024 (by omega) hs) λ_ _ hs=>?_
  obtain ⟨rfl,hs⟩:=hs
  refine zb ?_
  refine wp_lt ?_
  have hR:z34 time ahead s=if (z01 1024 (z41 (z1f (-1099511627776) 1099511627776 s).2).2).1>ahead.size then (none,(z1e 1024 (z01 1024 (z41 (z1f (-1099511627776) 1099511627776 s).2).2).2).2) else
   let a:=z1f (-1099511627776) 1099511627776 s
   let b:=z41 a.2
   let c:=z01 1024 b.2
   let d:=z1e 1024 c.2
   let e:=if b.1 then (⟨#[]⟩,d.2) else z1e 1024 d.2
   if e.2.isSome=true/\(z0l (bl ahead) (bl (z4m ahead c.1 d.1)):Int)=c.1 then (some ⟨z4m ahead c.1 d.1,e.1,b.1,time+a.1⟩,e.2) else (none,e.2):=rfl
  simp only at hR
  have hcb:=zek (most:=1024) (by decide) (z41 (z1f (-1099511627776) 1099511627776 s).2).2
  have hdb:=zy2 1024 (z01 1024 (z41 (z1f (-1099511627776) 1099511627776 s).2).2).2
  generalize z34 time ahead s=RR at *
  generalize z1f (-1099511627776) 1099511627776 s=a at *
  generalize z41 a.2=b at *
  generalize z01 1024 b.2=c at *
  generalize z1e 1024 c.2=d at *
  refine ze (λh=>?_) λh=>?_
  ·rw [if_pos h] at hR
   subst hR
   refine zk hs ?_
   refine zu hs λw' hs=>?_
   refine zk hs ?_
   exact ⟨rfl,⟨⟨#[]⟩,⟨#[]⟩,b.1,time+a.1⟩,rfl,(λy hy=>by cases hy),by show 0<=2100;omega,hs.sub⟩
  rw [if_neg h] at hR
  refine wp_must (by omega) ?_
  have hks:(ByteArray.extract ahead 0 (Int.toNat c.1)).size<=1025:=by
   rw [ByteArray.size_extract];omega
  refine wp_must (by omega) ?_
  refine z07 hs λw' hs=>?_
  have ek:ByteArray.extract ahead 0 (Int.toNat c.1)++d.1=z4m ahead c.1 d.1:=rfl
  rw [ek] at hs
  refine za hs ?_
  have hkey:(z4m ahead c.1 d.1).size<=2100:=by
   unfold z4m
   rw [ByteArray.size_append]
   omega
  refine zf (λ_ w'=>Sat w' (pt a4 (.cells #[.string (z4m ahead c.1 d.1),.string (if b.1=true then ((⟨#[]⟩:ByteArray),d.2) else z1e 1024 d.2).1,.bool b.1,.int .i64 (time+a.1)] T.a2)::rdS T.a61 p (if b.1=true then ((⟨#[]⟩:ByteArray),d.2) else z1e 1024 d.2).2::pt a0 (.cells #[.string ⟨#[]⟩,.string ⟨#[]⟩,.bool false,.int .i64 0] T.a2)::r)) ?_ ?_
  ·refine ze (λh2=>?_) λh2=>?_
   ·have h2:b.1=false:=by simpa using h2
    refine z8 (zpp (p:=p) 1024 (by omega) hs) λ_ _ hs=>?_
    obtain ⟨rfl,hs⟩:=hs
    refine zb ?_
    refine z07 hs λw' hs=>?_
    refine zg ?_
    rw [if_neg (by rw [h2];simp)]
    exact hs.sub
   ·have h2:b.1=true:=by simpa using h2
    refine zg ?_
    rw [if_pos h2]
    dsimp only
    exact hs.sub
  rintro _ w1 hs
  generalize (if b.1=true then ((⟨#[]⟩:ByteArray),d.2) else z1e 1024 d.2)=e at *
  refine zf (λq w'=>q=(RR.1.isSome,())/\Sat w' (pt a0 (.cells #[.string (z4m ahead c.1 d.1),.string e.1,.bool b.1,.int .i64 (time+a.1)] T.a2)::rdS T.a61 p e.2::r)) ?_ ?_
  ·refine zy hs λw' hs=>?_
   refine zg0 hs ?_
   refine z8 (zua (p:=p) hs) λ_ _ hs=>?_
   obtain ⟨er,rfl,her,hs⟩:=hs
   refine zb ?_ (by first|trivial|(repeat (first|exact trivial|exact λ_=>z08 hs|exact λ_=>z0i hs|refine And.intro ?_ ?_)))
   refine za hs ?_
   refine ze (λh2=>?_) λh2=>?_
   ·have h2:e.2.isSome=true:=her.1 (by simpa using h2)
    refine z8 (zoc ahead (z4m ahead c.1 d.1) (by omega) hs) λ_ _ hs=>?_
    obtain ⟨rfl,hs⟩:=hs
    refine zb ?_ (by first|trivial|(repeat (first|exact trivial|exact λ_=>z08 hs|exact λ_=>z0i hs|refine And.intro ?_ ?_)))
    refine zd ?_
    refine zu hs λw' hs=>?_
    refine wp_lt ?_
    refine zd ?_
    refine zg ⟨?_,hs.sub⟩
    have e3:(((z0l (bl ahead) (bl (z4m ahead c.1 d.1)):Nat):Int) == c.1)=RR.1.isSome:=by
     rw [hR]
     by_cases h3:((z0l (bl ahead) (bl (z4m ahead c.1 d.1)):Nat):Int)=c.1
     ·rw [if_pos ⟨h2,h3⟩];simpa using h3
     ·rw [if_neg λh=>h3 h.2];simpa using h3
    rw [e3]
   ·have h2:¬ e.2.isSome=true:=λh=>h2 (by simpa using her.2 h)
    refine zd ?_
    refine zu hs λw' hs=>?_
    refine zd ?_
    refine zg ⟨?_,hs.sub⟩
    rw [hR,if_neg λh=>h2 h.1]
    rfl
  rintro _ w1 ⟨rfl,hs⟩
  refine zk hs ?_
  refine ⟨rfl,⟨z4m ahead c.1 d.1,e.1,b.1,time+a.1⟩,rfl,λy hy=>?_,hkey,?_⟩
  ·rw [hR] at hy
   split at hy
   ·simpa using hy
   ·cases hy
  ·have e4:RR.2=e.2:=by rw [hR];split <;> rfl
   rw [e4]
   exact hs.sub
end
def zrt:BatM:=⟨0,0,0,0,0,0,z7f,[]⟩
abbrev zeroC:Array Value:=#[.int .i64 0,.int .i64 0,.int .i64 0,.int .i64 0,.int .i64 0,.int .i64 0,.slice none 0 0]
theorem zvy {P:Program} {p:Prog} {S:World->Prop} {w:World} {Q0 Q:Post} (h:p.wp P S w Q0) (h0:∀ e vs w,Q0 e vs w->e=0) (hQ:∀ vs w,Q0 0 vs w->Q 0 vs w):p.wp P S w Q :=
 Prog.wp_mono p (λe vs w h=>by have:=h0 e vs w h;subst this;exact hQ vs w h) h
theorem zrd (time:Int) (n:Nat) (ahead:ByteArray) (s:Lf):z49 time (n+1) ahead s=match (z34 time ahead s).1 with
  | none=>none
  | some x=>(z49 time n x.key (z34 time ahead s).2).map λq=>(x::q.1,q.2):=rfl
def BatM.at (b:BatM) (z:Sl):BatM:={ b with x:=z }
section
variable {w:World} {l r:List HP} {p:Nat} {s:Lf}
theorem zjm (x:Sl) (raw:List UInt8) [hx:FocR l x 1 (raw.flatMap zi)] (hn:raw.length<=1000000000) (hs:Sat w l) :
  Ret P F.a85 #[x.v] w λvs w'=>(∃ b z,z5i raw=some b/\vs=[.agg (zo (b.at z)).toArray,.int .i64 0]/\Sat w' (slc T.a2 4 z (b.rs.flatMap z00)::l)) \/
   (z5i raw=none/\vs=[.agg (zo zrt).toArray,.int .i64 6]/\Sat w' l) :=
 ztl _ <| by
  delta z068 AD AE AF AP AR AT AU AV Aa Ac Ad Ae Ah Ai Aj Ak Al Am An Aq Ar Ax Ay BI BJ Bp
  refine zt hs λa0 w' hs=>?_
  refine zt hs λa1 w' hs=>?_
  refine zu hs λw' hs=>?_
  refine z8 (zuz x raw hn hs) λ_ w' hs=>?_
  obtain ⟨p,rfl,hs⟩:=hs
  refine zb ?_
  refine z8 (zgb (p:=p) hs) λ_ _ hs=>?_
  obtain ⟨rfl,hs⟩:=hs
  refine zb ?_
  have hfail:∀ {w':World},Sat w' (pt a1 (.cells zeroC T.a0)::pt a0 (.cells zeroC T.a0)::l)->z5i raw=none ->
    (Prog.read True (ld T.a0 ⟨a1,0,none⟩) (sG [.int .i64,.int .i64,.int .i64,.int .i64,.int .i64,.int .i64,.slc]) (u7 λn4 n5 n6 n7 n8 n9 l10 =>
     .actU (st T.a0 ⟨a0,0,none⟩ (.agg #[.int .i64 n4,.int .i64 n5,.int .i64 n6,.int .i64 n7,.int .i64 n8,.int .i64 n9,l10.v])) <|
     .read True (ld T.a0 ⟨a0,0,none⟩) (sG [.int .i64,.int .i64,.int .i64,.int .i64,.int .i64,.int .i64,.slc]) (u7 λn11 n12 n13 n14 n15 n16 l17 =>
     .done 0 [.agg #[.int .i64 n11,.int .i64 n12,.int .i64 n13,.int .i64 n14,.int .i64 n15,.int .i64 n16,l17.v],.int .i64 6]))).wp P (λ_=>True) w' λe vs w=>e=0/\((∃ b z,z5i raw=some b/\vs=[.agg (zo (b.at z)).toArray,.int .i64 0]/\Sat w (slc T.a2 4 z (b.rs.flatMap z00)::l)) \/
      (z5i raw=none/\vs=[.agg (zo zrt).toArray,.int .i64 6]/\Sat w l)):=by
   intro w' hs hd
   have hs:Sat w' (pt a1 (.cells [.int .i64 0,.int .i64 0,.int .i64 0,.int .i64 0,.int .i64 0,.int .i64 0,.slice none 0 0].toArray T.a0)::pt a0 (.cells [.int .i64 0,.int .i64 0,.int .i64 0,.int .i64 0,.int .i64 0,.int .i64 0,.slice none 0 0].toArray T.a0)::l):=hs
   refine zk hs ?_
   refine zu hs λw' hs=>?_
   refine zk hs ?_
   exact ⟨rfl,.inr ⟨hd,rfl,hs.sub⟩⟩
  replace hs:Sat _ (rdS T.a61 p (z0t (some raw)).2::pt a1 (.cells zeroC T.a0)::pt a0 (.cells zeroC T.a0)::l):=hs.sub
  refine ze (λh=>?_) λh=>?_
  ·refine hfail hs.sub ?_
   unfold z5i
   rw [if_pos (by omega)]
  have hdec:z5i raw=zjh (hdS (z0t (some raw)).2):=by
   unfold z5i
   rw [if_neg (by omega)]
  generalize z5i raw=DD at *
  generalize (z0t (some raw)).2=s at *
  have hH:hdS s=⟨z0t s,z01 1099511627776 (z0t s).2,z01 1048576 (z01 1099511627776 (z0t s).2).2,
   if (z01 1048576 (z01 1099511627776 (z0t s).2).2).1>0 then z01 32767 (z01 1048576 (z01 1099511627776 (z0t s).2).2).2 else (0,(z01 1048576 (z01 1099511627776 (z0t s).2).2).2),
   if (z01 1048576 (z01 1099511627776 (z0t s).2).2).1>0/\z2w (z0t s).1=false then z01 2147483647 (if (z01 1048576 (z01 1099511627776 (z0t s).2).2).1>0 then z01 32767 (z01 1048576 (z01 1099511627776 (z0t s).2).2).2 else (0,(z01 1048576 (z01 1099511627776 (z0t s).2).2).2)).2 else (0,(if (z01 1048576 (z01 1099511627776 (z0t s).2).2).1>0 then z01 32767 (z01 1048576 (z01 1099511627776 (z0t s).2).2).2 else (0,(z01 1048576 (z01 1099511627776 (z0t s).2).2).2)).2),
   z01 1099511627776 (if (z01 1048576 (z01 1099511627776 (z0t s).2).2).1>0/\z2w (z0t s).1=false then z01 2147483647 (if (z01 1048576 (z01 1099511627776 (z0t s).2).2).1>0 then z01 32767 (z01 1048576 (z01 1099511627776 (z0t s).2).2).2 else (0,(z01 1048576 (z01 1099511627776 (z0t s).2).2).2)).2 else (0,(if (z01 1048576 (z01 1099511627776 (z0t s).2).2).1>0 then z01 32767 (z01 1048576 (z01 1099511627776 (z0t s).2).2).2 else (0,(z01 1048576 (z01 1099511627776 (z0t s).2).2).2)).2)).2⟩:=rfl
  refine z8 (zgb (p:=p) hs) λ_ _ hs=>?_
  obtain ⟨rfl,hs⟩:=hs
  refine zb ?_
  generalize z0t s=k at *
  refine z8 (z97 (p:=p) 1099511627776 (by omega) hs) λ_ _ hs=>?_
  obtain ⟨rfl,hs⟩:=hs
  refine zb ?_
  generalize z01 1099511627776 k.2=ba at *
  refine z8 (z97 (p:=p) 1048576 (by omega) hs) λ_ _ hs=>?_
  obtain ⟨rfl,hs⟩:=hs
  refine zb ?_
  generalize z01 1048576 ba.2=pi at *
  refine zt hs λa2 w' hs=>?_
  refine zu hs λw' hs=>?_
  refine za hs ?_
  generalize hep:(if pi.1>0 then z01 32767 pi.2 else (0,pi.2))=ep at *
  generalize hsq:(if pi.1>0/\z2w k.1=false then z01 2147483647 ep.2 else (0,ep.2))=sq at *
  refine zf (λ_ w'=>Sat w' (pt a2 (.cells [.int .i64 ba.1,.int .i64 pi.1,.int .i64 ep.1,.int .i64 sq.1,.int .i64 k.1,.int .i64 0,.slice none 0 0].toArray T.a0)::rdS T.a61 p sq.2::pt a1 (.cells zeroC T.a0)::pt a0 (.cells zeroC T.a0)::l)) ?_ ?_
  ·refine ze (λh=>?_) λh=>?_
   ·rw [if_pos h] at hep
    refine z8 (z97 (p:=p) 32767 (by omega) hs) λ_ _ hs=>?_
    obtain ⟨rfl,hs⟩:=hs
    refine zb ?_
    rw [hep] at hs ⊢
    refine z07 hs λw' hs=>?_
    refine zk hs ?_
    refine z8 (z66 ⟨ba.1,pi.1,ep.1,0,k.1,0,z7f,[]⟩ hs) λ_ w' hs=>?_
    obtain ⟨rfl,hs⟩:=hs
    refine zb ?_
    have em:z0g ⟨ba.1,pi.1,ep.1,0,k.1,0,z7f,[]⟩=z2w k.1:=rfl
    rw [em]
    refine z4q ?_
    refine ze (λh2=>?_) λh2=>?_
    ·have h2:z2w k.1=false:=by simpa using h2
     rw [if_pos ⟨h,h2⟩] at hsq
     refine z8 (z97 (p:=p) 2147483647 (by omega) hs) λ_ _ hs=>?_
     obtain ⟨rfl,hs⟩:=hs
     refine zb ?_
     rw [hsq] at hs ⊢
     refine z07 hs λw' hs=>?_
     refine z3q ?_
     refine zg ?_
     exact hs.sub
    ·have h2:z2w k.1≠false:=by simpa using h2
     rw [if_neg λh=>h2 h.2] at hsq
     refine z3q ?_
     refine zg ?_
     rw [<- hsq]
     exact hs.sub
   ·rw [if_neg h] at hep
    rw [if_neg λh2=>h h2.1] at hsq
    refine zg ?_
    rw [<- hsq,<- hep]
    exact hs.sub
  rintro _ w1 hs
  refine z8 (z97 (p:=p) 1099511627776 (by omega) hs) λ_ _ hs=>?_
  obtain ⟨rfl,hs⟩:=hs
  refine zb ?_
  have htb:=zek (most:=1099511627776) (by decide) sq.2
  generalize z01 1099511627776 sq.2=tm at *
  refine z07 hs λw' hs=>?_
  refine z8 (zua (p:=p) hs) λ_ _ hs=>?_
  obtain ⟨er,rfl,her,hs⟩:=hs
  refine zb ?_
  refine za hs ?_
  rw [hH] at hdec
  generalize hHH:(⟨k,ba,pi,ep,sq,tm⟩:HdS)=H at *
  have e1:H.tm=tm:=by rw [<- hHH]
  have e2:H.k=k:=by rw [<- hHH]
  unfold zjh at hdec
  rw [e1,e2] at hdec
  refine ze (λh=>?_) λh=>?_
  ·refine hfail hs.sub ?_
   rw [hdec,if_pos]
   rcases h with h|h
   ·left
    cases hi:tm.2.isSome with
    | false=>rfl
    | true=>exact absurd (her.2 hi) h
   ·right;omega
  have htm:tm.1<=1099511627776:=by
   apply Decidable.byContradiction
   intro hh
   exact h (.inr (by omega))
  have her0:tm.2.isSome=true:=her.1 (Decidable.byContradiction λhh=>h (.inl hh))
  rw [if_neg (by rw [her0];rintro (h|h);cases h;omega)] at hdec
  refine zk hs ?_
  refine z8 (z66 ⟨ba.1,pi.1,ep.1,sq.1,k.1,tm.1,z7f,[]⟩ hs) λ_ w' hs=>?_
  obtain ⟨rfl,hs⟩:=hs
  refine zb ?_
  have em:z0g ⟨ba.1,pi.1,ep.1,sq.1,k.1,tm.1,z7f,[]⟩=z2w k.1:=rfl
  rw [em]
  refine zf (λ_ w'=>∃ (rs:List RecM) (z:Sl) (s1:Lf),DD=(if s1=some []/\z05 (H.b rs)=0 then some (H.b rs) else none)/\Sat w' (slc T.a2 4 z (rs.flatMap z00)::pt a2 (.cells [.int .i64 ba.1,.int .i64 pi.1,.int .i64 ep.1,.int .i64 sq.1,.int .i64 k.1,.int .i64 tm.1,.slice z.a z.len z.cap].toArray T.a0)::rdS T.a61 p s1::pt a1 (.cells zeroC T.a0)::pt a0 (.cells zeroC T.a0)::l)) ?_ ?_
  ·refine ze (λh2=>?_) λh2=>?_
   rotate_left
   ·have h2:z2w k.1=true:=by simpa using h2
    rw [if_pos h2] at hdec
    refine zg ⟨[],⟨none,0,0⟩,tm.2,hdec,?_⟩
    have hs:Sat _ (slc T.a2 4 ⟨none,0,0⟩ (([]:List RecM).flatMap z00)::_):=hs.slc_nil
    exact hs.sub
   have h2:z2w k.1=false:=by simpa using h2
   rw [if_neg (by rw [h2];simp)] at hdec
   refine z8 (z97 (p:=p) 64 (by omega) hs) λ_ _ hs=>?_
   obtain ⟨rfl,hs⟩:=hs
   refine zb ?_
   have hnb:=zek (most:=64) (by decide) tm.2
   generalize z01 64 tm.2=n at *
   refine wp_lt ?_
   refine ze (λh3=>?_) λh3=>?_
   ·rw [if_pos h3] at hdec
    have hf:=hfail hs.sub hdec
    exact zvy hf (λ_ _ _ h=>h.1) λvs w h=>z7o (by decide) h
   rw [if_neg h3] at hdec
   refine zf (λ_ w'=>∃ (rs:List RecM) (z:Sl) (s1:Lf),z49 tm.1 n.1.toNat ⟨#[]⟩ n.2=some (rs,s1)/\Sat w' (slc T.a2 4 z (rs.flatMap z00)::pt a2 (.cells [.int .i64 ba.1,.int .i64 pi.1,.int .i64 ep.1,.int .i64 sq.1,.int .i64 k.1,.int .i64 tm.1,.slice z.a z.len z.cap].toArray T.a0)::rdS T.a61 p s1::pt a1 (.cells zeroC T.a0)::pt a0 (.cells zeroC T.a0)::l)) ?_ ?_
   rotate_left
   ·rintro _ w1 ⟨rs,z,s1,hrs,hs⟩
    rw [hrs] at hdec
    exact zg ⟨rs,z,s1,hdec,hs⟩
   refine z02 (λm v w=>∃ (i:Nat) (done:List RecM) (ahead:ByteArray) (z:Sl) (s1:Lf),v=(ahead,((i:Int),()))/\i<=n.1.toNat/\n.1.toNat-i=m/\done.length=i/\ahead.size<=2100 /\
    z49 tm.1 n.1.toNat ⟨#[]⟩ n.2=(z49 tm.1 (n.1.toNat-i) ahead s1).map (λq=>(done++q.1,q.2))/\Sat w (slc T.a2 4 z (done.flatMap z00)::pt a2 (.cells [.int .i64 ba.1,.int .i64 pi.1,.int .i64 ep.1,.int .i64 sq.1,.int .i64 k.1,.int .i64 tm.1,.slice z.a z.len z.cap].toArray T.a0)::rdS T.a61 p s1::pt a1 (.cells zeroC T.a0)::pt a0 (.cells zeroC T.a0)::l)) n.1.toNat
    ⟨0,[],⟨#[]⟩,⟨none,0,0⟩,n.2,rfl,by omega,rfl,rfl,(by show 0<=2100;omega),?_,(show Sat _ (slc T.a2 4 ⟨none,0,0⟩ (([]:List RecM).flatMap z00)::_) from hs.slc_nil).sub⟩ ?_
   ·cases z49 tm.1 n.1.toNat ⟨#[]⟩ n.2 <;> simp
   clear hs
   rintro m _ w ⟨i,done,ahead,z,s1,rfl,hi,hm,hdl,hah,hrec,hs⟩
   refine ze (λhc=>?_) λhc=>?_
   rotate_left
   ·refine zh (zg ⟨done,z,s1,?_,hs⟩)
    have hc:¬ ((i:Int)<n.1):=hc
    rw [hrec,show n.1.toNat-i=0 by omega]
    simp [z49]
   have hc:(i:Int)<n.1:=hc
   refine za hs ?_
   refine z8 (z025 (p:=p) tm.1 ⟨htb.1,htm⟩ ahead (by omega) hs) λ_ w' hs=>?_
   obtain ⟨y,rfl,hy,hyk,hs⟩:=hs
   refine ⟨(y.key,y.value,y.gone,y.time,(z34 tm.1 ahead s1).1.isSome,()),rfl,trivial,z8i _ _ _ _ _ ?_⟩
   refine zt hs λa3 w' hs=>?_
   refine zu hs λw' hs=>?_
   refine wp_lt ?_
   have hsucc:n.1.toNat-i=(n.1.toNat-(i+1))+1:=by omega
   rw [hsucc] at hrec
   rw [zrd] at hrec
   refine ze (λh4=>?_) λh4=>?_
   ·have h4:(z34 tm.1 ahead s1).1=none:=by simpa using h4
    rw [h4] at hrec
    have hrec:z49 tm.1 n.1.toNat ⟨#[]⟩ n.2=none:=hrec
    rw [hrec] at hdec
    have hf:=hfail hs.sub hdec
    exact zvy hf (λ_ _ _ h=>h.1) λvs w h=>z7o (by decide) (z7o (by decide) (z7o (by decide) h))
   have h4:(z34 tm.1 ahead s1).1.isSome=true:=by
    cases hq:(z34 tm.1 ahead s1).1 with
    | none=>rw [hq] at h4;exact absurd (by simp) h4
    | some q=>rfl
   obtain ⟨y',hy'⟩:=Option.isSome_iff_exists.1 h4
   obtain rfl:=hy y' hy'
   rw [hy'] at hrec
   refine za hs ?_
   refine zk hs ?_
   refine z6b (xs:=done) (enc:=z00) (y:=y) hs (λz' w' hs=>?_) rfl (by omega)
   refine z07 hs λw' hs=>?_
   refine za hs ?_
   refine wp_lt ?_
   have e5:IntKind.wrap .i64 ((i:Int)+1)=((i+1:Nat):Int):=by rw [w64 (by omega) (by omega)];omega
   rw [e5]
   refine z0z (n.1.toNat-(i+1)) ?_
   refine ⟨i+1,done++[y],y.key,z',(z34 tm.1 ahead s1).2,rfl,by omega,rfl,by simp [hdl],hyk,?_,hs.sub⟩
   rw [hrec,Option.map_map]
   congr 1
   funext q
   simp
  rintro _ w1 ⟨rs,z,s1,hDD,hs⟩
  have hb:H.b rs=⟨ba.1,pi.1,ep.1,sq.1,k.1,tm.1,z7f,rs⟩:=by rw [<- hHH];rfl
  have hv0:z05 (H.b rs)=z05 ⟨ba.1,pi.1,ep.1,sq.1,k.1,tm.1,z,rs⟩:=by rw [hb];rfl
  refine zf (λq w'=>q=(DD.isNone,())/\Sat w' (slc T.a2 4 z (rs.flatMap z00)::pt a2 (.cells [.int .i64 ba.1,.int .i64 pi.1,.int .i64 ep.1,.int .i64 sq.1,.int .i64 k.1,.int .i64 tm.1,.slice z.a z.len z.cap].toArray T.a0)::pt a1 (.cells zeroC T.a0)::pt a0 (.cells zeroC T.a0)::l)) ?_ ?_
  ·refine z8 (zu9 (p:=p) hs) λ_ w' hs=>?_
   obtain ⟨e,rfl,he,hs⟩:=hs
   refine zb ?_
   refine zk hs ?_
   refine ze (λh5=>?_) λh5=>?_
   ·refine zg ⟨?_,hs.sub⟩
    rw [hDD,if_neg λhh=>h5 (he.2 hh.1)]
    rfl
   ·have h5:s1=some []:=he.1 (Decidable.not_not.1 h5)
    refine z8 (z8o ⟨ba.1,pi.1,ep.1,sq.1,k.1,tm.1,z,rs⟩ hs) λ_ w' hs=>?_
    obtain ⟨rfl,hs⟩:=hs
    refine zb ?_
    refine zg ⟨?_,hs.sub⟩
    rw [hDD,<- hv0]
    by_cases h6:z05 (H.b rs)=0
    ·rw [if_pos ⟨h5,h6⟩,h6];rfl
    ·rw [if_neg λhh=>h6 hh.2]
     simpa using h6
  rintro _ w1 ⟨rfl,hs⟩
  refine ze (λh6=>?_) λh6=>?_
  ·exact hfail hs.sub (by simpa using h6)
  ·rw [hDD] at h6
   split at h6
   rotate_left
   ·exact absurd rfl h6
   rename_i h7
   rw [if_pos h7] at hDD
   refine zk hs ?_
   have hs:Sat w1 (slc T.a2 4 z (rs.flatMap z00)::pt a2 (.cells [.int .i64 ba.1,.int .i64 pi.1,.int .i64 ep.1,.int .i64 sq.1,.int .i64 k.1,.int .i64 tm.1,.slice z.a z.len z.cap].toArray T.a0)::pt a1 (.cells zeroC T.a0)::pt a0 (.cells [.int .i64 0,.int .i64 0,.int .i64 0,.int .i64 0,.int .i64 0,.int .i64 0,.slice none 0 0].toArray T.a0)::l):=hs
   refine zu hs λw' hs=>?_
   refine zk hs ?_
   refine ⟨rfl,.inl ⟨H.b rs,z,hDD,?_,?_⟩⟩
   ·rw [hb];rfl
   ·rw [hb];exact hs.sub
end
section
variable {w:World} {l r:List HP} {Q:Post} {S:World->Prop}
theorem z7m {P:Program} {t:TypeId} {sz:Nat} {α:Type} {enc:α->List Value} {n:Nat} {ps:Array (Nat × Value)} {el:TypeId} {bytes:Nat} {k:Sl->Prog} (hs:Sat w l) [ht:SlT P t el sz bytes] [hE:EncN enc sz] (xs:List α)
  (h:∀ x w',Sat w' (slc el sz x (xs.flatMap enc)::l)->S w'/\(k x).wp P S w' Q) (hc:z3v P t n ps=some (el,(xs.flatMap enc).toArray):=by kernel_rfl) (hn:xs.length=n:=by rfl) :
  (Prog.act (Instr.buildSlice t n ps) sL (u1 k)).wp P S w Q:=by
 have hp:=hs.push (o:=.cells (xs.flatMap enc).toArray el) (w':={ w with heap:=w.heap.push (.cells (xs.flatMap enc).toArray el) }) rfl
 have hsz:(xs.flatMap enc).toArray.size=n*sz:=by rw [List.size_toArray,z3j,hn]
 have h1:Sat { w with heap:=w.heap.push (.cells (xs.flatMap enc).toArray el) } (slc el sz ⟨some ⟨w.heap.size,0,none⟩,n,n⟩ (xs.flatMap enc)::l):=by
  have:=hp.slc_of (sz:=sz) hsz
  rwa [List.toList_toArray] at this
 have h2:=h ⟨some ⟨w.heap.size,0,none⟩,n,n⟩ _ h1
 exact ⟨(⟨some ⟨w.heap.size,0,none⟩,n,n⟩,()),_,zkq hc,h2.1,h2.2⟩
theorem z02m {P:Program} {α:Type} {enc:α->List Value} {xs ys:List α} {t tx ty el el':TypeId} {sz bytes sz' bytes':Nat} {x y:Sl} {k:Sl->Prog} (hs:Sat w l) [ht:SlT P t el sz bytes] [htx:SlT P tx el' sz' bytes'] [hf:FocS l x el sz (xs.flatMap enc) r] [hy:FocR l y sz (ys.flatMap enc)] [hE:EncN enc sz]
  (h:∀ z w',Sat w' (slc el sz z ((xs++ys).flatMap enc)::r)->S w'/\(k z).wp P S w' Q) (hb:(xs.length+ys.length)*bytes<=140737488355328/\xs.length+ys.length<=9223372036854775807:=by omega) :
  (Prog.act (app t tx ty (.slice x.a x.len x.cap) (.slice y.a y.len y.cap)) sL (u1 k)).wp P S w Q:=by
 have h1:x.len=xs.length:=(hs.focS x).rd.len hE.len hE.pos
 have h2:=hs.slen y (xs:=ys) (enc:=enc)
 refine zrm hs (hy.rd w hs) (λu hu=>?_) (by rw [h1,h2];exact hb.1) (by rw [h1,h2];exact hb.2) λz w' _ hs'=>h z w' ?_
 ·obtain ⟨a,-,hu⟩:=List.mem_flatMap.1 hu
  exact hE.one a u hu
 ·rw [List.flatMap_append];exact hs'
end
abbrev cB (b:BatM):Array Value:=#[.int .i64 b.base,.int .i64 b.pid,.int .i64 b.epoch,.int .i64 b.seq,.int .i64 b.kind,.int .i64 b.time,.slice b.x.a b.x.len b.x.cap]
abbrev cR (r:RecM):Array Value:=#[.string r.key,.string r.value,.bool r.gone,.int .i64 r.time]
theorem zfp (time:Int):∀ (rs:List RecM) (ahead:ByteArray) (r:RecM),z29 time ahead (rs++[r])=z29 time ahead rs++z5v time (match rs.getLast? with|none=>ahead|some x=>x.key) r
 | [],ahead,r=>by simp [z29]
 | a::rs,ahead,r=>by
  show z5v time ahead a++z29 time a.key (rs++[r])=z5v time ahead a++z29 time a.key rs++_
  rw [zfp time rs a.key r,List.append_assoc]
  congr 3
  cases rs with
  | nil=>rfl
  | cons b bs=>rfl
theorem z026 {b:BatM} (hv:z05 b=0) (i:Nat):(z29 b.time ⟨#[]⟩ (b.rs.take i)).length<=133696:=by
 obtain ⟨h64,hrs⟩:=z2z hv
 have h1:=zci (time:=b.time) (n:=2048) (rs:=b.rs.take i) (ahead:=⟨#[]⟩) λr hr=>by
  obtain ⟨h1,h2,-⟩:=z4s (hrs r (List.mem_of_mem_take hr))
  omega
 have h2:(b.rs.take i).length<=64:=by rw [List.length_take];omega
 have:(b.rs.take i).length*(41+2048)<=64*(41+2048):=Nat.mul_le_mul_right _ h2
 omega
def hdL (b:BatM):List UInt8:=1::UInt8.ofNat b.kind.toNat::(uI b.base++uI b.pid)
def z7c (b:BatM):List UInt8:=if b.pid>0 then uI b.epoch++(if z0g b then [] else uI b.seq) else []
theorem zof (b:BatM):z2c b=(hdL b++z7c b++uI b.time)++if z0g b then [] else uI b.rs.length++z29 b.time ⟨#[]⟩ b.rs:=by
 unfold z2c hdL z7c
 simp only [List.cons_append,List.append_assoc]
section
variable {w:World} {l r:List HP}
set_option maxHeartbeats 1000000 in
theorem zwh (b:BatM) [hb:FocR l b.x 4 (b.rs.flatMap z00)] (hs:Sat w l) :
  Ret P F.a86 #[.agg (zo b).toArray] w λvs w'=>(z05 b≠0/\vs=[.slice none 0 0,.int .i64 (z05 b)]/\Sat w' l)\/(z05 b=0/\∃ z:Sl,vs=[z.v,.int .i64 0]/\Sat w' (slc T.a59 1 z ((z2c b).flatMap zi)::l)) :=
 ztm b.base b.pid b.epoch b.seq b.kind b.time b.x <| by
  delta z069 AB AD AE AF AL AN AQ AR AT AU Aa Ac Ad Ae Ai Ak Am Ap Aq Ax Az BH BI Bd Bj Bp
  have hlx:=hs.slen b.x (xs:=b.rs) (enc:=z00)
  refine zn hs λa0 w' hs=>?_
  refine zk hs ?_
  refine z8 (z8o b hs) λ_ w' hs=>?_
  obtain ⟨rfl,hs⟩:=hs
  refine zb ?_
  refine wp_lt ?_
  refine ze (λh=>?_) λh=>?_
  ·refine wp_lt ?_
   exact ⟨rfl,.inl ⟨h,rfl,hs.tail⟩⟩
  have hv:z05 b=0:=Decidable.not_not.1 h
  obtain ⟨-,-,⟨hk,hba,hpi,hep,hsq,htm⟩,hfit,-⟩:=z11 b hv
  obtain ⟨h64,hrs⟩:=z2z hv
  refine zf (λq w'=>∃ z:Sl,q=(z,())/\Sat w' (slc T.a59 1 z ((hdL b).flatMap zi)::pt a0 (.cells (cB b) T.a0)::l)) ?_ ?_
  ·have ek:IntKind.wrap .u8 b.kind=(((UInt8.ofNat b.kind.toNat).toNat:Nat):Int):=by
    rw [wu8 (by omega) (by omega),UInt8.toNat_ofNat'];omega
   have hul1:=z1p b.base
   have hul2:=z1p b.pid
   refine zy hs λw' hs=>?_
   refine z0x hs ?_
   refine z0x hs ?_
   refine z0x hs ?_
   have fin:∀ {w':World} {z1 z2 z3:Sl},Sat w' (slc T.a59 1 z1 (([1,UInt8.ofNat b.kind.toNat]:List UInt8).flatMap zi)::slc T.a59 1 z2 ((uI b.base).flatMap zi)::slc T.a59 1 z3 ((uI b.pid).flatMap zi)::pt a0 (.cells (cB b) T.a0)::l) ->
     (Prog.act (Instr.buildSlice T.a41 3 #[(0,z1.v),(1,z2.v),(2,z3.v)]) sL (u1 λl17=>.call F.a188 [l17.v] sL (u1 λl18=>.untick <| .done 1 [l18.v]))).wp P (λ_=>True) w' (Post.catch (λe vs w'=>e=0/\((z05 b≠0/\vs=[.slice none 0 0,.int .i64 (z05 b)]/\Sat w' l)\/(z05 b=0/\∃ z:Sl,vs=[z.v,.int .i64 0]/\Sat w' (slc T.a59 1 z ((z2c b).flatMap zi)::l)))) 1 λvs w'=>∃ x,vs=z16 [.one .slc] x/\∃ z:Sl,x=(z,())/\Sat w' (slc T.a59 1 z ((hdL b).flatMap zi)::pt a0 (.cells (cB b) T.a0)::l)):=by
    intro w' z1 z2 z3 hs
    refine zai hs (enc:=z0d) [z1,z2,z3] λz4 w' hs=>?_
    refine z8 (zy6 z4 z1 z2 z3 [1,UInt8.ofNat b.kind.toNat] (uI b.base) (uI b.pid) (by simp only [List.length_cons,List.length_nil];omega) hs) λ_ w' hs=>?_
    obtain ⟨z5,rfl,hs⟩:=hs
    refine zb ?_
    refine zd ?_
    refine zg ⟨z5,rfl,?_⟩
    have e:[1,UInt8.ofNat b.kind.toNat]++(uI b.base++uI b.pid)=hdL b:=by unfold hdL;simp
    rw [e] at hs
    exact hs.sub
   rw [ek]
   refine zh2 ?_ ?_
   ·refine z7m hs (enc:=zi) [1,UInt8.ofNat b.kind.toNat] λz1 w' hs=>⟨(by first|trivial|(repeat (first|exact trivial|exact λ_=>z08 hs|exact λ_=>z0i hs|refine And.intro ?_ ?_))),?_⟩
    refine z8 (z4p b.base (by omega) hs) λ_ w' hs=>?_
    obtain ⟨z2,rfl,hs⟩:=hs
    refine zb ?_ (by first|trivial|(repeat (first|exact trivial|exact λ_=>z08 hs|exact λ_=>z0i hs|refine And.intro ?_ ?_)))
    refine z8 (z4p b.pid (by omega) hs) λ_ w' hs=>?_
    obtain ⟨z3,rfl,hs⟩:=hs
    refine zb ?_ (by first|trivial|(repeat (first|exact trivial|exact λ_=>z08 hs|exact λ_=>z0i hs|refine And.intro ?_ ?_)))
    refine zd ?_
    exact fin hs.sub
   ·refine z8 (z4p b.base (by omega) hs) λ_ w' hs=>?_
    obtain ⟨z2,rfl,hs⟩:=hs
    refine zb ?_ (by first|trivial|(repeat (first|exact trivial|exact λ_=>z08 hs|exact λ_=>z0i hs|refine And.intro ?_ ?_)))
    refine zh2 ?_ ?_
    ·refine z7m hs (enc:=zi) [1,UInt8.ofNat b.kind.toNat] λz1 w' hs=>⟨(by first|trivial|(repeat (first|exact trivial|exact λ_=>z08 hs|exact λ_=>z0i hs|refine And.intro ?_ ?_))),?_⟩
     refine z8 (z4p b.pid (by omega) hs) λ_ w' hs=>?_
     obtain ⟨z3,rfl,hs⟩:=hs
     refine zb ?_ (by first|trivial|(repeat (first|exact trivial|exact λ_=>z08 hs|exact λ_=>z0i hs|refine And.intro ?_ ?_)))
     refine zd ?_
     exact fin hs.sub
    ·refine z8 (z4p b.pid (by omega) hs) λ_ w' hs=>?_
     obtain ⟨z3,rfl,hs⟩:=hs
     refine zb ?_ (by first|trivial|(repeat (first|exact trivial|exact λ_=>z08 hs|exact λ_=>z0i hs|refine And.intro ?_ ?_)))
     refine z7m hs (enc:=zi) [1,UInt8.ofNat b.kind.toNat] λz1 w' hs=>⟨(by first|trivial|(repeat (first|exact trivial|exact λ_=>z08 hs|exact λ_=>z0i hs|refine And.intro ?_ ?_))),?_⟩
     refine zd ?_
     exact fin hs.sub
  rintro _ w1 ⟨z,rfl,hs⟩
  have hdl:(hdL b).length<=22:=by
   have hul1:=z1p b.base
   have hul2:=z1p b.pid
   unfold hdL
   simp only [List.length_cons,List.length_append]
   omega
  refine za hs ?_
  refine zf (λq w'=>∃ z:Sl,q=(z,())/\Sat w' (slc T.a59 1 z ((hdL b++z7c b).flatMap zi)::pt a0 (.cells (cB b) T.a0)::l)) ?_ ?_
  ·refine ze (λh2=>?_) λh2=>?_
   rotate_left
   ·refine zg ⟨z,rfl,?_⟩
    have e:z7c b=[]:=by unfold z7c;rw [if_neg h2]
    rw [e,List.append_nil]
    exact hs
   have hul:=z1p b.epoch
   refine za hs ?_
   refine z8 (z4p b.epoch (by omega) hs) λ_ w' hs=>?_
   obtain ⟨z2,rfl,hs⟩:=hs
   refine zb ?_
   refine wp_app' (xs:=hdL b) (ys:=uI b.epoch) (enc:=zi) hs λz3 w' hs=>?_
   refine zk hs ?_
   refine z8 (z66 b hs) λ_ w' hs=>?_
   obtain ⟨rfl,hs⟩:=hs
   refine zb ?_
   refine z4q ?_
   refine ze (λh3=>?_) λh3=>?_
   ·have h3:z0g b=false:=by simpa using h3
    have hul2:=z1p b.seq
    refine za hs ?_
    refine z8 (z4p b.seq (by omega) hs) λ_ w' hs=>?_
    obtain ⟨z4,rfl,hs⟩:=hs
    refine zb ?_
    refine wp_app' (xs:=hdL b++uI b.epoch) (ys:=uI b.seq) (enc:=zi) hs (λz5 w' hs=>?_) (by rw [List.length_append];omega)
    refine z3q ?_
    refine zg ⟨z5,rfl,?_⟩
    have e:z7c b=uI b.epoch++uI b.seq:=by unfold z7c;rw [if_pos h2,h3];rfl
    rw [e,<- List.append_assoc]
    exact hs.sub
   ·have h3:z0g b=true:=by simpa using h3
    refine z3q ?_
    refine zg ⟨z3,rfl,?_⟩
    have e:z7c b=uI b.epoch:=by unfold z7c;rw [if_pos h2,h3,if_pos rfl,List.append_nil]
    rw [e]
    exact hs.sub
  rintro _ w2 ⟨z2,rfl,hs⟩
  have hml:(z7c b).length<=20:=by
   have hul1:=z1p b.epoch
   have hul2:=z1p b.seq
   unfold z7c
   split
   ·split
    ·simp only [List.length_append,List.length_nil];omega
    ·simp only [List.length_append];omega
   ·simp
  have htl:=z1p b.time
  refine za hs ?_
  refine z8 (z4p b.time (by omega) hs) λ_ w' hs=>?_
  obtain ⟨z3,rfl,hs⟩:=hs
  refine zb ?_
  refine wp_app' (xs:=hdL b++z7c b) (ys:=uI b.time) (enc:=zi) hs (λz4 w' hs=>?_) (by rw [List.length_append];omega)
  refine zk hs ?_
  refine z8 (z66 b hs) λ_ w' hs=>?_
  obtain ⟨rfl,hs⟩:=hs
  refine zb ?_
  refine ze (λh3=>?_) λh3=>?_
  ·refine ⟨rfl,.inr ⟨hv,z4,rfl,?_⟩⟩
   rw [zof,h3,if_pos rfl,List.append_nil]
   exact hs.sub
  have h3:z0g b=false:=by simpa using h3
  have hcl:=z1p ((b.rs.length:Nat):Int)
  refine za hs ?_
  rw [hlx]
  refine z8 (z4p ((b.rs.length:Nat):Int) (by omega) hs) λ_ w' hs=>?_
  obtain ⟨z5,rfl,hs⟩:=hs
  refine zb ?_
  generalize hX:hdL b++z7c b++uI b.time=X at hs
  have hXl:X.length<=60:=by rw [<- hX];simp only [List.length_append];omega
  refine wp_app' (xs:=X) (ys:=uI (b.rs.length:Nat)) (enc:=zi) hs (λz6 w' hs=>?_) (by omega)
  refine za hs ?_
  generalize hY:X++uI ((b.rs.length:Nat):Int)=Y at hs
  have hYl:Y.length<=80:=by rw [<- hY];simp only [List.length_append];omega
  have hfin:z2c b=Y++z29 b.time ⟨#[]⟩ b.rs:=by
   rw [zof,hX,h3,if_neg (by simp),<- hY,List.append_assoc]
  refine zf (λq w'=>∃ z:Sl,q=(z,())/\Sat w' (slc T.a59 1 z ((z2c b).flatMap zi)::l)) ?_ ?_
  rotate_left
  ·rintro _ w' ⟨z,rfl,hs⟩
   exact ⟨rfl,.inr ⟨hv,z,rfl,hs⟩⟩
  have hrec:=z026 hv
  refine z02 (λm v w=>∃ (i:Nat) (z:Sl),v=(z,((match (b.rs.take i).getLast? with|none=>(⟨#[]⟩:ByteArray)|some x=>x.key),((i:Int),())))/\i<=b.rs.length/\b.rs.length-i=m/\Sat w (slc T.a59 1 z ((Y++z29 b.time ⟨#[]⟩ (b.rs.take i)).flatMap zi)::pt a0 (.cells (cB b) T.a0)::l)) b.rs.length ⟨0,z6,rfl,by omega,rfl,by
   rw [List.take_zero]
   show Sat _ (slc T.a59 1 z6 ((Y++[]).flatMap zi)::_)
   rw [List.append_nil]
   exact hs.sub⟩ ?_
  clear hs
  rintro m _ w ⟨i,z,rfl,hi,hm,hs⟩
  refine ze (λhc=>?_) λhc=>?_
  rotate_left
  ·refine zh (zg ⟨z,rfl,?_⟩)
   have hc:¬ ((i:Int)<((b.x.len:Nat):Int)):=hc
   have hi2:i=b.rs.length:=by omega
   rw [hi2,List.take_length,<- hfin] at hs
   exact hs.sub
  have hc:((i:Int)<((b.x.len:Nat):Int)):=hc
  have hil:i<b.rs.length:=by omega
  refine z32 hs (xs:=b.rs) (enc:=z00) i hil ?_
  refine zt hs λa1 w' hs=>?_
  refine zu hs λw' hs=>?_
  refine za hs ?_
  obtain ⟨hr1,hr2,hr3,hr4⟩:=z4s (hrs b.rs[i] (List.getElem_mem hil))
  have hah:∀ x,(match (b.rs.take i).getLast? with|none=>(⟨#[]⟩:ByteArray)|some x=>x.key)=x->x.size<=1024:=by
   intro x hx
   cases hq:(b.rs.take i).getLast? with
   | none=>rw [hq] at hx;subst hx;show 0<=1024;omega
   | some y =>
    rw [hq] at hx
    subst hx
    exact (z4s (hrs y (List.mem_of_mem_take (List.mem_of_getLast? hq)))).1
  have hsn:=zfp b.time (b.rs.take i) ⟨#[]⟩ b.rs[i]
  rw [<- List.take_succ_eq_append_getElem hil] at hsn
  have hln:=hrec (i+1)
  rw [hsn,List.length_append] at hln
  have hlast:(match (b.rs.take (i+1)).getLast? with|none=>(⟨#[]⟩:ByteArray)|some x=>x.key)=b.rs[i].key:=by
   rw [List.take_succ_eq_append_getElem hil,z1o]
  generalize (match (b.rs.take i).getLast? with|none=>(⟨#[]⟩:ByteArray)|some x=>x.key)=ahead at *
  have hah:=hah ahead rfl
  refine z8 (zoc ahead b.rs[i].key (by omega) hs) λ_ w' hs=>?_
  obtain ⟨rfl,hs⟩:=hs
  refine zb ?_
  refine wp_lt ?_
  have hal:=z9e (bl ahead) (bl b.rs[i].key)
  rw [z1c,z1c] at hal
  have hrl:z5v b.time ahead b.rs[i]=(z55 (b.rs[i].time-b.time)++([z7q b.rs[i].gone]++(uI (z0l (bl ahead) (bl b.rs[i].key):Nat)++z6i ahead b.rs[i].key)))++if b.rs[i].gone then [] else uI b.rs[i].value.size++bl b.rs[i].value:=by
   unfold z5v
   simp only [List.append_assoc,List.cons_append,List.nil_append,List.singleton_append]
  generalize hZ:Y++z29 b.time ⟨#[]⟩ (b.rs.take i)=Z at *
  have hZl:Z.length<=200000:=by rw [<- hZ,List.length_append];omega
  have htl1:=zif (b.rs[i].time-b.time)
  have htl2:=z1p ((z0l (bl ahead) (bl b.rs[i].key):Nat):Int)
  have htl3:(z6i ahead b.rs[i].key).length<=1034:=by
   unfold z6i
   have:=z1p (((b.rs[i].key.size-z0l (bl ahead) (bl b.rs[i].key):Nat)):Int)
   rw [List.length_append,List.length_drop,z1c]
   omega
  refine zf (λq w'=>∃ z:Sl,q=(z,())/\Sat w' (slc T.a59 1 z ((Z++(z55 (b.rs[i].time-b.time)++([z7q b.rs[i].gone]++(uI (z0l (bl ahead) (bl b.rs[i].key):Nat)++z6i ahead b.rs[i].key)))).flatMap zi)::pt a1 (.cells (cR b.rs[i]) T.a2)::pt a0 (.cells (cB b) T.a0)::l)) ?_ ?_
  ·refine zy hs λw' hs=>?_
   refine za hs ?_
   refine za hs ?_
   refine z0x hs ?_
   refine z0x hs ?_
   refine wp_must (by omega) ?_
   rw [w64 (by omega) (by omega)]
   refine z8 (z02n (b.rs[i].time-b.time) (by omega) hs) λ_ w' hs=>?_
   obtain ⟨u1_,rfl,hs⟩:=hs
   refine zb ?_ (by first|trivial|(repeat (first|exact trivial|exact λ_=>z08 hs|exact λ_=>z0i hs|refine And.intro ?_ ?_)))
   refine z8 (z02l b.rs[i].gone hs) λ_ w' hs=>?_
   obtain ⟨u2_,rfl,hs⟩:=hs
   refine zb ?_ (by first|trivial|(repeat (first|exact trivial|exact λ_=>z08 hs|exact λ_=>z0i hs|refine And.intro ?_ ?_)))
   refine z8 (z4p ((z0l (bl ahead) (bl b.rs[i].key):Nat):Int) (by omega) hs) λ_ w' hs=>?_
   obtain ⟨u3_,rfl,hs⟩:=hs
   refine zb ?_ (by first|trivial|(repeat (first|exact trivial|exact λ_=>z08 hs|exact λ_=>z0i hs|refine And.intro ?_ ?_)))
   refine zd ?_
   have ext:(ByteArray.extract b.rs[i].key (z0l (bl ahead) (bl b.rs[i].key)) b.rs[i].key.size).size=b.rs[i].key.size-z0l (bl ahead) (bl b.rs[i].key):=by rw [ByteArray.size_extract];omega
   have exb:bl (ByteArray.extract b.rs[i].key (z0l (bl ahead) (bl b.rs[i].key)) b.rs[i].key.size)=(bl b.rs[i].key).drop (z0l (bl ahead) (bl b.rs[i].key)):=by
    unfold bl
    rw [ByteArray.data_extract,Array.toList_extract,List.extract_eq_take_drop]
    exact List.take_of_length_le (by rw [List.length_drop];exact Nat.le_refl _)
   rw [Int.toNat_natCast]
   refine z8 (zq0 (ByteArray.extract b.rs[i].key (z0l (bl ahead) (bl b.rs[i].key)) b.rs[i].key.size) (by omega) hs) λ_ w' hs=>?_
   obtain ⟨u4_,rfl,hs⟩:=hs
   refine zb ?_
   rw [ext,exb] at hs
   have hs:Sat _ (slc T.a59 1 u4_ ((z6i ahead b.rs[i].key).flatMap zi)::_):=hs
   refine zai hs (enc:=z0d) [u1_,u2_,u3_,u4_] λu5_ w' hs=>?_
   refine z8 (zy7 u5_ u1_ u2_ u3_ u4_ (z55 (b.rs[i].time-b.time)) [z7q b.rs[i].gone] (uI (z0l (bl ahead) (bl b.rs[i].key):Nat)) (z6i ahead b.rs[i].key) (by simp only [List.length_cons,List.length_nil];omega) hs) λ_ w' hs=>?_
   obtain ⟨u6_,rfl,hs⟩:=hs
   refine zb ?_
   refine wp_app' (xs:=Z) (ys:=z55 (b.rs[i].time-b.time)++([z7q b.rs[i].gone]++(uI (z0l (bl ahead) (bl b.rs[i].key):Nat)++z6i ahead b.rs[i].key))) (enc:=zi) hs (λz5 w' hs=>?_) (by simp only [List.length_append,List.length_cons,List.length_nil];omega)
   refine zd ?_
   refine zg ⟨z5,rfl,?_⟩
   exact hs.sub
  rintro _ w3 ⟨z5,rfl,hs⟩
  refine za hs ?_
  refine zf (λq w'=>∃ z:Sl,q=(z,())/\Sat w' (slc T.a59 1 z ((Z++z5v b.time ahead b.rs[i]).flatMap zi)::pt a1 (.cells (cR b.rs[i]) T.a2)::pt a0 (.cells (cB b) T.a0)::l)) ?_ ?_
  ·refine ze (λh5=>?_) λh5=>?_
   ·have h5:b.rs[i].gone=false:=by simpa using h5
    refine za hs ?_
    refine z8 (zq0 b.rs[i].value (by omega) hs) λ_ w' hs=>?_
    obtain ⟨u,rfl,hs⟩:=hs
    refine zb ?_
    have hvl:=z1p ((b.rs[i].value.size:Nat):Int)
    have hvs:=z1c b.rs[i].value
    refine wp_app' (xs:=Z++(z55 (b.rs[i].time-b.time)++([z7q b.rs[i].gone]++(uI (z0l (bl ahead) (bl b.rs[i].key):Nat)++z6i ahead b.rs[i].key)))) (ys:=uI (b.rs[i].value.size:Nat)++bl b.rs[i].value) (enc:=zi) hs (λz7 w' hs=>?_) (by simp only [List.length_append,List.length_cons,List.length_nil];omega)
    refine zg ⟨z7,rfl,?_⟩
    rw [hrl,if_neg (by rw [h5];simp),<- List.append_assoc]
    exact hs.sub
   ·have h5:b.rs[i].gone=true:=by simpa using h5
    refine zg ⟨z5,rfl,?_⟩
    rw [hrl,if_pos h5,List.append_nil]
    exact hs.sub
  rintro _ w4 ⟨z7,rfl,hs⟩
  refine za hs ?_
  refine wp_lt ?_
  have e5:IntKind.wrap .i64 ((i:Int)+1)=((i+1:Nat):Int):=by rw [w64 (by omega) (by omega)];omega
  rw [e5]
  refine z0z (b.rs.length-(i+1)) ?_
  refine ⟨i+1,z7,by rw [hlast],by omega,rfl,?_⟩
  rw [hsn,<- List.append_assoc,hZ]
  exact hs.sub
end
def zix (b:BatM) (k:Nat):BatM:=⟨b.base+k,b.pid,b.epoch,if b.pid>0 then b.seq+k else b.seq,b.kind,b.time,b.x,b.rs.drop k⟩
def z0o (off:Int) (b:BatM):Option BatM:=if z05 b≠0\/off>=z1m b then none else if z0g b=true\/off<=b.base then some b else some (zix b (off-b.base).toNat)
def rsP (b:BatM):HP:=slc T.a2 4 b.x (b.rs.flatMap z00)
def z1l (bs:List BatM):HP:=HP.all (bs.map rsP)
section
variable {w:World} {l r:List HP}
theorem zpg (b:BatM) [hb:FocR l b.x 4 (b.rs.flatMap z00)] (hlen:b.rs.length<=1000000) (hs:Sat w l):Ret P F.a84 #[.agg (zo b).toArray] w λvs w'=>∃ z:Sl,vs=[.agg (zo (b.at z)).toArray]/\Sat w' (slc T.a2 4 z (b.rs.flatMap z00)::l) :=
 ztk b.base b.pid b.epoch b.seq b.kind b.time b.x <| by
  delta z067 AD AE AR AV Ad Ae Am Ap Bp
  refine zn hs λa0 w' hs=>?_
  refine zt hs λa1 w' hs=>?_
  refine za hs ?_
  have hs:Sat w' (slc T.a2 4 ⟨none,0,0⟩ (([]:List RecM).flatMap z00)::_):=hs.slc_nil
  refine wp_app' (x:=⟨none,0,0⟩) (xs:=([]:List RecM)) (ys:=b.rs) (enc:=z00) hs (λz w' hs=>?_) (by simp only [List.length_nil];omega)
  rw [List.nil_append] at hs
  refine z07 hs λw' hs=>?_
  refine zk hs ?_
  refine zu hs λw' hs=>?_
  refine zk hs ?_
  refine ⟨rfl,z,rfl,?_⟩
  exact hs.sub
theorem z027 (b:BatM) (k:Nat) (hk:k<=b.rs.length) (hcap:b.x.len<=b.x.cap) (hv:z05 b=0) [hb:FocR l b.x 4 (b.rs.flatMap z00)] (hs:Sat w l):Ret P F.a97 #[.agg (zo b).toArray,.int .i64 (k:Int),.int .i64 (b.x.len:Nat)] w λvs w'=>∃ z:Sl,vs=[.agg (zo ((zix b k).at z)).toArray]/\Sat w' (slc T.a2 4 z ((b.rs.drop k).flatMap z00)::l) :=
 zm1 b.base b.pid b.epoch b.seq b.kind b.time b.x _ _ <| by
  delta zyz AD AE AF AR AV Aa Ad Ae Ai Am Ap Aq Ay Bp
  have hl:=hs.slen b.x (xs:=b.rs) (enc:=z00)
  obtain ⟨h64,-⟩:=z2z hv
  obtain ⟨-,-,⟨-,hba,hpi,-,hsq,-⟩,-,-⟩:=z11 b hv
  refine zn hs λa0 w' hs=>?_
  refine zt hs λa1 w' hs=>?_
  refine zk hs ?_
  refine zt hs λa9 w' hs=>?_
  refine zu hs λw' hs=>?_
  refine za hs ?_
  refine wp_must (by omega) ?_
  rw [Int.toNat_natCast,Int.toNat_natCast]
  have hf:FocR (pt a9 (.cells #[.int .i64 b.base,.int .i64 b.pid,.int .i64 b.epoch,.int .i64 b.seq,.int .i64 b.kind,.int .i64 b.time,.slice b.x.a b.x.len b.x.cap] T.a0)::pt a1 (.cells #[.int .i64 0,.int .i64 0,.int .i64 0,.int .i64 0,.int .i64 0,.int .i64 0,.slice none 0 0] T.a0)::pt a0 (.cells #[.int .i64 b.base,.int .i64 b.pid,.int .i64 b.epoch,.int .i64 b.seq,.int .i64 b.kind,.int .i64 b.time,.slice b.x.a b.x.len b.x.cap] T.a0)::l) ⟨z1r b.x.a 4 k b.x.cap,b.x.len-k,b.x.cap-k⟩ 4 ((b.rs.drop k).flatMap z00):=FocR.post hcap
  have hs:Sat w' (slc T.a2 4 ⟨none,0,0⟩ (([]:List RecM).flatMap z00)::_):=hs.slc_nil
  refine wp_app' (x:=⟨none,0,0⟩) (y:=⟨z1r b.x.a 4 k b.x.cap,b.x.len-k,b.x.cap-k⟩) (xs:=([]:List RecM)) (ys:=b.rs.drop k) (enc:=z00) hs (λz w' hs=>?_) (by simp only [List.length_nil,List.length_drop];omega)
  rw [List.nil_append] at hs
  refine z07 hs λw' hs=>?_
  refine za hs ?_
  rw [w64 (by omega) (by omega)]
  refine z07 hs λw' hs=>?_
  refine za hs ?_
  refine zf (λ_ w'=>Sat w' (pt a9 (.cells [.int .i64 (b.base+k),.int .i64 b.pid,.int .i64 b.epoch,.int .i64 (if b.pid>0 then b.seq+k else b.seq),.int .i64 b.kind,.int .i64 b.time,.slice z.a z.len z.cap].toArray T.a0)::slc T.a2 4 z ((b.rs.drop k).flatMap z00)::pt a1 (.cells #[.int .i64 0,.int .i64 0,.int .i64 0,.int .i64 0,.int .i64 0,.int .i64 0,.slice none 0 0] T.a0)::l)) ?_ ?_
  ·refine ze (λh=>?_) λh=>?_
   ·refine za hs ?_
    rw [w64 (by omega) (by omega)]
    refine z07 hs λw' hs=>?_
    refine zg ?_
    rw [if_pos h]
    exact hs.sub
   ·refine zg ?_
    rw [if_neg h]
    exact hs.sub
  clear hs
  rintro _ w2 hs
  refine zk hs ?_
  refine zu hs λw' hs=>?_
  refine zk hs ?_
  refine ⟨rfl,z,rfl,?_⟩
  exact hs.sub
theorem z01c (b:BatM) (off:Int) (ho : -9223372036854775808<=off/\off<9223372036854775808) (hcap:b.x.len<=b.x.cap) [hb:FocR l b.x 4 (b.rs.flatMap z00)] (hs:Sat w l):Ret P F.a88 #[.agg (zo b).toArray,.int .i64 off] w λvs w' =>
  (z0o off b=none/\vs=[.agg (zo zrt).toArray,.bool false]/\Sat w' l)\/(∃ (c:BatM) (z:Sl),z0o off b=some c/\vs=[.agg (zo (c.at z)).toArray,.bool true]/\Sat w' (slc T.a2 4 z (c.rs.flatMap z00)::l)) :=
 zto b.base b.pid b.epoch b.seq b.kind b.time b.x off <| by
  delta z06b AB AD AE AF AG AH AP Aa Ad Ae Ai Aj Ak Al Am Ap Aq Ar Ax Bp
  have hl:=hs.slen b.x (xs:=b.rs) (enc:=z00)
  refine zn hs λa0 w' hs=>?_
  refine zt hs λa1 w' hs=>?_
  refine zf (λq w'=>q=(decide (z05 b≠0\/off>=z1m b),())/\Sat w' (pt a1 (.cells #[.int .i64 0,.int .i64 0,.int .i64 0,.int .i64 0,.int .i64 0,.int .i64 0,.slice none 0 0] T.a0)::pt a0 (.cells (cB b) T.a0)::l)) ?_ ?_
  ·refine zk hs ?_
   refine z8 (z8o b hs) λ_ w' hs=>?_
   obtain ⟨rfl,hs⟩:=hs
   refine zb ?_
   refine zk hs ?_
   refine ze (λh=>?_) λh=>?_
   ·exact zg ⟨by rw [decide_eq_true (.inl h)],hs⟩
   ·refine z8 (z8m b hs) λ_ w' hs=>?_
    obtain ⟨rfl,hs⟩:=hs
    refine zb ?_
    refine wp_lt ?_
    refine zg ⟨?_,hs⟩
    rw [decide_eq_decide.2 (show (z05 b≠0\/off>=z1m b)↔off>=z1m b from ⟨λhh=>hh.resolve_left h,.inr⟩)]
  rintro _ w2 ⟨rfl,hs⟩
  refine ze (λh=>?_) λh=>?_
  ·have h:z05 b≠0\/off>=z1m b:=by simpa using h
   refine zu hs λw' hs=>?_
   refine zk hs ?_
   refine ⟨rfl,.inl ⟨by unfold z0o;rw [if_pos h],rfl,hs.tail.tail⟩⟩
  have h:¬ (z05 b≠0\/off>=z1m b):=by simpa using h
  have hv:z05 b=0:=Decidable.byContradiction λhh=>h (.inl hh)
  have hno:off<z1m b:=by
   apply Decidable.byContradiction;intro hh;exact h (.inr (by omega))
  have hnx:z1m b=b.base+zp b:=by unfold z1m;rw [if_neg (by rw [hv];simp)]
  obtain ⟨h64,-⟩:=z2z hv
  obtain ⟨-,-,⟨-,hba,-⟩,-,-⟩:=z11 b hv
  refine zk hs ?_
  refine z8 (z66 b hs) λ_ w' hs=>?_
  obtain ⟨rfl,hs⟩:=hs
  refine zb ?_
  refine za hs ?_
  refine wp_lt ?_
  refine ze (λh2=>?_) λh2=>?_
  ·refine zk hs ?_
   refine z8 (zpg b (by omega) hs) λ_ w' hs=>?_
   obtain ⟨z,rfl,hs⟩:=hs
   refine ⟨(b.base,b.pid,b.epoch,b.seq,b.kind,b.time,z,()),rfl,trivial,zj4 _ _ _ _ _ _ _ ?_⟩
   refine zu hs λw' hs=>?_
   refine zk hs ?_
   refine ⟨rfl,.inr ⟨b,z,by unfold z0o;rw [if_neg h,if_pos h2],rfl,hs.sub⟩⟩
  ·have hm:z0g b=false:=by
    cases hm:z0g b with
    | false=>rfl
    | true=>exact absurd (.inl hm) h2
   have hob:¬ off<=b.base:=λhh=>h2 (.inr hh)
   have hsp:zp b=b.rs.length:=by unfold zp;rw [hm];simp
   refine zk hs ?_
   refine za hs ?_
   refine za hs ?_
   rw [w64 (by omega) (by omega)]
   have eo:off-b.base=(((off-b.base).toNat:Nat):Int):=by omega
   rw [eo]
   refine z8 (z027 b (off-b.base).toNat (by omega) hcap hv hs) λ_ w' hs=>?_
   obtain ⟨z,rfl,hs⟩:=hs
   refine ⟨(b.base+(off-b.base).toNat,b.pid,b.epoch,(if b.pid>0 then b.seq+(off-b.base).toNat else b.seq),b.kind,b.time,z,()),rfl,trivial,zj4 _ _ _ _ _ _ _ ?_⟩
   refine zu hs λw' hs=>?_
   refine zk hs ?_
   refine ⟨rfl,.inr ⟨zix b (off-b.base).toNat,z,by unfold z0o;rw [if_neg h,if_neg h2],rfl,(show Sat w' (slc T.a2 4 z ((b.rs.drop (off-b.base).toNat).flatMap z00)::l) from hs.sub)⟩⟩
end
theorem ztz {a b:ByteArray} (h:a.data.toList=b.data.toList):a=b:=by
 cases a;cases b;exact congrArg ByteArray.mk (Array.ext' h)
theorem z9x:∀ x:List UInt8,Op.bytesLess x x=false
 | []=>rfl
 | a::x=>by rw [Op.bytesLess,z9x x];simp
theorem zfg:∀ {x y z:List UInt8},Op.bytesLess x y=true->Op.bytesLess y z=true->Op.bytesLess x z=true
 | [],_,[],_,h=>by cases ‹List UInt8› <;> simp [Op.bytesLess] at h
 | [],_,_::_,_,_=>rfl
 | _::_,[],_,h,_=>by simp [Op.bytesLess] at h
 | _::_,_::_,[],_,h=>by simp [Op.bytesLess] at h
 | a::x,b::y,c::z,h1,h2=>by
  simp only [Op.bytesLess,Bool.or_eq_true,decide_eq_true_eq,Bool.and_eq_true,beq_iff_eq] at h1 h2 ⊢
  rcases h1 with h1|⟨rfl,h1⟩
  ·rcases h2 with h2|⟨rfl,h2⟩
   ·exact .inl (UInt8.lt_trans h1 h2)
   ·exact .inl h1
  ·rcases h2 with h2|⟨rfl,h2⟩
   ·exact .inl h2
   ·exact .inr ⟨rfl,zfg h1 h2⟩
theorem zff:∀ (x y:List UInt8),Op.bytesLess x y=true\/x=y\/Op.bytesLess y x=true
 | [],[]=>.inr (.inl rfl)
 | [],_::_=>.inl rfl
 | _::_,[]=>.inr (.inr rfl)
 | a::x,b::y=>by
  simp only [Op.bytesLess,Bool.or_eq_true,decide_eq_true_eq,Bool.and_eq_true,beq_iff_eq,List.cons.injEq]
  rcases Nat.lt_trichotomy a.toNat b.toNat with h|h|h
  ·exact .inl (.inl (UInt8.lt_iff_toNat_lt.2 h))
  ·have:=UInt8.toNat_inj.1 h
   subst this
   rcases zff x y with h|rfl|h
   ·exact .inl (.inr ⟨rfl,h⟩)
   ·exact .inr (.inl ⟨rfl,rfl⟩)
   ·exact .inr (.inr (.inr ⟨rfl,h⟩))
  ·exact .inr (.inr (.inl (UInt8.lt_iff_toNat_lt.2 h)))
def ltS (a b:ByteArray):Bool:=Op.bytesLess (ByteArray.toList a) (ByteArray.toList b)
theorem z8d (a:ByteArray):ltS a a=false:=z9x _
theorem zhw {a b c:ByteArray} (h1:ltS a b=true) (h2:ltS b c=true):ltS a c=true:=zfg h1 h2
theorem zuv (a b:ByteArray):ltS a b=true\/a=b\/ltS b a=true:=by
 rcases zff (ByteArray.toList a) (ByteArray.toList b) with h|h|h
 ·exact .inl h
 ·exact .inr (.inl (zbu.1 h))
 ·exact .inr (.inr h)
theorem zut {a b:ByteArray} (h:ltS a b=true):ltS b a=false:=by
 cases hb:ltS b a with
 | false=>rfl
 | true=>have:=zhw h hb;rw [z8d] at this;cases this
structure FileA where
 name:ByteArray
 b:List UInt8
 kept:Nat
structure DiskA where
 room:Nat
 left:Int
 gone:Bool
 fs:List FileA
def used (fs:List FileA):Nat:=(fs.map λf=>f.b.length).sum
def DiskA.free (A:DiskA):Nat:=A.room-used A.fs
def okC (c:UInt8):Bool:=(97<=c.toNat && c.toNat<=122) || (48<=c.toNat && c.toNat<=57) || c.toNat == 46 || c.toNat == 45
def z4y (s:ByteArray):Bool:=s.data.toList.all okC && (1<=s.size && s.size<=24)
def z1v (fs:List FileA) (n:ByteArray):Bool:=fs.any λf=>decide (f.name=n)
def z27 (A:DiskA):DiskA:=if A.left>0 then { A with left:=A.left-1,gone:=decide (A.left-1=0) } else A
def z1k (n:ByteArray) (g:FileA->FileA) (f:FileA):FileA:=if f.name=n then g f else f
def z3t (x:FileA):List FileA->List FileA
 | []=>[x]
 | f::r=>if ltS x.name f.name then x::f::r else f::z3t x r
def z3m (n:ByteArray) (fs:List FileA):List FileA:=fs.filter λf=>!decide (f.name=n)
def z09 (A:DiskA) (n:ByteArray) (bs:List UInt8):Int × DiskA :=
 if A.gone then (9,A) else if z4y n=false then (2,A) else if bs.length>A.free\/(z1v A.fs n=false/\A.fs.length>=128) then (5,A) else
  (0,z27 { A with fs:=if z1v A.fs n then A.fs.map (z1k n λf=>{ f with b:=f.b++bs }) else z3t ⟨n,bs,0⟩ A.fs })
def zal (ns:List ByteArray) (n:ByteArray):Bool:=ns.isEmpty || ns.any λm=>decide (m=n)
def z3o (ns:List ByteArray) (f:FileA):FileA:=if zal ns f.name then { f with kept:=f.b.length } else f
def z1n (A:DiskA) (ns:List ByteArray):Int × DiskA :=
 if A.gone then (9,A) else if ns.all (z1v A.fs)=false then (3,A) else (0,z27 { A with fs:=A.fs.map (z3o ns) })
def zk3 (fs:List FileA) (n:ByteArray):Nat:=match fs.find? λf=>decide (f.name=n) with
 | some f=>f.b.length
 | none=>0
def cutA' (A:DiskA) (n:ByteArray) (k:Int):Int × DiskA :=
 if A.gone then (9,A) else if z1v A.fs n=false then (3,A) else if k<0\/k>zk3 A.fs n then (2,A) else
  (0,z27 { A with fs:=A.fs.map (z1k n λf=>{ f with b:=f.b.take k.toNat,kept:=min f.kept k.toNat }) })
def z0y (A:DiskA) (n:ByteArray):Int × DiskA :=
 if A.gone then (9,A) else if z1v A.fs n=false then (3,A) else (0,z27 { A with fs:=z3m n A.fs })
def zym (A:DiskA) (n:Int):DiskA:=if A.gone then A else { A with left:=if n<0 then -1 else n,gone:=decide (n=0) }
structure okA (A:DiskA):Prop where
 room:A.room<=4194304
 used:used A.fs<=4194304
 many:A.fs.length<=128
 left : -1<=A.left/\A.left<=9223372036854775807
 sorted:A.fs.Pairwise λa b=>ltS a.name b.name=true
 kept:∀ f ∈ A.fs,f.kept<=f.b.length
 names:∀ f ∈ A.fs,f.name.size<=24
theorem z1d (f:FileA) (fs:List FileA):used (f::fs)=f.b.length+used fs:=by simp [used]
theorem z3g {a b:List FileA} (h:a.Perm b):used a=used b:=(h.map _).sum_nat
theorem z7k:∀ {fs:List FileA} {f:FileA},f ∈ fs->f.b.length<=used fs
 | g::r,f,h=>by
  rw [z1d]
  rcases List.mem_cons.1 h with rfl|h
  ·omega
  ·have:=z7k h;omega
theorem z2i {fs:List FileA} (h:fs.Pairwise λa b=>ltS a.name b.name=true):(fs.map (·.name)).Nodup:=by
 rw [List.Nodup,List.pairwise_map]
 exact h.imp λ{a b} hab e=>by rw [e,z8d] at hab;cases hab
theorem z5n {fs:List FileA} {n:ByteArray}:z1v fs n=true↔∃ f ∈ fs,f.name=n:=by simp [z1v]
theorem z5o {fs:List FileA} {n:ByteArray}:z1v fs n=false↔∀ f ∈ fs,f.name≠n:=by simp [z1v]
instance:ByE P T.a46 T.a59:=⟨by kernel_rfl,by kernel_rfl,by kernel_rfl⟩
instance:StT P T.a51:=⟨by kernel_rfl⟩
instance:KeyT P T.a51 ekS:=zwo (by kernel_rfl)
instance:MapT P T.a21 T.a51 (.pointer none):=⟨T.a24,by kernel_rfl,by kernel_rfl⟩
abbrev evF (b:Nat):Value:=.pointer (some ⟨b,0,none⟩)
structure FileM where
 at_:Nat
 x:Sl
 f:FileA
def z39 (t:FileM):HP:=HP.star (pt t.at_ (.cells #[t.x.v,.int .i64 t.f.kept] T.a8)) (slc T.a59 1 t.x (t.f.b.flatMap zi))
def dk (d:Nat) (A:DiskA):HP:=HP.ex λm:Nat=>HP.ex λFS:List FileM=>HP.and ((FS.map (·.f)).Perm A.fs/\okA A)
 (HP.star (pt d (.cells #[.int .i64 A.left,.bool A.gone,.int .i64 A.room,.int .i64 (used A.fs),.map (some m)] T.a7))
  (HP.star (z18 ekS evF m (FS.map λt=>(t.f.name,t.at_))) (HP.all (FS.map z39))))
section
variable {w:World} {l r:List HP}
theorem Sat.all_nil (hs:Sat w l):Sat w (HP.all []::l) :=
 ⟨⟨λ_=>none,World.env' w⟩,World.ph w,⟨(λ_ _ h=>by cases h),rfl⟩,PH.sub_refl _,(λ_=>Or.inl rfl),trivial,hs⟩
theorem Sat.all_cons {a:HP} {L:List HP} (hs:Sat w (HP.all (a::L)::l)):Sat w (a::HP.all L::l):=by
 refine Sat.star (A:=a) (B:=HP.all L) (hs.imp λp h=>?_)
 obtain ⟨p1,p2,h1,h2,hd,hA,hl⟩:=h
 exact ⟨p1,p2,h1,h2,hd,hA,hl⟩
theorem Sat.all_put {a:HP} {L:List HP} (hs:Sat w (a::HP.all L::l)):Sat w (HP.all (a::L)::l):=by
 refine (Sat.star_mk (A:=a) (B:=HP.all L) hs).imp λp h=>?_
 obtain ⟨p1,p2,h1,h2,hd,hA,hl⟩:=h
 exact ⟨p1,p2,h1,h2,hd,hA,hl⟩
theorem Sat.all_perm {L L':List HP} (hp:L.Perm L') (hs:Sat w (HP.all L::l)):Sat w (HP.all L'::l):=hs.imp λp h=>z9q hp h
theorem z1w {d:Nat} {A:DiskA} (hs:Sat w (dk d A::l)):∃ (m:Nat) (FS:List FileM),(FS.map FileM.f).Perm A.fs/\okA A /\
  Sat w (pt d (.cells #[.int .i64 A.left,.bool A.gone,.int .i64 A.room,.int .i64 (used A.fs),.map (some m)] T.a7)::z18 ekS evF m (FS.map λt=>(t.f.name,t.at_))::HP.all (FS.map z39)::l):=by
 obtain ⟨m,hs⟩:=hs.ex
 obtain ⟨FS,hs⟩:=hs.ex
 obtain ⟨⟨h1,h2⟩,hs⟩:=hs.and
 have hs:=hs.star
 have hs:=(hs.pick [1]).star
 exact ⟨m,FS,h1,h2,hs.pick [2,0,0]⟩
theorem zok {d:Nat} {A:DiskA} {m:Nat} {FS:List FileM} (hp:(FS.map FileM.f).Perm A.fs) (hok:okA A)
  (hs:Sat w (pt d (.cells #[.int .i64 A.left,.bool A.gone,.int .i64 A.room,.int .i64 (used A.fs:Nat),.map (some m)] T.a7)::z18 ekS evF m (FS.map λt=>(t.f.name,t.at_))::HP.all (FS.map z39)::l)):Sat w (dk d A::l):=by
 refine .ex_mk m (.ex_mk FS (.and_mk ⟨hp,hok⟩ (.star_mk ?_)))
 refine (Sat.star_mk (hs.pick [1,1])).pick [1]
theorem z1u {d:Nat} {A:DiskA} (m:Nat) {FS:List FileM} {r1 r2 r3 l':List HP} {u:Int} (hp:(FS.map FileM.f).Perm A.fs) (hok:okA A) (hs:Sat w l)
  [h1:FocB l d (.cells [.int .i64 A.left,.bool A.gone,.int .i64 A.room,.int .i64 u,.map (some m)].toArray T.a7) r1] [h2:FoM r1 m ekS evF (FS.map λt=>(t.f.name,t.at_)) r2] [h3:Foc r2 (HP.all (FS.map z39)) r3] [h4:Sub r3 l']
  (hu:u=(used A.fs:Nat):=by rfl):Sat w (dk d A::l'):=by
 subst hu
 have h5:Sat w (dk d A::r3):=zok hp hok (hs.perm (h1.perm.trans (.cons _ (h2.perm.trans (.cons _ h3.perm)))))
 exact h5.sub
theorem z6o {FS:List FileM} {t:FileM} (hs:Sat w l) [h:Foc l (HP.all (FS.map z39)) r] (ht:t ∈ FS):∃ FS',FS.Perm (t::FS') /\
  Sat w (pt t.at_ (.cells #[t.x.v,.int .i64 t.f.kept] T.a8)::slc T.a59 1 t.x (t.f.b.flatMap zi)::HP.all (FS'.map z39)::r):=by
 obtain ⟨s,u,rfl⟩:=List.append_of_mem ht
 have hp:(s++t::u).Perm (t::(s++u)):=List.perm_middle
 exact ⟨s++u,hp,(((hs.perm h.perm).all_perm (hp.map z39)).all_cons).star⟩
theorem z60 {FS:List FileM} (t:FileM) {r1 r2 r3:List HP} (hs:Sat w l) [h1:FocB l t.at_ (.cells [.slice t.x.a t.x.len t.x.cap,.int .i64 t.f.kept].toArray T.a8) r1] [h2:FocS r1 t.x T.a59 1 (t.f.b.flatMap zi) r2] [h3:Foc r2 (HP.all (FS.map z39)) r3] :
  Sat w (HP.all ((t::FS).map z39)::r3) :=
 Sat.all_put (Sat.star_mk (A:=pt t.at_ (.cells #[t.x.v,.int .i64 t.f.kept] T.a8)) (B:=slc T.a59 1 t.x (t.f.b.flatMap zi)) (hs.perm (h1.perm.trans (.cons _ (h2.perm.trans (.cons _ h3.perm))))))
end
section
variable {w:World} {l r:List HP} {d:Nat} {A:DiskA}
theorem zv0 (n:Nat) (hn:n<=4194304) (hs:Sat w l):Ret P F.a32 #[.int .i64 n] w λvs w'=>∃ d,vs=[.pointer (some ⟨d,0,none⟩),.int .i64 0]/\Sat w' (dk d ⟨n,-1,false,[]⟩::l) :=
 zse n <| by
  delta z053 Aa Ah Ai Am Ap Av
  refine zw ?_
  refine zbd ekS evF hs λm w' hs=>?_
  refine zn hs λd w' hs=>?_
  refine ⟨rfl,d,rfl,?_⟩
  exact zok (FS:=[]) (.refl _) ⟨hn,by simp [used],by simp,by simp,by simp,by simp,by simp⟩ ((hs.all_nil).pick [1,1,0])
theorem zp7 (c:UInt8):((!(decide ((c.toNat:Int)>=97) && decide ((c.toNat:Int)<=122)) && !(decide ((c.toNat:Int)>=48) && decide ((c.toNat:Int)<=57)) && (c.toNat:Int) != 46 && (c.toNat:Int) != 45)=true↔okC c=false):=by
 simp [okC];omega
theorem z03i (s:ByteArray) (hs:Sat w l):Ret P F.a31 #[.string s] w λvs w'=>vs=[.bool (z4y s)]/\Sat w' l :=
 zsd s <| by
  delta z052 AA AB AF AR Aa Ai Al Am Ay B3 B4
  refine ze (λh=>?_) λh=>?_
  ·refine ⟨rfl,?_,hs⟩
   have:z4y s=false:=by simp [z4y];omega
   rw [this]
  refine zlf hs λx w' hs=>?_
  have hl:=hs.slen x
  have hsz:s.data.toList.length=s.size:=by simp
  refine zf (λ_ w'=>s.data.toList.all okC=true/\Sat w' l) ?_ ?_
  ·refine z02 (λn v w=>∃ i:Nat,v=((i:Int),())/\i<=s.data.toList.length/\s.data.toList.length-i=n/\(s.data.toList.take i).all okC=true/\Sat w (slc T.a59 1 x (s.data.toList.flatMap zi)::l)) s.data.toList.length ⟨0,rfl,by omega,rfl,rfl,hs⟩ ?_
   clear hs
   rintro n _ w ⟨i,rfl,hi,hn,hall,hs⟩
   refine zm ?_
   refine ze (λhc=>?_) λhc=>?_
   ·have hil:i<s.data.toList.length:=by omega
    refine z1y hs i hil ?_
    refine wp_lt (wp_lt (wp_lt ?_))
    have htk:(s.data.toList.take (i+1)).all okC=okC s.data.toList[i]:=by
     rw [List.take_add_one,List.getElem?_eq_getElem hil,List.all_append,hall];simp
    refine z0p (λh3=>?_) λh3=>?_
    ·have h3:=(zp7 _).1 h3
     refine zh (zh ?_)
     refine ⟨rfl,?_,hs.tail⟩
     have:z4y s=false:=by
      have:s.data.toList.all okC=false:=by
       rw [<- List.take_append_drop (i+1) s.data.toList,List.all_append,htk,h3];rfl
      simp only [z4y,this,Bool.false_and]
     rw [this]
    ·have h3:okC s.data.toList[i]=true:=by
      cases hk:okC s.data.toList[i] with
      | true=>rfl
      | false=>have:=(zp7 _).2 hk;rw [this] at h3;cases h3
     refine z3f (us':=[.int .i64 ((i+1:Nat):Int)]) (by (try simp (disch:=omega) only [w64]);first|rfl|(congr;omega)) ?_
     refine z0z (s.data.toList.length-(i+1)) ?_
     exact ⟨i+1,rfl,by omega,rfl,by rw [htk,h3],hs⟩
   ·refine zh (zg ⟨?_,hs.tail⟩)
    rwa [List.take_of_length_le (by omega)] at hall
  ·rintro _ w' ⟨hall,hs⟩
   refine zm ?_
   refine ⟨rfl,?_,hs⟩
   have:z4y s=true:=by simp only [z4y,hall,Bool.true_and,Bool.and_eq_true,decide_eq_true_eq];omega
   rw [this]
theorem z06q [hf:Fo l dk d A r] (hs:Sat w l):Ret P F.a30 #[.pointer (some ⟨d,0,none⟩)] w λvs w'=>vs=[.int .i64 (if A.gone then 9 else 0)]/\Sat w' (dk d A::r) :=
 zsc _ <| by
  delta z051 AH AI Aa Am Bd
  obtain ⟨m,FS,hp,hok,hs⟩:=z1w (hs.perm hf.perm)
  refine wp_lt (zw ?_ (by simp))
  (repeat (first|with_reducible (first|refine zm ?_|refine zj ?_|refine z0c ?_|refine za hs ?_|refine zk hs ?_|refine zd ?_|refine zy hs λ_ hs=>?_|refine zt hs λ_ _ hs=>?_|refine zn hs λ_ _ hs=>?_|refine z07 hs λ_ hs=>?_|refine zu hs λ_ hs=>?_)|(apply wp_must;(focus first|trivial|omega|assumption))|refine z14 ?_|refine wp_lt ?_))
  refine ze (λh=>?_) λh=>?_
  ·exact ⟨rfl,by rw [if_pos h],z1u m hp hok hs⟩
  ·exact ⟨rfl,by rw [if_neg h],z1u m hp hok hs⟩
theorem z02g {m:Nat} {n room u:Int} (hn:n<=9223372036854775807 /\ -1<=n) [hf:FocB l d (.cells #[.int .i64 n,.bool false,.int .i64 room,.int .i64 u,.map (some m)] T.a7) r] (hs:Sat w l) :
  Ret P F.a33 #[.pointer (some (Addr.add ⟨d,0,none⟩ 0))] w λvs w'=>vs=[] /\
   Sat w' (pt d (.cells #[.int .i64 (if n>0 then n-1 else n),.bool (if n>0 then decide (n-1=0) else false),.int .i64 room,.int .i64 u,.map (some m)] T.a7)::r) :=
 zsf _ <| by
  delta z054 AF AI AV Aa Ai Am Aq Ay
  have hs:=hs.focB d
  (repeat (first|with_reducible (first|refine zm ?_|refine zj ?_|refine z0c ?_|refine za hs ?_|refine zk hs ?_|refine zd ?_|refine zy hs λ_ hs=>?_|refine zt hs λ_ _ hs=>?_|refine zn hs λ_ _ hs=>?_|refine z07 hs λ_ hs=>?_|refine zu hs λ_ hs=>?_)|(apply wp_must;(focus first|trivial|omega|assumption))|refine z14 ?_|refine wp_lt ?_))
  refine zf (λ_ w'=>Sat w' (pt d (.cells #[.int .i64 (if n>0 then n-1 else n),.bool (if n>0 then decide (n-1=0) else false),.int .i64 room,.int .i64 u,.map (some m)] T.a7)::r)) ?_ ?_
  ·refine ze (λh=>?_) λh=>?_
   ·(repeat (first|with_reducible (first|refine zm ?_|refine zj ?_|refine z0c ?_|refine za hs ?_|refine zk hs ?_|refine zd ?_|refine zy hs λ_ hs=>?_|refine zt hs λ_ _ hs=>?_|refine zn hs λ_ _ hs=>?_|refine z07 hs λ_ hs=>?_|refine zu hs λ_ hs=>?_)|(apply wp_must;(focus first|trivial|omega|assumption))|refine z14 ?_|refine wp_lt ?_))
    refine zg ?_
    rw [if_pos h,if_pos h]
    rw [w64 (x:=n-1) (by omega) (by omega)] at hs
    exact hs
   ·refine zg ?_
    rw [if_neg h,if_neg h];exact hs
  ·rintro _ w' hs
   refine zm ?_
   exact ⟨rfl,rfl,hs⟩
theorem zwf (A:DiskA) (h:A.gone=false):z27 A=⟨A.room,if A.left>0 then A.left-1 else A.left,if A.left>0 then decide (A.left-1=0) else false,A.fs⟩:=by
 unfold z27
 split
 ·rfl
 ·rw [<- h]
theorem z035 [hf:Fo l dk d A r] (hs:Sat w l):Ret P F.a20 #[.pointer (some ⟨d,0,none⟩)] w λvs w'=>vs=[.int .i64 (A.free:Nat)]/\Sat w' (dk d A::r) :=
 zs3 _ <| by
  delta z04s AF AI AL AN Aa Ac Ai Am Aq
  obtain ⟨m,FS,hp,hok,hs⟩:=z1w (hs.perm hf.perm)
  refine zw ?_ (by simp)
  have h1:=hok.room
  have h2:=hok.used
  refine zy hs λw' hs=>?_
  refine zj ?_
  refine za hs ?_
  refine zj ?_
  refine za hs ?_
  refine z0n (y:=(A.free:Nat)) ?_ ?_
  ·have e:IntKind.wrap .i64 ((A.room:Int)-(used A.fs:Nat))=(A.room:Int)-(used A.fs:Nat):=zy5
   rw [e]
   unfold DiskA.free
   split <;> omega
  exact zd ⟨rfl,rfl,z1u m hp hok hs⟩
theorem zuh [hf:Fo l dk d A r] (hs:Sat w l):Ret P F.a22 #[.pointer (some ⟨d,0,none⟩)] w λvs w'=>vs=[.bool A.gone]/\Sat w' (dk d A::r) :=
 zs5 _ <| by
  delta z04u AO Al Am Bc
  obtain ⟨m,FS,hp,hok,hs⟩:=z1w (hs.perm hf.perm)
  (repeat (first|with_reducible (first|refine zm ?_|refine zj ?_|refine z0c ?_|refine za hs ?_|refine zk hs ?_|refine zd ?_|refine zy hs λ_ hs=>?_|refine zt hs λ_ _ hs=>?_|refine zn hs λ_ _ hs=>?_|refine z07 hs λ_ hs=>?_|refine zu hs λ_ hs=>?_)|(apply wp_must;(focus first|trivial|omega|assumption))|refine z14 ?_|refine wp_lt ?_))
  exact ⟨rfl,by simp,z1u m hp hok hs⟩
theorem z037 (n:Int) (hn : -9223372036854775808<=n/\n<=9223372036854775807) [hf:Fo l dk d A r] (hs:Sat w l):Ret P F.a21 #[.pointer (some ⟨d,0,none⟩),.int .i64 n] w λvs w'=>vs=[]/\Sat w' (dk d (zym A n)::r) :=
 zs4 _ n <| by
  delta z04t AI AO AV Aa Ai Am Bc
  obtain ⟨m,FS,hp,hok,hs⟩:=z1w (hs.perm hf.perm)
  refine z0c ?_
  refine za hs ?_
  unfold zym
  refine ze (λh=>?_) λh=>?_
  ·have h:A.gone=true:=by simpa using h
   rw [if_pos h]
   exact ⟨rfl,rfl,z1u m hp hok hs⟩
  ·have h:¬ A.gone=true:=by simpa using h
   rw [if_neg h]
   have e:(if -1>n then -1 else n)=if n<0 then -1 else n:=by split <;> split <;> omega
   rw [e]
   have hok':okA { A with left:=if n<0 then -1 else n,gone:=decide (n=0) }:=⟨hok.room,hok.used,hok.many,by show -1<=(if n<0 then -1 else n)/\(if n<0 then -1 else n)<=9223372036854775807;split <;> omega,hok.sorted,hok.kept,hok.names⟩
   (repeat (first|with_reducible (first|refine zm ?_|refine zj ?_|refine z0c ?_|refine za hs ?_|refine zk hs ?_|refine zd ?_|refine zy hs λ_ hs=>?_|refine zt hs λ_ _ hs=>?_|refine zn hs λ_ _ hs=>?_|refine z07 hs λ_ hs=>?_|refine zu hs λ_ hs=>?_)|(apply wp_must;(focus first|trivial|omega|assumption))|refine z14 ?_|refine wp_lt ?_))
   have eb:(n == 0)=decide (n=0):=by rw [Bool.eq_iff_iff];simp
   rw [eb] at hs
   exact ⟨rfl,rfl,z1u m hp hok' hs⟩
end
theorem z9i {fs:List FileA} {n:ByteArray} (hs:(fs.map (·.name)).Nodup) {f:FileA} (hf:f ∈ fs) (hn:f.name=n):fs.find? (λf=>decide (f.name=n))=some f:=by
 subst hn
 induction fs with
 | nil=>cases hf
 | cons g r ih =>
  rw [List.map_cons,List.nodup_cons] at hs
  rcases List.mem_cons.1 hf with rfl|hf
  ·rw [List.find?_cons_of_pos (by simp)]
  ·rw [List.find?_cons_of_neg (by simp;exact λe=>hs.1 (List.mem_map.2 ⟨f,hf,e.symm⟩))]
   exact ih hs.2 hf
theorem zc1 {fs:List FileA} {n:ByteArray} (h:∀ f ∈ fs,f.name≠n):fs.find? (λf=>decide (f.name=n))=none:=List.find?_eq_none.2 λf hf=>by simpa using h f hf
theorem z01n {fs:List FileA} {n:ByteArray} (hs:(fs.map (·.name)).Nodup) {f:FileA} (hf:f ∈ fs) (hn:f.name=n):zk3 fs n=f.b.length:=by rw [zk3,z9i hs hf hn]
section
variable {w:World} {l r:List HP} {d:Nat} {A:DiskA}
theorem z8b {FS:List FileM} (hp:(FS.map FileM.f).Perm A.fs) {n:ByteArray} {b:Nat} (h:(n,b) ∈ FS.map λt=>(t.f.name,t.at_)):∃ t ∈ FS,t.at_=b/\t.f.name=n/\t.f ∈ A.fs:=by
 obtain ⟨t,ht,he⟩:=List.mem_map.1 h
 simp only [Prod.mk.injEq] at he
 exact ⟨t,ht,he.2,he.1,hp.mem_iff.1 (List.mem_map.2 ⟨t,ht,rfl⟩)⟩
theorem z70 {FS:List FileM} (hp:(FS.map FileM.f).Perm A.fs) {n:ByteArray} (h:∀ b,(n,b) ∉ FS.map λt=>(t.f.name,t.at_)):∀ f ∈ A.fs,f.name≠n:=λf hf e=>by
 obtain ⟨t,ht,rfl⟩:=List.mem_map.1 (hp.mem_iff.2 hf)
 exact h t.at_ (List.mem_map.2 ⟨t,ht,by rw [e]⟩)
theorem apart {FS FS':List FileM} {t:FileM} (hp:(FS.map FileM.f).Perm A.fs) (hok:okA A) (h:FS.Perm (t::FS')) :
  A.fs.Perm (t.f::FS'.map FileM.f)/\(∀ f ∈ FS'.map FileM.f,f.name≠t.f.name)/\t.f ∈ A.fs:=by
 have h1:A.fs.Perm (t.f::FS'.map FileM.f):=hp.symm.trans (h.map FileM.f)
 have h2:((t.f::FS'.map FileM.f).map (·.name)).Nodup:=(h1.map _).nodup_iff.1 (z2i hok.sorted)
 rw [List.map_cons,List.nodup_cons] at h2
 exact ⟨h1,λf hf e=>h2.1 (List.mem_map.2 ⟨f,hf,e⟩),h1.mem_iff.2 (List.mem_cons_self ..)⟩
theorem z00x (x:Sl) (bs:List UInt8) (hb:bs.length<=100000000) [hf:FocR l x 1 (bs.flatMap zi)] (hs:Sat w l):Ret P F.a0 #[x.v] w λvs w'=>∃ z:Sl,vs=[z.v]/\Sat w' (slc T.a59 1 z (bs.flatMap zi)::l) :=
 ziq x <| by
  delta zf0 AR Ai Am
  refine ze (λh=>?_) λh=>?_
  ·have:bs=[]:=by
    obtain ⟨hlen,h0|⟨b,off,arr,T',fr,ha,-⟩⟩:=hf.rd w hs
    ·rw [z3j,h0] at hlen;exact List.length_eq_zero_iff.1 (by omega)
    ·rw [h] at ha;cases ha
   subst this
   exact ⟨rfl,⟨none,0,0⟩,rfl,hs.slc_nil⟩
  ·refine z8q hs ([]:List UInt8) (enc:=zi) bs0 λb w' hs=>?_
   refine wp_app' hs (xs:=([]:List UInt8)) (ys:=bs) (enc:=zi) (λz w' hs=>?_) (by simp;omega)
   exact ⟨rfl,z,rfl,hs⟩
theorem zfo (n:ByteArray) [hf:Fo l dk d A r] (hs:Sat w l):Ret P F.a24 #[.pointer (some ⟨d,0,none⟩),.string n] w λvs w' =>
  (∃ f ∈ A.fs,f.name=n/\∃ z:Sl,vs=[z.v,.int .i64 0]/\Sat w' (slc T.a59 1 z (f.b.flatMap zi)::dk d A::r))\/((∀ f ∈ A.fs,f.name≠n)/\vs=[.slice none 0 0,.int .i64 3]/\Sat w' (dk d A::r)) :=
 zs6 _ n <| by
  delta z04v AI Aa Ai Am Az B2 Bn Bp
  obtain ⟨m,FS,hp,hok,hs⟩:=z1w (hs.perm hf.perm)
  refine zw ?_ (by simp)
  (repeat (first|with_reducible (first|refine zm ?_|refine zj ?_|refine z0c ?_|refine za hs ?_|refine zk hs ?_|refine zd ?_|refine zy hs λ_ hs=>?_|refine zt hs λ_ _ hs=>?_|refine zn hs λ_ _ hs=>?_|refine z07 hs λ_ hs=>?_|refine zu hs λ_ hs=>?_)|(apply wp_must;(focus first|trivial|omega|assumption))|refine z14 ?_|refine wp_lt ?_))
  refine z6w hs (λb hb=>?_) λhb=>?_
  ·obtain ⟨t,ht,rfl,rfl,hA⟩:=z8b hp hb
   obtain ⟨FS',hpm,hs⟩:=z6o hs ht
   refine zw ?_ (by simp)
   (repeat (first|with_reducible (first|refine zm ?_|refine zj ?_|refine z0c ?_|refine za hs ?_|refine zk hs ?_|refine zd ?_|refine zy hs λ_ hs=>?_|refine zt hs λ_ _ hs=>?_|refine zn hs λ_ _ hs=>?_|refine z07 hs λ_ hs=>?_|refine zu hs λ_ hs=>?_)|(apply wp_must;(focus first|trivial|omega|assumption))|refine z14 ?_|refine wp_lt ?_))
   have hlen:t.f.b.length<=4194304:=Nat.le_trans (z7k hA) hok.used
   refine z8 (z00x t.x t.f.b (by omega) hs) λ_ _ hs=>?_
   obtain ⟨z,rfl,hs⟩:=hs
   refine zb ?_
   (repeat (first|with_reducible (first|refine zm ?_|refine zj ?_|refine z0c ?_|refine za hs ?_|refine zk hs ?_|refine zd ?_|refine zy hs λ_ hs=>?_|refine zt hs λ_ _ hs=>?_|refine zn hs λ_ _ hs=>?_|refine z07 hs λ_ hs=>?_|refine zu hs λ_ hs=>?_)|(apply wp_must;(focus first|trivial|omega|assumption))|refine z14 ?_|refine wp_lt ?_))
   refine ⟨rfl,.inl ⟨t.f,hA,rfl,z,rfl,?_⟩⟩
   have hs:=(z60 t hs).all_perm (hpm.symm.map z39)
   have hs:=z1u (d:=d) (A:=A) (l':=slc T.a59 1 z (t.f.b.flatMap zi)::r) m hp hok hs
   exact hs.sub
  ·refine z0q ?_ (by rfl)
   exact ⟨rfl,.inr ⟨z70 hp hb,rfl,z1u m hp hok hs⟩⟩
def z8g (fs:List FileA) (n:ByteArray):Nat × Nat:=match fs.find? λf=>decide (f.name=n) with
 | some f=>(f.b.length,f.kept)
 | none=>(0,0)
theorem z07g (n:ByteArray) [hf:Fo l dk d A r] (hs:Sat w l):Ret P F.a28 #[.pointer (some ⟨d,0,none⟩),.string n] w λvs w' =>
  ∃ x:Sl,vs=[.agg [x.v,.int .i64 (z8g A.fs n).2].toArray]/\x.len=(z8g A.fs n).1/\Sat w' (dk d A::r) :=
 zsa _ n <| by
  delta z04z AI AO Aa Ad Ae Ai Am B2 B5 B6 Bn By
  obtain ⟨m,FS,hp,hok,hs⟩:=z1w (hs.perm hf.perm)
  (repeat (first|with_reducible (first|refine zm ?_|refine zj ?_|refine z0c ?_|refine za hs ?_|refine zk hs ?_|refine zd ?_|refine zy hs λ_ hs=>?_|refine zt hs λ_ _ hs=>?_|refine zn hs λ_ _ hs=>?_|refine z07 hs λ_ hs=>?_|refine zu hs λ_ hs=>?_)|(apply wp_must;(focus first|trivial|omega|assumption))|refine z14 ?_|refine wp_lt ?_))
  refine z6w hs (λb hb=>?_) λhb=>?_
  ·obtain ⟨t,ht,rfl,rfl,hA⟩:=z8b hp hb
   refine zw ?_ (by simp)
   (repeat (first|with_reducible (first|refine zm ?_|refine zj ?_|refine z0c ?_|refine za hs ?_|refine zk hs ?_|refine zd ?_|refine zy hs λ_ hs=>?_|refine zt hs λ_ _ hs=>?_|refine zn hs λ_ _ hs=>?_|refine z07 hs λ_ hs=>?_|refine zu hs λ_ hs=>?_)|(apply wp_must;(focus first|trivial|omega|assumption))|refine z14 ?_|refine wp_lt ?_))
   refine z6w hs (λb2 hb2=>?_) λhb2=>absurd hb (hb2 _)
   obtain ⟨t2,ht2,rfl,hn2,hA2⟩:=z8b hp hb2
   obtain ⟨FS',hpm,hs⟩:=z6o hs ht2
   (repeat (first|with_reducible (first|refine zm ?_|refine zj ?_|refine z0c ?_|refine za hs ?_|refine zk hs ?_|refine zd ?_|refine zy hs λ_ hs=>?_|refine zt hs λ_ _ hs=>?_|refine zn hs λ_ _ hs=>?_|refine z07 hs λ_ hs=>?_|refine zu hs λ_ hs=>?_)|(apply wp_must;(focus first|trivial|omega|assumption))|refine z14 ?_|refine wp_lt ?_))
   refine ⟨rfl,t2.x,?_,?_,?_⟩
   ·rw [z8g,z9i (z2i hok.sorted) hA2 hn2]
   ·rw [z8g,z9i (z2i hok.sorted) hA2 hn2];exact hs.slen t2.x
   ·have hs:=(z60 t2 hs).all_perm (hpm.symm.map z39)
    exact z1u m hp hok hs
  ·refine z0q ?_ (by simp)
   (repeat (first|with_reducible (first|refine zm ?_|refine zj ?_|refine z0c ?_|refine za hs ?_|refine zk hs ?_|refine zd ?_|refine zy hs λ_ hs=>?_|refine zt hs λ_ _ hs=>?_|refine zn hs λ_ _ hs=>?_|refine z07 hs λ_ hs=>?_|refine zu hs λ_ hs=>?_)|(apply wp_must;(focus first|trivial|omega|assumption))|refine z14 ?_|refine wp_lt ?_))
   refine ⟨rfl,⟨none,0,0⟩,?_,?_,z1u m hp hok hs⟩
   ·rw [z8g,zc1 (z70 hp hb)];rfl
   ·rw [z8g,zc1 (z70 hp hb)]
theorem z042 (n:ByteArray) [hf:Fo l dk d A r] (hs:Sat w l):Ret P F.a26 #[.pointer (some ⟨d,0,none⟩),.string n] w λvs w'=>vs=[.int .i64 (z8g A.fs n).1]/\Sat w' (dk d A::r) :=
 zs8 _ n <| by
  delta z04x AB Aa Ac Ah Am
  refine z8 (z07g n hs) λ_ _ hs=>?_
  obtain ⟨x,rfl,hx,hs⟩:=hs
  refine zb ?_
  rw [hx]
  (repeat (first|with_reducible (first|refine zm ?_|refine zj ?_|refine z0c ?_|refine za hs ?_|refine zk hs ?_|refine zd ?_|refine zy hs λ_ hs=>?_|refine zt hs λ_ _ hs=>?_|refine zn hs λ_ _ hs=>?_|refine z07 hs λ_ hs=>?_|refine zu hs λ_ hs=>?_)|(apply wp_must;(focus first|trivial|omega|assumption))|refine z14 ?_|refine wp_lt ?_))
  exact ⟨rfl,rfl,hs⟩
end
theorem zqe {fs fs':List FileA} {f:FileA} (hp:fs.Perm (f::fs')) (hne:∀ g ∈ fs',g.name≠f.name):(z3m f.name fs).Perm fs':=by
 have h1:=hp.filter λg=>!decide (g.name=f.name)
 rw [List.filter_cons_of_neg (by simp)] at h1
 have h2:fs'.filter (λg=>!decide (g.name=f.name))=fs':=List.filter_eq_self.2 λg hg=>by simpa using hne g hg
 rw [h2] at h1
 exact h1
theorem zqd {fs:List FileA} {n:ByteArray} (h:∀ f ∈ fs,f.name≠n):z3m n fs=fs:=List.filter_eq_self.2 λg hg=>by simpa using h g hg
theorem z6e {fs fs':List FileA} {f:FileA} {g:FileA->FileA} (hp:fs.Perm (f::fs')) (hne:∀ g ∈ fs',g.name≠f.name):(fs.map (z1k f.name g)).Perm (g f::fs'):=by
 have h1:=hp.map (z1k f.name g)
 rw [List.map_cons] at h1
 have h2:fs'.map (z1k f.name g)=fs':=by
  conv=>rhs;rw [<- List.map_id fs']
  exact List.map_congr_left λx hx=>by rw [z1k,if_neg (hne x hx)];rfl
 rw [h2,z1k,if_pos rfl] at h1
 exact h1
theorem z5w {n:ByteArray} {g:FileA->FileA} (hg:∀ f,(g f).name=f.name) (f:FileA):(z1k n g f).name=f.name:=by
 unfold z1k;split
 ·exact hg f
 ·rfl
theorem z8h {fs:List FileA} {g:FileA->FileA} (hg:∀ f,(g f).name=f.name) (h:fs.Pairwise λa b=>ltS a.name b.name=true):(fs.map g).Pairwise λa b=>ltS a.name b.name=true:=by
 rw [List.pairwise_map]
 exact h.imp λ{a b} hab=>by rw [hg,hg];exact hab
theorem zl3 {fs:List FileA} (n:ByteArray) (h:fs.Pairwise λa b=>ltS a.name b.name=true):(z3m n fs).Pairwise λa b=>ltS a.name b.name=true:=h.filter _
theorem zhy {fs:List FileA} {n:ByteArray} {f:FileA}:f ∈ z3m n fs↔f ∈ fs/\f.name≠n:=by simp [z3m,List.mem_filter]
theorem z5r (x:FileA):∀ fs:List FileA,(z3t x fs).Perm (x::fs)
 | []=>.refl _
 | f::r=>by
  rw [z3t];split
  ·exact .refl _
  ·exact (List.Perm.cons f (z5r x r)).trans (.swap _ _ _)
theorem ze9 {x f:FileA} {fs:List FileA}:f ∈ z3t x fs↔f=x\/f ∈ fs:=by rw [(z5r x fs).mem_iff,List.mem_cons]
theorem zdm (x:FileA):∀ {fs:List FileA},(∀ f ∈ fs,f.name≠x.name)->(fs.Pairwise λa b=>ltS a.name b.name=true)->(z3t x fs).Pairwise λa b=>ltS a.name b.name=true
 | [],_,_=>by simp [z3t]
 | f::r,hne,h=>by
  rw [List.pairwise_cons] at h
  rw [z3t];split
  ·rename_i hlt
   rw [List.pairwise_cons]
   refine ⟨λg hg=>?_,by rw [List.pairwise_cons];exact h⟩
   rcases List.mem_cons.1 hg with rfl|hg
   ·exact hlt
   ·exact zhw hlt (h.1 g hg)
  ·rename_i hlt
   rw [List.pairwise_cons]
   refine ⟨λg hg=>?_,zdm x (λg hg=>hne g (List.mem_cons_of_mem _ hg)) h.2⟩
   rcases ze9.1 hg with rfl|hg
   ·rcases zuv f.name g.name with h1|h1|h1
    ·exact h1
    ·exact absurd h1 (hne f (List.mem_cons_self ..))
    ·exact absurd h1 hlt
   ·exact h.1 g hg
theorem z8y {A:DiskA} (h:okA A):okA (z27 A):=by
 unfold z27
 split
 ·exact ⟨h.room,h.used,h.many,by have:=h.left;show -1<=A.left-1/\A.left-1<=_;omega,h.sorted,h.kept,h.names⟩
 ·exact h
theorem z36 (A:DiskA):(z27 A).fs=A.fs:=by unfold z27;split <;> rfl
theorem z8a (A:DiskA):(z27 A).room=A.room:=by unfold z27;split <;> rfl
section
variable {w:World} {l r:List HP} {d:Nat} {A:DiskA}
theorem zb7 {m:Nat} {FS:List FileM} {fs':List FileA} {room left u:Int} {r1 r2 r3 l':List HP} (hg:A.gone=false) (hok':okA { A with fs:=fs' }) (hp:(FS.map FileM.f).Perm fs') (hs:Sat w l)
  [h1:FocB l d (.cells [.int .i64 left,.bool false,.int .i64 room,.int .i64 u,.map (some m)].toArray T.a7) r1] [h2:FoM r1 m ekS evF (FS.map λt=>(t.f.name,t.at_)) r2] [h3:Foc r2 (HP.all (FS.map z39)) r3] [h4:Sub r3 l']
  (hu:u=(used fs':Nat):=by rfl) (hl:left=A.left:=by rfl) (hr:room=A.room:=by rfl) :
  Ret P F.a33 #[.pointer (some (Addr.add ⟨d,0,none⟩ 0))] w λvs w'=>vs=[]/\Sat w' (dk d (z27 { A with fs:=fs' })::l'):=by
 subst hu hl hr
 have hl:=hok'.left
 refine Calls.mono (z02g (d:=d) (m:=m) ⟨hl.2,hl.1⟩ hs) λe w' ⟨vs,he,hv,hs⟩=>⟨vs,he,hv,?_⟩
 have hd:=zwf { A with fs:=fs' } hg
 rw [hd]
 have hok2:=z8y hok'
 rw [hd] at hok2
 exact z1u m (A:=⟨A.room,if A.left>0 then A.left-1 else A.left,if A.left>0 then decide (A.left-1=0) else false,fs'⟩) hp hok2 hs
theorem z02y (n:ByteArray) (m:Nat) {FS:List FileM} (hp:(FS.map FileM.f).Perm A.fs) (hok:okA A)
  (hs:Sat w (pt d (.cells #[.int .i64 A.left,.bool A.gone,.int .i64 A.room,.int .i64 (used A.fs),.map (some m)] T.a7)::z18 ekS evF m (FS.map λt=>(t.f.name,t.at_))::HP.all (FS.map z39)::r)) :
  Ret P F.a29 #[.pointer (some ⟨d,0,none⟩),.string n] w λvs w'=>vs=[]/\∃ FS':List FileM,(FS'.map FileM.f).Perm (z3m n A.fs)/\(∀ t ∈ FS',t ∈ FS/\t.f.name≠n)/\(∀ t ∈ FS,t.f.name≠n->t ∈ FS') /\
   Sat w' (pt d (.cells #[.int .i64 A.left,.bool A.gone,.int .i64 A.room,.int .i64 (used (z3m n A.fs)),.map (some m)] T.a7)::z18 ekS evF m (FS'.map λt=>(t.f.name,t.at_))::HP.all (FS'.map z39)::r) :=
 zsb _ n <| by
  delta z050 AB AF AI AL AN AV Aa Ai Am Aq Ay B2 Bn Bp
  (repeat (first|with_reducible (first|refine zm ?_|refine zj ?_|refine z0c ?_|refine za hs ?_|refine zk hs ?_|refine zd ?_|refine zy hs λ_ hs=>?_|refine zt hs λ_ _ hs=>?_|refine zn hs λ_ _ hs=>?_|refine z07 hs λ_ hs=>?_|refine zu hs λ_ hs=>?_)|(apply wp_must;(focus first|trivial|omega|assumption))|refine z14 ?_|refine wp_lt ?_))
  refine z6w hs (λb hb=>?_) λhb=>?_
  ·obtain ⟨t,ht,rfl,rfl,hA⟩:=z8b hp hb
   obtain ⟨FS',hpm,hs⟩:=z6o hs ht
   obtain ⟨h1,h2,-⟩:=apart hp hok hpm
   have hd:=zqe h1 h2
   have hu:used A.fs=t.f.b.length+used (z3m t.f.name A.fs):=by rw [z3g h1,z1d,z3g hd]
   have h3:=hok.used
   refine z4q ?_
   refine z0q ?_ (by simp)
   refine zy hs λw' hs=>?_
   refine zj ?_
   refine za hs ?_
   refine zj ?_
   refine za hs ?_
   rw [hs.slen t.x (xs:=t.f.b) (enc:=zi),zy5 (y:=(used (z3m t.f.name A.fs):Nat))]
   (repeat (first|with_reducible (first|refine zm ?_|refine zj ?_|refine z0c ?_|refine za hs ?_|refine zk hs ?_|refine zd ?_|refine zy hs λ_ hs=>?_|refine zt hs λ_ _ hs=>?_|refine zn hs λ_ _ hs=>?_|refine z07 hs λ_ hs=>?_|refine zu hs λ_ hs=>?_)|(apply wp_must;(focus first|trivial|omega|assumption))|refine z14 ?_|refine wp_lt ?_))
   refine zpx hs (FS'.map λt=>(t.f.name,t.at_)) (.inl ⟨t.at_,hpm.map _⟩) λw' hs=>?_
   refine z3q ?_
   refine ⟨rfl,rfl,FS',hd.symm,λt' ht'=>⟨hpm.mem_iff.2 (List.mem_cons_of_mem _ ht'),h2 _ (List.mem_map.2 ⟨t',ht',rfl⟩)⟩,λt' ht' hne=>?_,hs.sub⟩
   rcases List.mem_cons.1 (hpm.mem_iff.1 ht') with rfl|h
   ·exact absurd rfl hne
   ·exact h
  ·have hn:=z70 hp hb
   refine z4q ?_
   refine zw ?_ (by simp)
   refine z3q ?_
   rw [zqd hn]
   exact ⟨rfl,rfl,FS,hp,λt ht=>⟨ht,hn _ (hp.mem_iff.1 (List.mem_map.2 ⟨t,ht,rfl⟩))⟩,λt ht _=>ht,hs⟩
theorem zx2 {A:DiskA} (h:okA A) (n:ByteArray):okA { A with fs:=z3m n A.fs }:=by
 have hle:used (z3m n A.fs)<=used A.fs:=by
  have:∀ fs:List FileA,used (z3m n fs)<=used fs:=λfs=>by
   induction fs with
   | nil=>exact Nat.le_refl _
   | cons f r ih =>
    unfold z3m at *
    rw [z1d,List.filter_cons]
    split
    ·rw [z1d];omega
    ·omega
  exact this _
 exact ⟨h.room,Nat.le_trans hle h.used,Nat.le_trans (List.length_filter_le _ _) h.many,h.left,zl3 n h.sorted,λf hf=>h.kept f (zhy.1 hf).1,λf hf=>h.names f (zhy.1 hf).1⟩
theorem zfh {k:Prog} {Q:List Value->World->Prop} (hs:Sat w l) [hf:Fo l dk d A r] (h1:A.gone=true->∀ w',Sat w' (dk d A::r)->Q [.int .i64 9] w') (h0:A.gone=false->∀ w',Sat w' (dk d A::r)->k.wp P tt w' λe vs w=>e=0/\Q vs w) :
  (Prog.call F.a30 [.pointer (some ⟨d,0,none⟩)] (sI .i64) (u1 λ(n0:Int)=>.lt (.int .i64) (n0) λ(n1:Int)=>.ite (n1 != 0) (.lt (.int .i64) (n1) λ(n2:Int)=>.done 0 [.int .i64 n2]) k)).wp P tt w λe vs w=>e=0/\Q vs w:=by
 refine z8 (z06q hs) λ_ _ hs=>?_
 obtain ⟨rfl,hs⟩:=hs
 refine zb ?_
 refine wp_lt ?_
 by_cases hg:A.gone=true
 ·rw [if_pos hg]
  refine z0q ?_ (by decide)
  exact wp_lt ⟨rfl,h1 hg _ hs⟩
 ·rw [if_neg hg]
  refine zw ?_ (by decide)
  exact h0 (by simpa using hg) _ hs
theorem zb3 (n:ByteArray) [hf:Fo l dk d A r] (hs:Sat w l):Ret P F.a25 #[.pointer (some ⟨d,0,none⟩),.string n] w λvs w'=>vs=[.int .i64 (z0y A n).1]/\Sat w' (dk d (z0y A n).2::r) :=
 zs7 _ n <| by
  delta z04w AI Aa Ac Ah Ai Am Ao Ax B1 B2 Bn;unfold z0y
  refine zfh hs (λhg w' hs=>?_) λhg w' hs=>?_
  ·rw [if_pos hg];exact ⟨rfl,hs⟩
  rw [if_neg (by rw [hg];simp)]
  obtain ⟨m,FS,hp,hok,hs⟩:=z1w hs
  (repeat (first|with_reducible (first|refine zm ?_|refine zj ?_|refine z0c ?_|refine za hs ?_|refine zk hs ?_|refine zd ?_|refine zy hs λ_ hs=>?_|refine zt hs λ_ _ hs=>?_|refine zn hs λ_ _ hs=>?_|refine z07 hs λ_ hs=>?_|refine zu hs λ_ hs=>?_)|(apply wp_must;(focus first|trivial|omega|assumption))|refine z14 ?_|refine wp_lt ?_))
  refine z6w hs (λb hb=>?_) λhb=>?_
  ·obtain ⟨t,ht,rfl,rfl,hA⟩:=z8b hp hb
   refine zw ?_ (by simp)
   rw [if_neg (by rw [z5n.2 ⟨_,hA,rfl⟩];simp)]
   refine z8 (z02y t.f.name m hp hok hs) λ_ _ hs=>?_
   obtain ⟨rfl,FS',hp',-,-,hs⟩:=hs
   refine zb ?_
   (repeat (first|with_reducible (first|refine zm ?_|refine zj ?_|refine z0c ?_|refine za hs ?_|refine zk hs ?_|refine zd ?_|refine zy hs λ_ hs=>?_|refine zt hs λ_ _ hs=>?_|refine zn hs λ_ _ hs=>?_|refine z07 hs λ_ hs=>?_|refine zu hs λ_ hs=>?_)|(apply wp_must;(focus first|trivial|omega|assumption))|refine z14 ?_|refine wp_lt ?_))
   rw [hg] at hs
   refine z8 (zb7 (l':=r) hg (zx2 hok t.f.name) hp' hs) λ_ _ hs=>?_
   obtain ⟨rfl,hs⟩:=hs
   refine zb ?_
   (repeat (first|with_reducible (first|refine zm ?_|refine zj ?_|refine z0c ?_|refine za hs ?_|refine zk hs ?_|refine zd ?_|refine zy hs λ_ hs=>?_|refine zt hs λ_ _ hs=>?_|refine zn hs λ_ _ hs=>?_|refine z07 hs λ_ hs=>?_|refine zu hs λ_ hs=>?_)|(apply wp_must;(focus first|trivial|omega|assumption))|refine z14 ?_|refine wp_lt ?_))
   exact ⟨rfl,rfl,hs⟩
  ·refine z0q ?_ (by rfl)
   rw [if_pos (z5o.2 (z70 hp hb))]
   exact ⟨rfl,rfl,z1u m hp hok hs⟩
theorem zba {fs fs':List FileA} {f:FileA} {g:FileA->FileA} (hp:fs.Perm (f::fs')) (hne:∀ g ∈ fs',g.name≠f.name):used (fs.map (z1k f.name g))=(g f).b.length+used fs':=by
 rw [z3g (z6e hp hne),z1d]
theorem z06j (n:ByteArray) (k:Int) [hf:Fo l dk d A r] (hs:Sat w l):Ret P F.a19 #[.pointer (some ⟨d,0,none⟩),.string n,.int .i64 k] w λvs w'=>vs=[.int .i64 (cutA' A n k).1]/\Sat w' (dk d (cutA' A n k).2::r) :=
 zs2 _ n k <| by
  delta z04r AB AF AH AI AL AN AO AV Aa Ac Ah Ai Am Ao Aq Ax B1 B2 Bn Bp Bx;unfold cutA'
  refine zfh hs (λhg w' hs=>?_) λhg w' hs=>?_
  ·rw [if_pos hg];exact ⟨rfl,hs⟩
  rw [if_neg (by rw [hg];simp)]
  obtain ⟨m,FS,hp,hok,hs⟩:=z1w hs
  (repeat (first|with_reducible (first|refine zm ?_|refine zj ?_|refine z0c ?_|refine za hs ?_|refine zk hs ?_|refine zd ?_|refine zy hs λ_ hs=>?_|refine zt hs λ_ _ hs=>?_|refine zn hs λ_ _ hs=>?_|refine z07 hs λ_ hs=>?_|refine zu hs λ_ hs=>?_)|(apply wp_must;(focus first|trivial|omega|assumption))|refine z14 ?_|refine wp_lt ?_))
  refine z6w hs (λb hb=>?_) λhb=>?_
  ·obtain ⟨t,ht,rfl,rfl,hA⟩:=z8b hp hb
   refine wp_lt ?_
   refine zw ?_ (by simp)
   rw [if_neg (by rw [z5n.2 ⟨_,hA,rfl⟩];simp),z01n (z2i hok.sorted) hA rfl]
   obtain ⟨FS',hpm,hs⟩:=z6o hs ht
   obtain ⟨h1,h2,-⟩:=apart hp hok hpm
   have hlen:=hs.slen t.x (xs:=t.f.b) (enc:=zi)
   have hcap:=(hs.focS t.x).slc_cap
   (repeat (first|with_reducible (first|refine zm ?_|refine zj ?_|refine z0c ?_|refine za hs ?_|refine zk hs ?_|refine zd ?_|refine zy hs λ_ hs=>?_|refine zt hs λ_ _ hs=>?_|refine zn hs λ_ _ hs=>?_|refine z07 hs λ_ hs=>?_|refine zu hs λ_ hs=>?_)|(apply wp_must;(focus first|trivial|omega|assumption))|refine z14 ?_|refine wp_lt ?_))
   refine ze (λh=>?_) λh=>?_
   ·rw [if_pos (by omega)]
    have hs:=(z60 t hs).all_perm (hpm.symm.map z39)
    exact ⟨rfl,rfl,z1u m hp hok hs⟩
   ·rw [if_neg (by omega)]
    obtain ⟨k,rfl⟩:∃ j:Nat,k=j:=⟨k.toNat,by omega⟩
    rw [Int.toNat_natCast]
    have hk:k<=t.f.b.length:=by omega
    have hu0:used A.fs=t.f.b.length+used (FS'.map FileM.f):=by rw [z3g h1,z1d]
    have hu1:=zba (g:=λf=>{ f with b:=f.b.take k,kept:=min f.kept k }) h1 h2
    have hu2:used (A.fs.map (z1k t.f.name λf=>{ f with b:=f.b.take k,kept:=min f.kept k }))=k+used (FS'.map FileM.f):=by
     rw [hu1];show (t.f.b.take k).length+_=_;rw [List.length_take,Nat.min_eq_left hk]
    have hou:=hok.used
    refine zy hs λw' hs=>?_
    refine zj ?_
    refine za hs ?_
    refine zj ?_
    refine za hs ?_
    have e1:IntKind.wrap .i64 ((used A.fs:Nat)-IntKind.wrap .i64 (((t.x.len:Nat):Int)-(k:Int)))=(used (A.fs.map (z1k t.f.name λf=>{ f with b:=f.b.take k,kept:=min f.kept k })):Nat):=by
     rw [w64 (x:=((t.x.len:Nat):Int)-(k:Int)) (by omega) (by omega),w64 (by omega) (by omega)];omega
    rw [e1]
    (repeat (first|with_reducible (first|refine zm ?_|refine zj ?_|refine z0c ?_|refine za hs ?_|refine zk hs ?_|refine zd ?_|refine zy hs λ_ hs=>?_|refine zt hs λ_ _ hs=>?_|refine zn hs λ_ _ hs=>?_|refine z07 hs λ_ hs=>?_|refine zu hs λ_ hs=>?_)|(apply wp_must;(focus first|trivial|omega|assumption))|refine z14 ?_|refine wp_lt ?_))
    have hs:=(hs.focS t.x).slc_cut (n:=k) (by omega)
    rw [z9s] at hs
    have e2:(if (k:Int)<((t.f.kept:Nat):Int) then (k:Int) else ((t.f.kept:Nat):Int))=((min t.f.kept k:Nat):Int):=by split <;> omega
    rw [e2] at hs
    have hs:=z60 (FS:=FS') ⟨t.at_,⟨t.x.a,k,k⟩,⟨t.f.name,t.f.b.take k,min t.f.kept k⟩⟩ hs
    have hp':(((⟨t.at_,⟨t.x.a,k,k⟩,⟨t.f.name,t.f.b.take k,min t.f.kept k⟩⟩:FileM)::FS').map FileM.f).Perm (A.fs.map (z1k t.f.name λf=>{ f with b:=f.b.take k,kept:=min f.kept k })) :=
     (z6e (g:=λf=>{ f with b:=f.b.take k,kept:=min f.kept k }) h1 h2).symm
    have hok':okA { A with fs:=A.fs.map (z1k t.f.name λf=>{ f with b:=f.b.take k,kept:=min f.kept k }) }:=by
     refine ⟨hok.room,by show used (A.fs.map _)<=_;omega,by show (A.fs.map _).length<=_;rw [List.length_map];exact hok.many,hok.left,z8h (z5w λ_=>rfl) hok.sorted,λf hf=>?_,λf hf=>?_⟩
     rotate_left
     ·obtain ⟨g,hg,rfl⟩:=List.mem_map.1 hf
      rw [z5w (by intro _;rfl)];exact hok.names g hg
     obtain ⟨g,hg,rfl⟩:=List.mem_map.1 hf
     have:=hok.kept g hg
     unfold z1k
     split
     ·show min g.kept k<=(g.b.take k).length;rw [List.length_take];omega
     ·exact this
    have hs:Sat _ (z18 ekS evF m (((⟨t.at_,⟨t.x.a,k,k⟩,⟨t.f.name,t.f.b.take k,min t.f.kept k⟩⟩:FileM)::FS').map λt=>(t.f.name,t.at_))::_):=(hs.pick [2]).mapPerm (hpm.map λt=>(t.f.name,t.at_))
    rw [hg] at hs
    refine z8 (zb7 (l':=r) hg hok' hp' hs) λ_ _ hs=>?_
    obtain ⟨rfl,hs⟩:=hs
    refine zb ?_
    (repeat (first|with_reducible (first|refine zm ?_|refine zj ?_|refine z0c ?_|refine za hs ?_|refine zk hs ?_|refine zd ?_|refine zy hs λ_ hs=>?_|refine zt hs λ_ _ hs=>?_|refine zn hs λ_ _ hs=>?_|refine z07 hs λ_ hs=>?_|refine zu hs λ_ hs=>?_)|(apply wp_must;(focus first|trivial|omega|assumption))|refine z14 ?_|refine wp_lt ?_))
    exact ⟨rfl,rfl,hs⟩
  ·refine wp_lt ?_
   refine z0q ?_ (by rfl)
   rw [if_pos (z5o.2 (z70 hp hb))]
   exact ⟨rfl,rfl,z1u m hp hok hs⟩
end
section
variable {w:World} {l r:List HP} {d:Nat} {A:DiskA}
theorem zr1 {s:ByteArray} (h:z4y s=true):s.size<=24:=by
 simp only [z4y,Bool.and_eq_true,decide_eq_true_eq] at h;exact h.2.2
theorem zu7 (n:ByteArray) (fs:List FileA):(z3m n fs).length<=fs.length:=List.length_filter_le _ _
end
def z5p (n:Nat):UInt8:=if n<10 then UInt8.ofNat (48+n) else UInt8.ofNat (87+n)
def z5q (c:UInt8):Option Nat:=if 48<=c.toNat/\c.toNat<=57 then some (c.toNat-48) else if 97<=c.toNat/\c.toNat<=102 then some (c.toNat-87) else none
theorem z03a {n:Nat} (h:n<16):z5q (z5p n)=some n:=by
 unfold z5p z5q
 split
 ·rw [UInt8.toNat_ofNat',if_pos (by omega)]
  congr 1;omega
 ·rw [UInt8.toNat_ofNat',if_neg (by omega),if_pos (by omega)]
  congr 1;omega
theorem z039 {c:UInt8} {n:Nat} (h:z5q c=some n):z5p n=c/\n<16:=by
 unfold z5q at h
 unfold z5p
 split at h
 ·simp only [Option.some.injEq] at h
  subst h
  rw [if_pos (by omega)]
  exact ⟨UInt8.toNat_inj.1 (by rw [UInt8.toNat_ofNat'];omega),by omega⟩
 ·split at h
  ·simp only [Option.some.injEq] at h
   subst h
   rw [if_neg (by omega)]
   exact ⟨UInt8.toNat_inj.1 (by rw [UInt8.toNat_ofNat'];omega),by omega⟩
  ·cases h
def z2n:Nat->Nat->List UInt8
 | 0,_=>[]
 | k+1,n=>z2n k (n / 16)++[z5p (n % 16)]
def z3b (x:Nat):List UInt8->Option Nat
 | []=>some x
 | c::r=>match z5q c with
  | none=>none
  | some d=>z3b (16*x+d) r
theorem z6k:∀ (k n:Nat),(z2n k n).length=k
 | 0,_=>rfl
 | k+1,n=>by unfold z2n;rw [List.length_append,z6k k];rfl
theorem ze1 (x:Nat) (a b:List UInt8):z3b x (a++b)=(z3b x a).bind λy=>z3b y b:=by
 induction a generalizing x with
 | nil=>rfl
 | cons c r ih =>
  rw [List.cons_append]
  cases hd:z5q c with
  | none=>simp only [z3b,hd];rfl
  | some d=>simp only [z3b,hd];exact ih _
theorem zfc:∀ (k n x:Nat),z3b x (z2n k n)=some (x*16 ^ k+n % 16 ^ k)
 | 0,n,x=>by simp [z2n,z3b,Nat.mod_one]
 | k+1,n,x=>by
  unfold z2n
  rw [ze1,zfc k]
  show z3b _ [z5p (n % 16)]=_
  unfold z3b
  rw [z03a (Nat.mod_lt _ (by omega))]
  show some _=some _
  congr 1
  have h1:n % 16 ^ (k+1)=16*(n / 16 % 16 ^ k)+n % 16:=by
   rw [Nat.pow_succ,Nat.mul_comm (16 ^ k) 16,Nat.mod_mul];omega
  have h2:x*16 ^ (k+1)=16*(x*16 ^ k):=by rw [Nat.pow_succ];ac_rfl
  omega
def zv:List UInt8:=[46,108,111,103]
def z7e:List UInt8:=[46,110,101,119]
def zl (pre:ByteArray) (base:Int) (x:List UInt8):ByteArray:=⟨(bl pre++(45::(z2n 11 base.toNat++x))).toArray⟩
def z19 (pre n:ByteArray) (x:List UInt8):Option Nat :=
 if (bl n).length=(bl pre).length+1+11+x.length/\(bl n).drop ((bl pre).length+1+11)=x then z3b 0 (((bl n).drop ((bl pre).length+1)).take 11) else none
def z15 (pre:ByteArray):ByteArray:=⟨(bl pre++[45]).toArray⟩
def zk6 (pre n:ByteArray) (x:List UInt8):Option Nat:=if (bl (z15 pre)).isPrefixOf (bl n) then z19 pre n x else none
theorem z78 (pre:ByteArray) (base:Int) (x:List UInt8):bl (zl pre base x)=bl pre++(45::(z2n 11 base.toNat++x)):=zeq _
theorem zg9 (pre:ByteArray):bl (z15 pre)=bl pre++[45]:=zeq _
theorem z48 (pre:ByteArray) (base:Int) (x:List UInt8):(bl (z15 pre)).isPrefixOf (bl (zl pre base x))=true:=by
 rw [z78,zg9,List.isPrefixOf_iff_prefix]
 exact ⟨z2n 11 base.toNat++x,by simp⟩
theorem zd7 (pre:ByteArray) {base:Int} (h:0<=base/\base<17592186044416) (x:List UInt8):z19 pre (zl pre base x) x=some base.toNat:=by
 have hl:=z6k 11 base.toNat
 have e1:(bl (zl pre base x)).drop ((bl pre).length+1)=z2n 11 base.toNat++x:=by
  rw [z78,<- List.drop_drop,List.drop_left]
  rfl
 have e2:(bl (zl pre base x)).drop ((bl pre).length+1+11)=x:=by
  rw [<- List.drop_drop,e1]
  exact List.drop_left' hl
 unfold z19
 rw [e1,e2,if_pos ⟨by rw [z78];simp [hl];omega,rfl⟩,List.take_left' hl,zfc,Nat.zero_mul,Nat.zero_add,Nat.mod_eq_of_lt (by omega)]
theorem zh9 {pre n:ByteArray} {x y:List UInt8} {v:Nat} (h:z19 pre n x=some v) (hxy:x≠y):z19 pre n y=none:=by
 unfold z19 at h ⊢
 split at h
 ·rename_i h1
  rw [if_neg]
  rintro ⟨h2,h3⟩
  exact hxy (h1.2.symm.trans h3)
 ·cases h
theorem zay (pre:ByteArray) {base:Int} (h:0<=base/\base<17592186044416) (x:List UInt8):zk6 pre (zl pre base x) x=some base.toNat:=by
 unfold zk6
 rw [if_pos (z48 _ _ _),zd7 pre h]
theorem zwu {pre n:ByteArray} {x y:List UInt8} {v:Nat} (h:zk6 pre n x=some v) (hxy:x≠y):zk6 pre n y=none:=by
 unfold zk6 at h ⊢
 split at h
 ·rename_i hp;rw [if_pos hp];exact zh9 h hxy
 ·cases h
theorem zuy {pre:ByteArray} {a b:Int} {x y:List UInt8} (ha:0<=a/\a<17592186044416) (hb:0<=b/\b<17592186044416) (h:zl pre a x=zl pre b y):a=b/\x=y:=by
 have h1:=zay pre ha x
 rw [h] at h1
 by_cases hxy:x=y
 ·subst hxy
  rw [zay pre hb] at h1
  simp only [Option.some.injEq] at h1
  exact ⟨by omega,rfl⟩
 ·rw [zwu (zay pre hb y) (λe=>hxy e.symm)] at h1
  cases h1
def z30 (pre:ByteArray):Bool:=decide (1<=pre.size/\pre.size<=8) && (bl pre).all λc=>(97<=c.toNat && c.toNat<=122) || (48<=c.toNat && c.toNat<=57)
theorem zwe {p q n:ByteArray} (hp:z30 p=true) (hq:z30 q=true) (h1:(bl (z15 p)).isPrefixOf (bl n)=true) (h2:(bl (z15 q)).isPrefixOf (bl n)=true):p=q:=by
 have key:∀ (a b:List UInt8),(∀ c ∈ a,c≠45)->(∀ c ∈ b,c≠45)->∀ s t:List UInt8,a++45::s=b++45::t->a=b:=by
  intro a
  induction a with
  | nil =>
   intro b _ hb s t h
   cases b with
   | nil=>rfl
   | cons c cs=>simp at h;exact absurd h.1.symm (hb c (List.mem_cons_self ..))
  | cons c cs ih =>
   intro b ha hb s t h
   cases b with
   | nil=>simp at h;exact absurd h.1 (ha c (List.mem_cons_self ..))
   | cons d ds =>
    simp at h
    rw [h.1,ih ds (λx hx=>ha x (List.mem_cons_of_mem _ hx)) (λx hx=>hb x (List.mem_cons_of_mem _ hx)) s t h.2]
 have no:∀ {p:ByteArray},z30 p=true->∀ c ∈ bl p,c≠45:=λ{p} hp c hc e=>by
  unfold z30 at hp
  rw [Bool.and_eq_true,List.all_eq_true] at hp
  have:=hp.2 c hc
  subst e
  revert this
  decide
 rw [List.isPrefixOf_iff_prefix,zg9] at h1 h2
 obtain ⟨s,hs⟩:=h1
 obtain ⟨t,ht⟩:=h2
 refine zbr (key _ _ (no hp) (no hq) s t ?_)
 rw [<- ht] at hs
 simpa using hs
theorem ze7:∀ (a x y:List UInt8),Op.bytesLess (a++x) (a++y)=Op.bytesLess x y
 | [],x,y=>rfl
 | c::a,x,y=>by
  rw [List.cons_append,List.cons_append,Op.bytesLess,ze7 a]
  simp
theorem zca:∀ (a b x y:List UInt8),a.length=b.length->(Op.bytesLess (a++x) (b++y)=true↔Op.bytesLess a b=true\/(a=b/\Op.bytesLess x y=true))
 | [],[],x,y,_=>by simp [Op.bytesLess]
 | c::a,d::b,x,y,h=>by
  rw [List.cons_append,List.cons_append,Op.bytesLess,Op.bytesLess]
  have ih:=zca a b x y (by simpa using h)
  simp only [Bool.or_eq_true,decide_eq_true_eq,Bool.and_eq_true,beq_iff_eq,List.cons.injEq]
  rw [ih]
  constructor
  ·rintro (h|⟨h,h2|⟨h2,h3⟩⟩)
   ·exact .inl (.inl h)
   ·exact .inl (.inr ⟨h,h2⟩)
   ·exact .inr ⟨⟨h,h2⟩,h3⟩
  ·rintro ((h|⟨h,h2⟩)|⟨⟨h,h2⟩,h3⟩)
   ·exact .inl h
   ·exact .inr ⟨h,.inl h2⟩
   ·exact .inr ⟨h,.inr ⟨h2,h3⟩⟩
theorem z01d {a b:Nat} (ha:a<16) (hb:b<16):(z5p a<z5p b)↔a<b:=by
 rw [UInt8.lt_iff_toNat_lt]
 unfold z5p
 split <;> split <;> rw [UInt8.toNat_ofNat',UInt8.toNat_ofNat'] <;> omega
theorem zht:∀ (k a b:Nat),a<16 ^ k->b<16 ^ k->(Op.bytesLess (z2n k a) (z2n k b)=true↔a<b)
 | 0,a,b,ha,hb=>by simp at ha hb;subst ha hb;simp [z2n,Op.bytesLess]
 | k+1,a,b,ha,hb=>by
  have h1:a / 16<16 ^ k:=by rw [Nat.pow_succ] at ha;omega
  have h2:b / 16<16 ^ k:=by rw [Nat.pow_succ] at hb;omega
  unfold z2n
  rw [zca _ _ _ _ (by rw [z6k,z6k]),zht k _ _ h1 h2]
  have h3:Op.bytesLess [z5p (a % 16)] [z5p (b % 16)]=true↔a % 16<b % 16:=by
   simp only [Op.bytesLess,Bool.or_eq_true,decide_eq_true_eq,Bool.and_eq_true,Bool.false_eq_true,and_false,or_false]
   exact z01d (Nat.mod_lt _ (by omega)) (Nat.mod_lt _ (by omega))
  rw [h3]
  have h4:z2n k (a / 16)=z2n k (b / 16)->a / 16=b / 16:=λh=>by
   have e1:=zfc k (a / 16) 0
   rw [h,zfc] at e1
   simp only [Option.some.injEq] at e1
   rw [Nat.mod_eq_of_lt h1,Nat.mod_eq_of_lt h2] at e1
   omega
  constructor
  ·rintro (h|⟨h,h5⟩)
   ·omega
   ·have:=h4 h;omega
  ·intro h
   by_cases h5:a / 16=b / 16
   ·right;exact ⟨by rw [h5],by omega⟩
   ·left;omega
theorem zuu (pre:ByteArray) {a b:Int} (ha:0<=a/\a<17592186044416) (hb:0<=b/\b<17592186044416) (x:List UInt8):ltS (zl pre a x) (zl pre b x)=true↔a<b:=by
 have e:∀ s:ByteArray,ByteArray.toList s=bl s:=λs=>by rw [ByteArray.toList_eq]
 unfold ltS
 rw [e,e,z78,z78,ze7]
 have e2:∀ y z:List UInt8,Op.bytesLess (45::y) (45::z)=Op.bytesLess y z:=ze7 [45]
 rw [e2,zca _ _ _ _ (by rw [z6k,z6k]),zht 11 _ _ (by omega) (by omega),z9x]
 constructor
 ·rintro (h|⟨-,h⟩)
  ·omega
  ·cases h
 ·intro h;left;omega
end Go.Dec
namespace Go.Proofs.YtlmaipahgknahaaGreat
open Go.RowKit Go.Maps Go.Sort Go.Proofs
set_option maxRecDepth 100000 in
set_option maxHeartbeats 1000000 in
theorem zwp {H:Type} (F:Fence) (n:Nat) (h10:F.fn 148) (hro:F.round=none) (hn:1<=n) (l Bm b nn:Nat) (D0:DataW H) {R:Value->Option (DataW H × List MemPlace)} (J Jx:List (List UInt8)->World->Prop)
  (hY:∀ pre x W,J pre W->pre.length<Maps.size D0->YieldAt F (n-1) Tryz.prog l #[encStr x] W λe W'=>(e=.returned (.bool true)/\J (pre++[x]) W'/\KeepsWalks W W')\/(e=.returned (.bool false)/\Jx (pre++[x]) W'))
  (W:World) (hJ:AbidesFrom W.heap.size J) (hm:W.cell? ⟨Bm,0,none⟩=some (.map (some b))) (hown:W.ownsMap Tryz.prog 9 R b nn D0) (h0:J [] W) :
  CallsIn F n Tryz.prog 148 #[.func (.yield l) #[] #[],.pointer (some ⟨Bm,0,none⟩)] W λe W'=>(∃ v,e=.returned v)/\((∃ ss:List (List UInt8),ss.Perm (strKeys D0)/\J ss W')\/(∃ pre,True/\Jx pre W')):=by
 refine callsIn_of_wp Tryz.func148 rfl h10 ?_ hro
 simp only [Tryz.ntmps148,List.size_toArray,List.length_cons,List.length_nil,Nat.reduceAdd,Nat.reduceSub,Array.replicate_succ,Array.replicate_zero,List.push_toArray,List.append_toArray,List.nil_append,List.cons_append]
 gi_wp2_with (first
  | (gi_at_range;refine wpListIn_range_own _ rfl _ 89 rfl 9 138 (string_keyed Tryz.underlying9) Tryz.underlying89 _ b nn _ rfl hown ?_;intro w0 hrg0 hg0 hs0)
  | gi_in)
 go_frame
 gi_loopw [3] (λ_ wr=>∃ (left:Lit->Bool) (cnt:Nat) (ss:List (List UInt8)),wr.ranges Tryz.prog 9 R b W.heap.size nn D0 left cnt/\ss.length+cnt<=Maps.size D0/\Collected D0 left ss/\J ss wr)
  (λ_ wr=>wr.rangeLeft b W.heap.size)
 case atStart =>
  exact ⟨_,_,[],hrg0,by simp,Collected.start D0,hJ [] W w0 none h0 hg0 (λr e=>by cases e)⟩
 case round =>
  obtain ⟨left,cnt,ss,hrg,hcs,hC,hJs⟩:=hrel
  gi_wp2_with (first
   | (gi_at_next;refine wpListIn_next_ranges _ rfl _ rfl 9 (string_keyed Tryz.underlying9) R encStr id (λkey kl hk=>by obtain ⟨x,hx,_⟩:=Maps.keyOf_str Tryz.underlying9 hk;exact ⟨x,hx⟩) (λv _ _=>⟨v,rfl⟩) b W.heap.size nn _ _ _ rfl hrg ?_ ?_)
   | gi_in)
  ·intro hc0 hl0
   gi_wp2
   go_end0
   exact ⟨⟨_,rfl⟩,.inl ⟨ss,hC.perm hown (string_keyed Tryz.underlying9) Tryz.underlying9 hl0,hJs⟩⟩
  ·intro x c kl yd yp w2 cnt2 hkey hlk hv hat hrg2 hlt hg2 hs2 hen
   obtain ⟨x',ex,rfl,_⟩:=Maps.keyOf_str Tryz.underlying9 hkey
   obtain rfl:x=x':=encStr_inj ex
   have hJ2:J ss w2:=hJ ss wr w2 (some W.heap.size) hJs hg2 (λr e=>by cases e;exact ⟨Nat.le_refl _,hrg.iter_walk⟩)
   obtain ⟨fn,tmps,assign,body,hy,hR⟩:=hY ss x w2 hJ2 (by omega)
   clear hs2
   gi_wp2
   refine hR.mono ?_
   rintro e W3 (⟨rfl,hJ3,hk3⟩|⟨rfl,hJx3⟩)
   ·gi_wp2
    have hrg3:=hrg2.of_walks hk3
    go_roundw
    case rel=>exact ⟨_,cnt2,ss++[x],hrg3,by simp;omega,hC.step hlk hat,hJ3⟩
    case measure=>rw [hrg3.left_eq,hrg.left_eq];exact hlt
   ·gi_wp2
    refine bodyPost_ret (results_none rfl _ _ _) rfl ?_
    exact ⟨⟨_,rfl⟩,.inr ⟨ss++[x],trivial,hJx3⟩⟩
theorem z01k (mb:Option Nat) (w:World) :
  Calls Tryz.prog 72 #[.map mb] w λe w'=>e=.returned (.func (.func 148) #[] #[.pointer (some ⟨w.heap.size,0,none⟩)])/\w'=w.alloc (.cells #[.map mb] 89):=by
 refine Calls.mono (Dec.zf69_calls mb (w:=w) (R:=λvs w'=>vs=[.func (.func 148) #[] #[.pointer (some ⟨w.heap.size,0,none⟩)]]/\w'=w.alloc (.cells #[.map mb] 89)) ?_) λe w' ⟨vs,he,hv,hw⟩=>⟨by rw [he,hv];rfl,hw⟩
 unfold Dec.zf69
 refine ⟨(⟨w.heap.size,0,none⟩,()),w.alloc (.cells #[.map mb] 89),?_,trivial,?_⟩
 ·simp only [Instr.box,Sem.run_bind,Dec.run_newVar,Result.andThen_ok,Sem.run_pure];rfl
 ·exact ⟨rfl,rfl,rfl⟩
def preF (p s:ByteArray):Bool:=p.toList.isPrefixOf s.toList
theorem z03s (s p:ByteArray):(decide (((ByteArray.size s:Nat):Int)>=((ByteArray.size p:Nat):Int)) && ByteArray.toList (ByteArray.extract s 0 (Int.toNat (((ByteArray.size p:Nat):Int)))) == ByteArray.toList p)=preF p s:=by
 unfold preF
 rw [Int.toNat_natCast,ByteArray.toList_eq,ByteArray.toList_eq,ByteArray.toList_eq]
 have e1:(ByteArray.extract s 0 p.size).data.toList=s.data.toList.take p.size:=by simp [ByteArray.data_extract]
 have e2:p.size=p.data.toList.length:=by simp
 rw [e1,Bool.eq_iff_iff,Bool.and_eq_true,decide_eq_true_eq,beq_iff_eq,List.isPrefixOf_iff_prefix]
 constructor
 ·rintro ⟨-,h⟩
  rw [<- h];exact List.take_prefix _ _
 ·intro h
  have hl:=h.length_le
  refine ⟨?_,?_⟩
  ·have:s.size=s.data.toList.length:=by simp
   omega
  ·rw [e2];exact (List.prefix_iff_eq_take.1 h).symm
theorem zxh (s p:ByteArray) (w:World):Calls Tryz.prog 73 #[.string s,.string p] w λe w'=>e=.returned (.bool (preF p s))/\w'=w:=by
 refine Calls.mono (Dec.zf170_calls s p (w:=w) (R:=λvs w'=>vs=[.bool (preF p s)]/\w'=w) ?_) λe w' ⟨vs,he,hv,hw⟩=>⟨by rw [he,hv];rfl,hw⟩
 unfold Dec.zf170
 refine Dec.wp_callS (preF p s,()) (Dec.zf49_calls s p (R:=λvs w'=>vs=[.bool (preF p s)]/\w'=w) ?_) rfl λw' hw=>⟨trivial,?_⟩
 ·unfold Dec.zf49
  refine Dec.wp_must (λh=>?_) (Dec.wp_lt ⟨rfl,by rw [z03s],rfl⟩)
  have h:=of_decide_eq_true h
  omega
 ·exact Dec.wp_lt ⟨rfl,rfl,hw⟩
end Go.Proofs.YtlmaipahgknahaaGreat
namespace Go.Proofs.YtlmaipahgknahaaGreat
open Go.RowKit Go.Maps Go.Sort Go.Proofs Go.Shelf
attribute [local go_sem] Oper.semAt_some
def z4o (p:ByteArray) (ss:List (List UInt8)):List (List UInt8):=ss.filter λx=>preF p ⟨x.toArray⟩
theorem z01z (p:ByteArray) (pre:List (List UInt8)) {x:List UInt8} (h:preF p ⟨x.toArray⟩=true):z4o p (pre++[x])=z4o p pre++[x]:=by simp [z4o,h]
theorem zxf (p:ByteArray) (pre:List (List UInt8)) {x:List UInt8} (h:¬ preF p ⟨x.toArray⟩=true):z4o p (pre++[x])=z4o p pre:=by simp [z4o,h]
theorem z06m:(Tryz.prog.info? 9).map (λi=>(i.zero,i.size,i.bytes))=some (some (.string ByteArray.empty),1,16):=by kernel_rfl
set_option maxRecDepth 100000 in
set_option maxHeartbeats 2000000 in
theorem zwx      {H : Type} (n : Nat) (hn : 3 ≤ n) (d b nn : Nat) (p : ByteArray) (w : World) (D0 : DataW H) {R : Value → Option (DataW H × List MemPlace)} (hown : w.ownsMap Tryz.prog 9 R b nn D0) (hd : d < w.heap.size)
    (hc : w.cell? ⟨d, 4, none⟩ = some (.map (some b))) (hmax : Maps.size D0 ≤ 1000) (fin : Value → World → Prop)
    (hsort : ∀ (D : Nat) (ss : List (List UInt8)) (v : Value) (W : World), w.heap.size + 2 ≤ D → ss.Perm (strKeys D0) → Boxed W (w.heap.size + 1) 65 v → W.ownsRow (w.heap.size + 1) 9 1 v (z4o  p ss).length ((z4o  p ss).map encStr) → Below w.heap.size w W →
      W.heap[D]? = some (.deferred (some [])) → CallsIn Fence.wide (n - 1) Tryz.prog 74 #[v] W fun e W' => e = .returned (.tuple #[]) ∧ W'.cell? ⟨w.heap.size + 1, 0, none⟩ = some v ∧ W'.heap[D]? = some (.deferred (some [])) ∧ fin v (W'.putObj D (.deferred none))) :
    CallsIn Fence.wide n Tryz.prog 26 #[.pointer (some ⟨d, 0, none⟩), .string p] w fun e W' => ∃ v, e = .returned v ∧ fin v W' := by
  have h1 : 1 ≤ n := by omega
  obtain ⟨i0, hi, hz0, hz1, hz2⟩ := info_parts z06m 
  have hbl := hown.lt
  have hc2 : ((w.alloc (.cells #[.string p] 9)).alloc (.cells #[.slice none 0 0] 65)).cell? ⟨d, 4, none⟩ = some (.map (some b)) := by
    rw [World.cell?_alloc_past _ _ _ (by simp; omega), World.cell?_alloc_past _ _ _ hd]; exact hc
  refine callsIn_of_wp_marks Tryz.func26 rfl trivial ?_ rfl
  simp only [Tryz.ntmps26, List.size_toArray, List.length_cons, List.length_nil, Nat.reduceAdd, Nat.reduceSub, Array.replicate_succ, Array.replicate_zero, List.push_toArray, List.append_toArray, List.nil_append, List.cons_append]
  gi_wp2_with (refine ⟨trivial, ?_⟩; gi_at_call 72; refine (callsIn_wide.2 (z01k    _ _)).mono ?_; rintro e w' ⟨rfl, rfl⟩)
  have bP := Boxed.new w 9 (.string p)
  have bO := Boxed.new (w.alloc (.cells #[.string p] 9)) 65 (.slice none 0 0)
  have bM := Boxed.new ((w.alloc (.cells #[.string p] 9)).alloc (.cells #[.slice none 0 0] 65)) 89 (.map (some b))
  rw [World.size_alloc] at bO bM
  rw [World.size_alloc] at bM
  have hB0 : Below w.heap.size w (((w.alloc (.cells #[.string p] 9)).alloc (.cells #[.slice none 0 0] 65)).alloc (.cells #[.map (some b)] 89)) := (((Below.refl _ w).alloc (Nat.le_refl _) _).alloc (by simp) _).alloc (by simp; omega) _
  have hown0 : (((w.alloc (.cells #[.string p] 9)).alloc (.cells #[.slice none 0 0] 65)).alloc (.cells #[.map (some b)] 89)).ownsMap Tryz.prog 9 R b nn D0 := by
    obtain ⟨es, clock, hb, Ft, hs, hD⟩ := hown
    exact ⟨es, clock, (hB0.block b hbl).trans hb, Ft, hs, hD⟩
  have hseq : SeqStops Fence.wide (n - 1) Tryz.prog 148 #[.pointer (some ⟨w.heap.size + 1 + 1, 0, none⟩)] encStr (fun ss => ss.Perm (strKeys D0)) (fun _ => True) (Maps.size D0) (((w.alloc (.cells #[.string p] 9)).alloc (.cells #[.slice none 0 0] 65)).alloc (.cells #[.map (some b)] 89)) := fun l J Jx W hW hJ hJx hY h0 => by
    have hown' : W.ownsMap Tryz.prog 9 R b nn D0 := by
      obtain ⟨es, clock, hb, Ft, hs, hD⟩ := hown0
      exact ⟨es, clock, (hW.block b (by simp; omega)).trans hb, Ft, hs, hD⟩
    exact zwp      Fence.wide (n - 1) trivial rfl (by omega) l (w.heap.size + 1 + 1) b nn D0 J Jx hY W hJ ((hW.cell (p := ⟨w.heap.size + 1 + 1, 0, none⟩) (by simp)).trans bM.cell) hown' h0
  refine wpIn_rangeFunc_ownG rfl h1 (gf := 148) (lb := #[.pointer (some ⟨w.heap.size + 1 + 1, 0, none⟩)]) rfl trivial (enters_of Tryz.func148 (by kernel_rfl) rfl)
    (encs := fun x => #[encStr x]) (Kp := KeepsWalks) (S := fun ss => ss.Perm (strKeys D0)) (Sp := fun _ => True) (N := Maps.size D0) hseq walksK_t (fun W l o o' _ h _ hw => KeepsWalks.putObj _ h hw) (Below.refl _ _) (fun _ => rfl)
    (fun pre W => ((∃ v, Boxed W (w.heap.size + 1) 65 v ∧ W.ownsRow (w.heap.size + 1) 9 1 v (z4o  p pre).length ((z4o  p pre).map encStr) ∧ True) ∧ Boxed W w.heap.size 9 (.string p)) ∧ Below w.heap.size w W)
    (fun _ _ _ => False)
    (OwnFrom.and (OwnFrom.and (Own.from (holdsRow_own (w.heap.size + 1) (w.heap.size + 1) 65 9 1 (fun pre => (z4o  p pre).length) (fun pre => (z4o  p pre).map encStr) (fun _ _ => True)) _) (Own.from (boxed_own w.heap.size 9 (fun _ => .string p)) _)) (ownFrom_below (Nat.le_refl _) (by simp; omega)))
    (fun _ _ _ _ _ hs _ _ => hs)
    ⟨⟨⟨_, bO.alloc _, World.ownsRow_nil _ _ _ _, trivial⟩, (bP.alloc _).alloc _⟩, hB0⟩
    (fun x => { tmps := #[Value.pointer (some { block := d, off := 0 }), Value.string p, undef,
                Value.pointer (some { block := w.heap.size, off := 0 }), Value.slice none 0 0,
                Value.pointer (some { block := w.heap.size + 1, off := 0 }), encStr x,
                Value.pointer (some { block := d, off := 0 }), Value.bool false,
                Value.pointer (some { block := d, off := 0 }), Value.pointer (some { block := d, off := 0 }),
                Value.pointer (some { block := d, off := 4 }), Value.map (some b), .func (.func 148) #[] #[.pointer (some ⟨w.heap.size + 1 + 1, 0, none⟩)], encStr x, undef, undef, undef, undef, undef,
                undef, undef, undef, undef, undef], defers := [] }) ?assign ?body ?done ?stop
  case assign =>
    intro l x W K hK
    gi_wp2
    exact hK
  case body =>
    rintro l pre x W ⟨⟨⟨v, hv, hrow, -⟩, hbp⟩, hB⟩ hlt
    have hcv := hv.cell
    have hcp := hbp.cell
    have hpl : (z4o  p pre).length ≤ pre.length := List.length_filter_le _ _
    have hml : 1000 ≤ maxLen := by decide
    have hvl := hv.lt
    gi_wp2_with (first
      | (refine ⟨trivial, fun _ => by omega, ?_⟩; gi_at_call 73; refine (CallsIn.inRound l (callsIn_wide.2 (zxh      ⟨x.toArray⟩ p W))).mono ?_; rintro e w' ⟨rfl, he⟩; have he := he.symm; subst he)
      | (gi_at_builtin; refine wpListIn_append_own _ rfl _ _ 65 rfl (w.heap.size + 1) 9 i0 (.string ByteArray.empty) 1 16 Tryz.underlying65 hi hz0 hz1 hz2 rfl (by decide) _ _ _ rfl (hrow.alloc _) ⟨W.heap.size, 0, none⟩ 1 1 [encStr x] rfl rfl (cell_one_new _ _ _) (by simp [Value.oneCell', encStr]) (by omega) (by omega) (by simp; omega) ?_; intro v' w1 hown' hgrow _; obtain ⟨g', cap', rfl⟩ := ownsRow_succ hown'; obtain ⟨hv1, hv2, hr2, hk2, hb2⟩ := hv.appended (by decide) hrow (by omega) (by omega) hown' hgrow; have hc1 := hv1.cell; have hf1 := hv1.frozen))
    · have hx : preF p ⟨x.toArray⟩ = true := by assumption
      exact ⟨hk2.from _, hk2.walks, ⟨⟨⟨_, hv2, by rw [z01z    p pre hx]; simpa using hr2, trivial⟩, (hb2.block w.heap.size (by omega)).trans hbp⟩, hB.trans (hb2.mono (by omega))⟩⟩
    · have hx : ¬ preF p ⟨x.toArray⟩ = true := by rename_i hx; rw [hx]; simp
      exact ⟨KeepsFrom.refl _ _, (KeepsOthers.refl _).walks, ⟨⟨⟨v, hv, by rw [zxf      p pre hx]; exact hrow, trivial⟩, hbp⟩, hB⟩⟩
  case done =>
    rintro D ys W hD hS ⟨⟨⟨v, hv, hrow, -⟩, hbp⟩, hB⟩ hK
    have hcv := hv.cell
    have hvl := hv.lt
    have hD2 : w.heap.size + 2 ≤ D := by simp at hD; omega
    gi_wp2_with (refine ⟨trivial, ?_⟩; gi_at_call 74; refine (hsort D ys v W hD2 hS hv hrow hB hK).mono ?_; rintro e w' ⟨rfl, hc1, hK1, hfin⟩)
    refine ⟨by simp, .inl ⟨_, _, rfl, run_takeDeferred hK1, ?_⟩⟩
    exact ⟨_, results_tmp rfl _ _ _, v, rfl, hfin⟩
  case stop =>
    rintro D c pre W _ _ h _
    exact h.elim
end Go.Proofs.YtlmaipahgknahaaGreat
namespace Go.Dec
open Go.Shelf Go.Proofs
def z07k:Ren:=⟨fun|190=>74|125=>151|258=>150|128=>229|129=>230|302=>220|303=>221|304=>222|305=>223|306=>224|307=>225|308=>226|309=>227|310=>228|333=>269|329=>270|330=>271|334=>272|335=>273|336=>274|344=>302|n=>n,fun|31=>65|9=>9|3=>3|46=>234|0=>0|51=>310|53=>189|4=>4|183=>303|182=>302|131=>307|5=>5|218=>343|222=>346|228=>366|229=>367|n=>n,λn=>n⟩
theorem zyn:Lays.n190 P z07k where
 mixed:=by kernel_rfl
 f125:=Tryz.func151.trans (congrArg some (by kernel_rfl))
 f128:=Tryz.func229.trans (congrArg some (by kernel_rfl))
 f129:=Tryz.func230.trans (congrArg some (by kernel_rfl))
 f190:=Tryz.func74.trans (congrArg some (by kernel_rfl))
 f258:=Tryz.func150.trans (congrArg some (by kernel_rfl))
 f302:=Tryz.func220.trans (congrArg some (by kernel_rfl))
 f303:=Tryz.func221.trans (congrArg some (by kernel_rfl))
 f304:=Tryz.func222.trans (congrArg some (by kernel_rfl))
 f305:=Tryz.func223.trans (congrArg some (by kernel_rfl))
 f306:=Tryz.func224.trans (congrArg some (by kernel_rfl))
 f307:=Tryz.func225.trans (congrArg some (by kernel_rfl))
 f308:=Tryz.func226.trans (congrArg some (by kernel_rfl))
 f309:=Tryz.func227.trans (congrArg some (by kernel_rfl))
 f310:=Tryz.func228.trans (congrArg some (by kernel_rfl))
 f329:=Tryz.func270.trans (congrArg some (by kernel_rfl))
 f330:=Tryz.func271.trans (congrArg some (by kernel_rfl))
 f333:=Tryz.func269.trans (congrArg some (by kernel_rfl))
 f334:=Tryz.func272.trans (congrArg some (by kernel_rfl))
 f335:=Tryz.func273.trans (congrArg some (by kernel_rfl))
 f336:=Tryz.func274.trans (congrArg some (by kernel_rfl))
 f344:=Tryz.func302.trans (congrArg some (by kernel_rfl))
 t0:=Tryz.underlying0
 a0:=Tryz.isAgg0
 z0:=Tryz.sizeOf0
 v0:=Tryz.zeroValue0
 t3:=Tryz.underlying3
 a3:=Tryz.isAgg3
 z3:=Tryz.sizeOf3
 v3:=Tryz.zeroValue3
 t4:=Tryz.underlying4
 a4:=Tryz.isAgg4
 z4:=Tryz.sizeOf4
 v4:=Tryz.zeroValue4
 t5:=Tryz.underlying5
 a5:=Tryz.isAgg5
 z5:=Tryz.sizeOf5
 v5:=Tryz.zeroValue5
 t9:=Tryz.underlying9
 a9:=Tryz.isAgg9
 z9:=Tryz.sizeOf9
 v9:=Tryz.zeroValue9
 t31:=Tryz.underlying65
 a31:=Tryz.isAgg65
 z31:=Tryz.sizeOf65
 v31:=Tryz.zeroValue65
 t46:=Tryz.underlying234
 a46:=Tryz.isAgg234
 z46:=Tryz.sizeOf234
 v46:=Tryz.zeroValue234
 t51:=Tryz.underlying310
 a51:=Tryz.isAgg310
 z51:=Tryz.sizeOf310
 v51:=Tryz.zeroValue310
 t53:=Tryz.underlying189
 a53:=Tryz.isAgg189
 z53:=Tryz.sizeOf189
 v53:=Tryz.zeroValue189
 t131:=Tryz.underlying307
 a131:=Tryz.isAgg307
 z131:=Tryz.sizeOf307
 v131:=Tryz.zeroValue307
 t182:=Tryz.underlying302
 a182:=Tryz.isAgg302
 z182:=Tryz.sizeOf302
 v182:=Tryz.zeroValue302
 t183:=Tryz.underlying303
 a183:=Tryz.isAgg303
 z183:=Tryz.sizeOf303
 v183:=Tryz.zeroValue303
 t218:=Tryz.underlying343
 a218:=Tryz.isAgg343
 z218:=Tryz.sizeOf343
 v218:=Tryz.zeroValue343
 t222:=Tryz.underlying346
 a222:=Tryz.isAgg346
 z222:=Tryz.sizeOf346
 v222:=Tryz.zeroValue346
 t228:=Tryz.underlying366
 a228:=Tryz.isAgg366
 z228:=Tryz.sizeOf366
 v228:=Tryz.zeroValue366
 t229:=Tryz.underlying367
 a229:=Tryz.isAgg367
 z229:=Tryz.sizeOf367
 v229:=Tryz.zeroValue367
theorem zox:∀ x y:List UInt8,Op.bytesLess x y=true↔x<y
 | [],[]=>by simp [Op.bytesLess]
 | [],y::ys=>by simp [Op.bytesLess]
 | x::xs,[]=>by simp [Op.bytesLess]
 | x::xs,y::ys=>by
  rw [Op.bytesLess,List.cons_lt_cons_iff,<- zox xs ys]
  simp
def toK (s:ByteArray):List UInt8:=s.data.toList
def ofK (x:List UInt8):ByteArray:=⟨x.toArray⟩
theorem z03m (s:ByteArray):ofK (toK s)=s:=by unfold ofK toK;simp
theorem zk4 (s:ByteArray):ByteArray.toList s=toK s:=ByteArray.toList_eq s
theorem z013 (s:ByteArray):encStr (toK s)=.string s:=by unfold encStr toK;simp
section
variable {w:World} {l:List HP}
theorem zxt {w':World} {os:Array Obj} (h:Sat w l) (he:w'.heap=w.heap++os) (h2:w'.os=w.os) (h3:w'.output=w.output):Sat w' l:=by
 refine z91 ⟨λb o hb=>?_,?_⟩ h
 ·have hb:w.heap[b]? = some o:=hb
  show w'.heap[b]? = some o
  rw [he,Array.getElem?_append_left (Array.getElem?_eq_some_iff.1 hb).1]
  exact hb
 ·show World.env' w=World.env' w'
  unfold World.env';rw [h2,h3]
theorem zis (x:Sl) (xs:List ByteArray) (h63:xs.length<4611686018427387904) (hs:Sat w (slc T.a51 1 x (xs.flatMap z22)::l)) :
  Ret P F.a131 #[x.v] w λvs w'=>vs=[]/\∃ ys:List ByteArray,ys.Perm xs/\ys.Pairwise (λa b=>Op.bytesLess (ByteArray.toList b) (ByteArray.toList a)=false)/\Sat w' (slc T.a51 1 x (ys.flatMap z22)::l):=by
 have hl:x.len=xs.length:=hs.rd.len (enc:=z22) (λ_=>rfl) (by decide)
 obtain ⟨xa,xl,xc⟩:=x
 simp only at hl
 subst hl
 by_cases h0:xs.length=0
 ·have e:xs=[]:=List.length_eq_zero_iff.1 h0
  subst e
  refine Calls.mono (Any.slices_Sort_string_none zyn xa xc w) λe w' h=>?_
  obtain ⟨he,hw⟩:=h
  subst hw
  exact ⟨[],he,rfl,[],.refl _,.nil,hs⟩
 have hnd:=hs
 obtain ⟨p1,p2,h1,h2,hd,hA,hl⟩:=hnd
 rcases hA with ⟨ha,hl0,hc0,-⟩|⟨b,off,arr,fr,ha,hb,hlen,hle,hsz,hcs,hf⟩
 ·exact absurd hl0 h0
 have ha:xa=some ⟨b,off,none⟩:=ha
 subst ha
 have hle:xs.length<=xc:=hle
 have hsz:off+xc*1<=arr.size:=hsz
 have hP:Sat w (pt b (.cells arr T.a51 fr)::l):=⟨p1,p2,h1,h2,hd,hb,hl⟩
 have z4x:=hP.get
 have hblt:b<w.heap.size:=(Array.getElem?_eq_some_iff.1 z4x).1
 have henc:∀ (zs:List ByteArray) (i:Nat),(zs.flatMap z22)[i]? = (zs[i]?).map λs=>.string s:=λzs i=>by
  have:zs.flatMap z22=zs.map λs=>Value.string s:=by
   induction zs with
   | nil=>rfl
   | cons z zs ih=>rw [List.flatMap_cons,List.map_cons,ih];rfl
  rw [this,List.getElem?_map]
 have hH:Go.Sort.Holds encStr w b off (xs.map toK).toArray:=λj hj=>by
  have hj:j<xs.length:=by simpa using hj
  have h3:=hcs j (by rw [hlen];show j<xs.length*1;omega)
  rw [henc,List.getElem?_eq_getElem hj] at h3
  have h4:((xs.map toK).toArray)[j]! = toK xs[j]:=by
   rw [getElem!_pos _ j (by simpa using hj)];simp
  refine ⟨?_,?_⟩
  ·rw [h4,z013]
   unfold World.cell?
   rw [z4x]
   exact h3
  ·rw [zc3,z4x]
   have:=hf (off+j) (by omega) (by show off+j<off+xc*1;omega)
   simp only [zqm]
   rw [Bool.and_eq_false_iff]
   by_cases hq:fr.1<=off+j
   ·right;exact decide_eq_false λh=>this ⟨hq,h⟩
   ·left;exact decide_eq_false hq
 have hll:(xs.map toK).length=xs.length:=List.length_map ..
 have hc:=Any.slices_Sort_string zyn b off xc (xs.map toK) w hH hblt (by rw [hll];exact h63)
 rw [hll] at hc
 refine Calls.mono hc λe w' h=>?_
 obtain ⟨he,n,os,hw⟩:=h
 generalize hmq:(xs.map toK).mergeSort (λx y=>decide (x<=y))=ms at hw
 have hperm:ms.Perm (xs.map toK):=by rw [<- hmq];exact List.mergeSort_perm _ _
 have hpw:ms.Pairwise λx y=>decide (x<=y)=true:=by
  rw [<- hmq]
  refine List.pairwise_mergeSort (λa b c h1 h2=>?_) (λa b=>?_) _
  ·simp only [decide_eq_true_eq] at *;exact List.le_trans h1 h2
  ·simp only [Bool.or_eq_true,decide_eq_true_eq];exact List.le_total a b
 have hml:ms.length=xs.length:=by rw [hperm.length_eq,hll]
 have hofK:(xs.map toK).map ofK=xs:=by
  rw [List.map_map]
  conv=>rhs;rw [<- List.map_id xs]
  exact List.map_congr_left λs _=>z03m s
 refine ⟨[],he,rfl,ms.map ofK,?_,?_,?_⟩
 ·have:=hperm.map ofK
  rwa [hofK] at this
 ·rw [List.pairwise_map]
  refine hpw.imp λ{a c} h=>?_
  have h:a<=c:=of_decide_eq_true h
  rw [zk4,zk4]
  have e:∀ z,toK (ofK z)=z:=λz=>by unfold toK ofK;simp
  rw [e,e]
  cases hq:Op.bytesLess c a with
  | false=>rfl
  | true=>exact absurd h (List.not_le.2 ((zox c a).1 hq))
 ·have hset:=hP.set (o':=.cells (Go.Sort.putCells encStr off ms.toArray arr) T.a51 fr)
  have hheap:w'.heap=(z2r w b (.cells (Go.Sort.putCells encStr off ms.toArray arr) T.a51 fr)).heap++os:=by
   rw [hw]
   show (w.heap.modify b (Go.Sort.onCells _))++os=w.heap.setIfInBounds b _++os
   congr 1
   apply Array.ext_getElem?
   intro i
   rw [Array.getElem?_modify,Array.getElem?_setIfInBounds]
   by_cases hib:b=i
   ·subst hib
    rw [if_pos rfl,if_pos rfl,z4x,if_pos hblt]
    rfl
   ·rw [if_neg hib,if_neg hib]
  have hs2:=zxt hset hheap (by rw [hw];rfl) (by rw [hw];rfl)
  refine hs2.imp λq hq=>.inr ⟨b,off,_,fr,rfl,hq,?_,hle,?_,λi hi=>?_,hf⟩
  ·show ((ms.map ofK).flatMap z22).length=xs.length*1
   have:∀ zs:List ByteArray,(zs.flatMap z22).length=zs.length:=λzs=>by
    induction zs with
    | nil=>rfl
    | cons z zs ih=>rw [List.flatMap_cons,List.length_append,ih];simp [z22];omega
   rw [this,List.length_map,hml];omega
  ·show off+xc*1<=(Go.Sort.putCells encStr off ms.toArray arr).size
   unfold Go.Sort.putCells
   rw [Array.size_mapIdx];exact hsz
  ·have him:i<ms.length:=by
    have:∀ zs:List ByteArray,(zs.flatMap z22).length=zs.length:=λzs=>by
     induction zs with
     | nil=>rfl
     | cons z zs ih=>rw [List.flatMap_cons,List.length_append,ih];simp [z22];omega
    rw [this,List.length_map] at hi;exact hi
   rw [henc,List.getElem?_map,List.getElem?_eq_getElem him]
   unfold Go.Sort.putCells
   rw [Array.getElem?_mapIdx]
   have ha2:off+i<arr.size:=by omega
   rw [Array.getElem?_eq_getElem ha2]
   simp only [Option.map_some]
   rw [if_pos ⟨by omega,by rw [List.size_toArray];omega⟩]
   congr 1
   rw [Nat.add_sub_cancel_left,getElem!_pos _ i (by simpa using him)]
   simp [encStr,ofK]
end
open Go.Proofs Go.Proofs.YtlmaipahgknahaaGreat
def z0w (p:ByteArray) (fs:List FileA):List ByteArray:=(fs.map (·.name)).filter (preF p)
def zcy (W:World) (X:Nat->Bool):PH:=⟨λb=>if X b then W.heap[b]? else none,World.env' W⟩
section
variable {w W:World} {l:List HP} {X:Nat->Bool}
theorem zxs (hs:Sat w l) (hB:RowKit.Below w.heap.size w W):z6m l (zcy W λb=>decide (b<w.heap.size)):=by
 refine z91 ⟨λb o h=>?_,?_⟩ hs
 ·have h:w.heap[b]? = some o:=h
  have hlt:b<w.heap.size:=(Array.getElem?_eq_some_iff.1 h).1
  show (if decide (b<w.heap.size)=true then W.heap[b]? else none)=some o
  rw [if_pos (decide_eq_true hlt),hB.block b hlt,h]
 ·show World.env' w=World.env' W
  unfold World.env'
  rw [hB.os,hB.output]
theorem zeg {b:Nat} {o:Obj} (hs:z6m l (zcy W X)) (hX:X b=false) (hb:W.heap[b]? = some o):z6m (pt b o::l) (zcy W λc=>X c || decide (c=b)):=by
 refine ⟨⟨λc=>if c=b then some o else none,World.env' W⟩,zcy W X,⟨λc u h=>?_,rfl⟩,⟨λc u h=>?_,rfl⟩,λc=>?_,by simp [pt],hs⟩
 ·simp only at h
  split at h
  ·rename_i hc;subst hc
   obtain rfl:=Option.some.inj h
   show (if (X c || decide (c=c))=true then W.heap[c]? else none)=some o
   rw [if_pos (by simp),hb]
  ·cases h
 ·have h:(if X c=true then W.heap[c]? else none)=some u:=h
  split at h
  ·rename_i hc
   show (if (X c || decide (c=b))=true then W.heap[c]? else none)=some u
   rw [if_pos (by rw [hc];rfl),h]
  ·cases h
 ·by_cases hc:c=b
  ·subst hc;right
   show (if X c=true then W.heap[c]? else none)=none
   rw [if_neg (by rw [hX];simp)]
  ·left;simp [hc]
theorem zib (hs:z6m l (zcy W X)):Sat W l:=by
 refine z91 (p:=zcy W X) ⟨λb o h=>?_,rfl⟩ hs
 have h:(if X b=true then W.heap[b]? else none)=some o:=h
 split at h
 ·exact h
 ·cases h
end
theorem zbl:∀ {a b:List ByteArray},a.Perm b->(a.Pairwise λx y=>ltS y x=false)->(b.Pairwise λx y=>ltS x y=true)->a=b
 | a,[],hp,_,_=>hp.eq_nil
 | [],y::b,hp,_,_=>absurd hp.symm.eq_nil (by simp)
 | x::a,y::b,hp,ha,hb=>by
  rw [List.pairwise_cons] at ha hb
  have hxy:x=y:=by
   by_cases h:x=y
   ·exact h
   ·have hx:x ∈ b:=(List.mem_cons.1 (hp.mem_iff.1 (List.mem_cons_self ..))).resolve_left h
    have hy:y ∈ a:=(List.mem_cons.1 (hp.mem_iff.2 (List.mem_cons_self ..))).resolve_left (λe=>h e.symm)
    have h1:=hb.1 x hx
    rw [ha.1 y hy] at h1;cases h1
  subst hxy
  rw [zbl (List.Perm.cons_inv hp) ha.2 hb.2]
def z3w (x:List UInt8):ByteArray:=⟨x.toArray⟩
theorem zue (xs:List ByteArray):xs.flatMap z22=xs.map Value.string:=by
 induction xs with
 | nil=>rfl
 | cons x r ih=>rw [List.flatMap_cons,ih];rfl
theorem zgp {fs:List FileA} (h:fs.Pairwise λa b=>ltS a.name b.name=true) (p:ByteArray):(z0w p fs).Pairwise λx y=>ltS x y=true:=by
 unfold z0w
 refine List.Pairwise.filter _ ?_
 rw [List.pairwise_map];exact h
theorem z01s {w:World} {m:Nat} {es:List (ByteArray × Nat)} {l:List HP} (hs:Sat w (z18 ekS evF m es::l)) (hlen:es.length<=1000) (hn:∀ x ∈ es,x.1.size<=24) :
  ∃ D0:DataW Unit,w.ownsMap Tryz.prog 9 (λ_=>some (.lit (.bool true),[])) m 1000 D0/\Maps.size D0<=1000/\((strKeys D0).map z3w).Perm (es.map Prod.fst):=by
 obtain ⟨E,c,hm,hs⟩:=hs.mapOpen
 have hsz:=hm.size
 obtain ⟨xs,h1,h2,h3,h4,h5⟩:=hm
 have hE:E.size<=1000:=by omega
 have hml:1000<=maxLen:=by decide
 have hkeys:∀ e ∈ E.toList,∃ x ∈ xs,e.key=.string x.1:=λe he=>by
  have:(e.key,e.val) ∈ E.toList.map (λe=>(e.key,e.val)):=List.mem_map.2 ⟨e,he,rfl⟩
  rw [h3] at this
  obtain ⟨x,hx,hxe⟩:=List.mem_map.1 this
  exact ⟨x,hx,(Prod.mk.inj hxe).1.symm⟩
 have hrd:∀ e ∈ E.toList,∀ s,e.key=.string s->WideElems.rd (H:=Unit) Tryz.prog 9 (λ_=>some (.lit (.bool true),[])) e=some (.string s.data.toList,.lit (.bool true)):=λe he s hk=>by
  obtain ⟨x,hx,hxe⟩:=hkeys e he
  rw [hk] at hxe
  obtain rfl:s=x.1:=by cases hxe;rfl
  have h24:=hn x (h1.mem_iff.1 hx)
  have:keyOf Tryz.prog 9 (.string x.1)=some (.string x.1.data.toList):=WideMaps.keyOf_string_mk (by kernel_rfl) (by omega)
  unfold WideElems.rd
  rw [hk,this];rfl
 refine ⟨.map ((E.toList.map (WideElems.rg Tryz.prog 9 λ_=>some (.lit (.bool true),[]))).foldr DataW.insert []),⟨E,c,hs.get,⟨by omega,⟨h5,?_,?_⟩,λe he=>?_⟩,hE,rfl⟩,?_,?_⟩
 ·rw [List.Nodup,List.pairwise_map]
  exact h4.imp λh=>Nat.ne_of_lt h
 ·have hk:E.toList.map (·.key)=xs.map λx=>Value.string x.1:=by
   have:=congrArg (List.map Prod.fst) h3
   rw [List.map_map,List.map_map] at this
   exact this
  rw [hk,List.Nodup,List.pairwise_map]
  rw [List.Nodup,List.pairwise_map] at h2
  exact h2.imp λh e=>h (Value.string.inj e)
 ·obtain ⟨x,hx,hxe⟩:=hkeys e he
  exact ⟨_,hrd e he x.1 hxe⟩
 ·show ((E.toList.map _).foldr DataW.insert []).length<=1000
  rw [length_sorted,List.length_map,Array.length_toList];exact hE
 ·have hp:=(WideShapes.sorted_perm (E.toList.map (WideElems.rg (H:=Unit) Tryz.prog 9 λ_=>some (.lit (.bool true),[])))).map (λp:Lit × DataW Unit=>z3w (Go.strOf p.1))
  have e1:(strKeys (DataW.map ((E.toList.map (WideElems.rg (H:=Unit) Tryz.prog 9 λ_=>some (.lit (.bool true),[]))).foldr DataW.insert []))).map z3w=((E.toList.map (WideElems.rg (H:=Unit) Tryz.prog 9 λ_=>some (.lit (.bool true),[]))).foldr DataW.insert []).map (λp:Lit × DataW Unit=>z3w (Go.strOf p.1)):=by
   simp only [strKeys,List.map_map];rfl
  rw [e1]
  refine hp.trans ?_
  rw [List.map_map]
  have e2:E.toList.map ((λp:Lit × DataW Unit=>z3w (Go.strOf p.1))∘WideElems.rg Tryz.prog 9 λ_=>some (.lit (.bool true),[]))=xs.map Prod.fst:=by
   have h6:E.toList.map (λe=>match e.key with | .string s=>s|_=>⟨#[]⟩)=xs.map Prod.fst:=by
    have:=congrArg (List.map λx:Value × Value=>match x.1 with | .string s=>s|_=>⟨#[]⟩) h3
    rw [List.map_map,List.map_map] at this
    exact this
   rw [<- h6]
   refine List.map_congr_left λe he=>?_
   obtain ⟨x,hx,hxe⟩:=hkeys e he
   show z3w (Go.strOf (WideElems.rg (H:=Unit) Tryz.prog 9 (λ_=>some (.lit (.bool true),[])) e).1)=_
   rw [WideElems.rg_of (hrd e he x.1 hxe),hxe]
   show z3w x.1.data.toList=x.1
   exact ztz rfl
  rw [e2]
  exact h1.map _
section
variable {w:World} {l r:List HP} {d:Nat} {A:DiskA}
theorem zp3 (p:ByteArray) [hf:Fo l dk d A r] (hs:Sat w l):Ret P F.a23 #[.pointer (some ⟨d,0,none⟩),.string p] w λvs w'=>∃ x:Sl,vs=[x.v]/\Sat w' (slc T.a51 1 x ((z0w p A.fs).flatMap z22)::dk d A::r):=by
 have hs0:=hs.perm hf.perm
 obtain ⟨m,FS,hp,hok,hs1⟩:=z1w hs0
 have hkv:(FS.map λt=>(t.f.name,t.at_)).map Prod.fst=(FS.map FileM.f).map (·.name):=by rw [List.map_map,List.map_map];rfl
 have hlen:(FS.map λt=>(t.f.name,t.at_)).length<=1000:=by
  have:=hp.length_eq;have:=hok.many;simp at *;omega
 obtain ⟨D0,hown,hsz,hkeys⟩:=z01s (hs1.pick [1]) hlen λx hx=>by
  obtain ⟨t,ht,rfl⟩:=List.mem_map.1 hx
  exact hok.names _ (hp.mem_iff.1 (List.mem_map.2 ⟨t,ht,rfl⟩))
 rw [hkv] at hkeys
 have hkeys:=hkeys.trans (hp.map (·.name))
 have hb:=hs1.get
 have hd:d<w.heap.size:=(Array.getElem?_eq_some_iff.1 hb).1
 have hc:w.cell? ⟨d,4,none⟩=some (.map (some m)):=by rw [z58 hb];rfl
 have hfin:=callsIn_wide.1 (zwx (n:=3) (Nat.le_refl _) d m 1000 p w D0 hown hd hc hsz (λv W=>∃ x:Sl,v=x.v/\Sat W (slc T.a51 1 x ((z0w p A.fs).flatMap z22)::dk d A::r)) ?_)
 ·exact Calls.mono hfin λe w' ⟨v,he,x,hv,hs⟩=>⟨[x.v],by rw [he,hv];rfl,x,rfl,hs⟩
 intro D ss v W hD hS hbox hrow hB hK
 have hsR:=zxs hs0 hB
 have hsR:=zeg hsR (b:=w.heap.size+1) (by simp) hbox
 have hDB:D≠w.heap.size+1:=by omega
 have hsR:=zeg hsR (b:=D) (by simp;omega) hK
 have hpS:((z4o p ss).map z3w).Perm (z0w p A.fs):=by
  have h1:=((hS.map z3w).trans hkeys).filter (preF p)
  rw [List.filter_map] at h1
  exact h1
 have hflat:((z4o p ss).map z3w).flatMap z22=(z4o p ss).map encStr:=by
  rw [zue,List.map_map];rfl
 have hlen2:((z4o p ss).map z3w).length<576460752303423488:=by
  rw [hpS.length_eq]
  have h1:(z0w p A.fs).length<=A.fs.length:=by unfold z0w;exact Nat.le_trans (List.length_filter_le _ _) (by simp)
  have:=hok.many
  omega
 obtain ⟨x,rfl,hsx⟩:∃ x:Sl,v=x.v/\Sat W (slc T.a51 1 x (((z4o p ss).map z3w).flatMap z22)::pt D (.deferred (some []))::pt (w.heap.size+1) (.cells #[v] 65)::dk d A::r):=by
  rw [hflat]
  obtain ⟨hxl,h|⟨g,cap,cur,rfl,hg,hgb,hcap,-,hcur,htk⟩⟩:=hrow
  ·obtain ⟨rfl,hn0⟩:=h
   have:z4o p ss=[]:=List.length_eq_zero_iff.1 hn0
   rw [this]
   exact ⟨⟨none,0,0⟩,rfl,(zib hsR).slc_nil⟩
  ·have hgB:g≠w.heap.size+1:=λe=>by
    subst e
    have hbox:W.heap[w.heap.size+1]? = some (.cells #[_] 65 (0,0)):=hbox
    rw [hbox] at hgb
    cases hgb
   have hgD:g≠D:=λe=>by subst e;rw [hK] at hgb;cases hgb
   have hsR:=zib (zeg hsR (b:=g) (by simp;omega) hgb)
   refine ⟨⟨some ⟨g,0,none⟩,(z4o p ss).length,cap⟩,rfl,hsR.imp λq hq=>.inr ⟨g,0,cur,(0,0),rfl,hq,by simp,hcap,by simp [hcur],λi hi=>?_,z2b _ _⟩⟩
   rw [<- htk,List.length_take] at hi
   rw [<- htk,Nat.zero_add,List.getElem?_take,if_pos (by omega)]
   simp
 refine callsIn_wide.2 (Calls.mono (zis x _ (Nat.lt_trans hlen2 (by omega)) hsx) ?_)
 rintro e w' ⟨vs,rfl,rfl,ys,hys,hso,hs'⟩
 have hB1:=(hs'.pick [2]).get
 have hD1:=(hs'.pick [1]).get
 refine ⟨rfl,by rw [z58 hB1];rfl,hD1,x,rfl,?_⟩
 have hset:Sat (z2r w' D (.deferred none)) _:=(hs'.pick [1]).set (o':=.deferred none)
 rw [zbl (hys.trans hpS) hso (zgp hok.sorted p)] at hset
 exact hset.sub
end
end Go.Dec
