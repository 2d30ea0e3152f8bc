/- What the claim of this folder leans on: our own texts, joined, without what it does not use. -/
import Derived.Test.YtgpcickgjngglaaGreatRows
import Derived.WalkKit
import Derived.ProofKit
import Derived.OpenShut
import Derived.RowKit3
import Derived.OrdersHeld
import Derived.Scope
import Derived.KernelRfl
import Derived.Laws.Sem
import Derived.Laws.StructEq
import Derived.Deep.AppendSrc
import Derived.Laws.BytesArg
import Derived.Laws.RangeString
import Derived.Maps.RangeRun
import Derived.Lib.ConvBytes
import Derived.Lib.SlBytesConst
import Derived.ChangeSlices
import Derived.ChangeMaps5
import Derived.ChangeSame
import Derived.Deep.Slices
import Derived.Deep.Fields
import Derived.Test.YtgpcickgjngglaaGreatProg
import Derived.WideKeyRuns
import Derived.DeepKeys3
import Derived.Laws.MakeOwn
import Derived.Sort.MapsRangeIn
import Derived.Sort.KeysCollected
import Derived.RangeFuncNested
import Derived.RangeFuncBound
import Derived.RangeFuncCalls
import Derived.RangeFuncLeaves
import Derived.RangeFuncBox
import Derived.OwnWalkIn
import Derived.TacticsInMore
import Derived.RegionIn
import Derived.LoopNIn
import Derived.LoopIn
import Derived.Maps.AppendAt
import Derived.Shelf.Abstract
import Derived.Shelf.Sort.Plain
import Derived.Shelf.Slices.In.SortNone
import Derived.Test.YtgpcickgjngglaaGreatQLNil1
import Derived.Test.YtgpcickgjngglaaGreatQLNil2
import Derived.Test.YtgpcickgjngglaaGreatQLNil3
import Derived.Test.YtgpcickgjngglaaGreatQLNil4
import Derived.Test.YtgpcickgjngglaaGreatQLNil5
import Derived.Test.YtgpcickgjngglaaGreatQLNil6
set_option linter.unusedVariables false
set_option linter.unusedSimpArgs false
namespace Go.Dec
abbrev Lf:=Option (List UInt8)
def z0l:Lf->Nat × Lf
 | none=>(0,none)
 | some bs=>match z3n 0 bs with
  | none=>(0,none)
  | some p=>(p.1,some (bs.drop p.2))
def z1l (lo hi:Int) (s:Lf):Int × Lf:=match (z0l s).2 with
 | none=>(0,none)
 | some t=>if zag (z0l s).1<lo\/zag (z0l s).1>hi then (0,none) else (zag (z0l s).1,some t)
def z0v:Lf->Nat × Lf
 | some (c::t)=>(c.toNat,some t)
 | _=>(0,none)
def z4b:Lf->Bool × Lf
 | some (c::t)=>if c.toNat<=1 then (decide (c.toNat=1),some t) else (false,none)
 | _=>(false,none)
def z1k (most:Nat) (s:Lf):ByteArray × Lf:=match (z0l s).2 with
 | none=>(⟨#[]⟩,none)
 | some t=>if (z0l s).1<=most/\(z0l s).1<=t.length then (⟨(t.take (z0l s).1).toArray⟩,some (t.drop (z0l s).1)) else (⟨#[]⟩,none)
def z00 (most:Int) (s:Lf):Int × Lf:=(if ((z0l s).1:Int)>most then most+1 else (z0l s).1,(z0l s).2)
abbrev bl (s:ByteArray):List UInt8:=s.data.toList
theorem z7l {v:Nat} (h:v<18446744073709551616) (t:List UInt8):z0l (some (z3p v++t))=(v,some t):=by
 unfold z0l
 simp only [zir h,List.drop_left]
theorem z78 {s:Lf} {t:List UInt8} (h:(z0l s).2=some t):(z0l s).1<18446744073709551616/\s=some (z3p (z0l s).1++t):=by
 cases s with
 | none=>cases h
 | some bs =>
  cases hn:z3n 0 bs with
  | none =>
   have e:z0l (some bs)=(0,none):=by unfold z0l;simp only [hn]
   rw [e] at h;cases h
  | some p =>
   obtain ⟨v,k⟩:=p
   have e:z0l (some bs)=(v,some (bs.drop k)):=by unfold z0l;simp only [hn]
   rw [e] at h ⊢
   obtain ⟨h1,h2⟩:=zl4 hn
   simp only [Option.some.injEq] at h ⊢
   subst h
   exact ⟨h2,by rw [<- h1,List.take_append_drop]⟩
theorem zm5 {lo hi n:Int} (h1:lo<=n) (h2:n<=hi) (hn : -9223372036854775808<=n/\n<9223372036854775808) (t:List UInt8):z1l lo hi (some (z5g n++t))=(n,some t):=by
 unfold z1l z5g
 simp only [z7l (zx6 hn),z04j]
 rw [if_neg (by omega)]
theorem zms {lo hi:Int} {s:Lf} {t:List UInt8} (h:(z1l lo hi s).2=some t):(lo<=(z1l lo hi s).1/\(z1l lo hi s).1<=hi)/\s=some (z5g (z1l lo hi s).1++t):=by
 unfold z1l at h ⊢
 cases hu:(z0l s).2 with
 | none=>rw [hu] at h;cases h
 | some t' =>
  have h2:=z78 hu
  rw [hu] at h
  simp only at h ⊢
  split at h
  ·cases h
  rename_i h3
  simp only [Option.some.injEq] at h
  subst h
  rw [if_neg h3]
  refine ⟨by omega,?_⟩
  unfold z5g
  rw [z04k]
  exact h2.2
theorem zc9 {s:Lf} {t:List UInt8} (h:(z0v s).2=some t):(z0v s).1<256/\s=some (UInt8.ofNat (z0v s).1::t):=by
 match s,h with
 | some (c::r),h =>
  have h:some r=some t:=h
  cases h
  refine ⟨c.toNat_lt,?_⟩
  show some (c::t)=some (UInt8.ofNat c.toNat::t)
  rw [UInt8.ofNat_toNat]
 | some [],h=>cases h
 | none,h=>cases h
def z85 (b:Bool):UInt8:=if b then 1 else 0
theorem zrx (b:Bool) (t:List UInt8):z4b (some (z85 b::t))=(b,some t):=by
 cases b <;> rfl
theorem zvf {s:Lf} {t:List UInt8} (h:(z4b s).2=some t):s=some (z85 (z4b s).1::t):=by
 match s,h with
 | some (c::r),h =>
  unfold z4b at h ⊢
  simp only at h ⊢
  split at h
  ·rename_i h1
   simp only [Option.some.injEq] at h
   subst h
   rw [if_pos h1]
   congr 2
   by_cases h2:c.toNat=1
   ·rw [decide_eq_true h2];exact UInt8.toNat_inj.1 h2
   ·rw [decide_eq_false h2];exact UInt8.toNat_inj.1 (by show c.toNat=0;omega)
  ·cases h
 | some [],h=>cases h
 | none,h=>cases h
theorem z1g (s:ByteArray):(bl s).length=s.size:=rfl
theorem zfl (l:List UInt8):bl ⟨l.toArray⟩=l:=by simp [bl]
theorem zc7 {a b:ByteArray} (h:bl a=bl b):a=b:=by
 cases a;cases b;exact congrArg ByteArray.mk (Array.ext' h)
theorem zgh {most:Nat} (x:ByteArray) (h:x.size<=most) (hm:most<4294967296) (t:List UInt8):z1k most (some (uI x.size++(bl x++t)))=(x,some t):=by
 unfold z1k uI
 have e:((x.size:Int)).toNat=x.size:=by omega
 rw [e]
 simp only [z7l (show x.size<18446744073709551616 by omega)]
 rw [if_pos ⟨h,by rw [List.length_append,z1g];omega⟩,<- z1g,List.take_left,List.drop_left]
theorem zj9 {most:Nat} {s:Lf} {t:List UInt8} (h:(z1k most s).2=some t):(z1k most s).1.size<=most/\s=some (uI (z1k most s).1.size++(bl (z1k most s).1++t)):=by
 unfold z1k at h ⊢
 cases hu:(z0l s).2 with
 | none=>rw [hu] at h;cases h
 | some t' =>
  have h2:=z78 hu
  rw [hu] at h
  simp only at h ⊢
  split at h
  rotate_left
  ·cases h
  rename_i h3
  simp only [Option.some.injEq] at h
  subst h
  rw [if_pos h3]
  have e:(ByteArray.mk (t'.take (z0l s).1).toArray).size=(z0l s).1:=by
   show (t'.take (z0l s).1).length=_
   rw [List.length_take];omega
  refine ⟨by rw [e];exact h3.1,?_⟩
  rw [e,zfl,List.take_append_drop]
  unfold uI
  exact h2.2
theorem z5h {most n:Int} (h0:0<=n) (hn:n<=most) (hm:most<9223372036854775808) (t:List UInt8):z00 most (some (uI n++t))=(n,some t):=by
 unfold z00 uI
 rw [z7l (by omega),if_neg (by simp only;omega)]
 congr 1
 simp only;omega
theorem z67 {most:Int} (hm:0<=most) {s:Lf} {t:List UInt8} (h:(z00 most s).2=some t):(0<=(z00 most s).1/\(z00 most s).1<=most+1)/\((z00 most s).1<=most->s=some (uI (z00 most s).1++t)):=by
 have h2:=z78 (show (z0l s).2=some t from h)
 unfold z00
 simp only
 split
 ·exact ⟨⟨by omega,by omega⟩,λh3=>absurd h3 (by omega)⟩
 ·refine ⟨⟨by omega,by omega⟩,λh3=>?_⟩
  unfold uI
  rw [Int.toNat_natCast]
  exact h2.2
def z0n:List UInt8->List UInt8->Nat
 | a::x,b::y=>if a=b then z0n x y+1 else 0
 | _,_=>0
theorem z9r:∀ x y:List UInt8,z0n x y<=x.length/\z0n x y<=y.length
 | [],_=>by simp [z0n]
 | _::_,[]=>by simp [z0n]
 | a::x,b::y=>by
  have:=z9r x y
  unfold z0n
  split <;> simp <;> omega
theorem zdq:∀ x y:List UInt8,x.take (z0n x y)=y.take (z0n x y)
 | [],_=>by simp [z0n]
 | _::_,[]=>by simp [z0n]
 | a::x,b::y=>by
  unfold z0n
  split
  ·rename_i h
   rw [List.take_succ_cons,List.take_succ_cons,h,zdq x y]
  ·rfl
theorem zc5:∀ {x y:List UInt8} {i:Nat} (h1:i<=x.length) (h2:i<=y.length),x.take i=y.take i->(i=x.length\/i=y.length\/x[i]? ≠ y[i]?)->z0n x y=i
 | [],y,i,h1,h2,_,_=>by simp at h1;simp [z0n,h1]
 | _::_,[],i,h1,h2,_,_=>by simp at h2;simp [z0n,h2]
 | a::x,b::y,0,_,_,_,h=>by
  unfold z0n
  rw [if_neg]
  rintro rfl
  rcases h with h|h|h
  ·simp at h
  ·simp at h
  ·simp at h
 | a::x,b::y,i+1,h1,h2,ht,h=>by
  rw [List.take_succ_cons,List.take_succ_cons,List.cons.injEq] at ht
  unfold z0n
  rw [if_pos ht.1,zc5 (by simpa using h1) (by simpa using h2) ht.2]
  rcases h with h|h|h
  ·left;simpa using h
  ·right;left;simpa using h
  ·right;right;simpa using h
def z6t (ahead key:ByteArray):List UInt8:=uI (key.size-z0n (bl ahead) (bl key):Nat)++(bl key).drop (z0n (bl ahead) (bl key))
def z65 (time:Int) (ahead:ByteArray) (r:RecM):List UInt8 :=
 z5g (r.time-time)++(z85 r.gone::(uI (z0n (bl ahead) (bl r.key):Nat)++(z6t ahead r.key++if r.gone then [] else uI r.value.size++bl r.value)))
def z2g (time:Int):ByteArray->List RecM->List UInt8
 | _,[]=>[]
 | ahead,r::rs=>z65 time ahead r++z2g time r.key rs
def z2j (b:BatM):List UInt8 :=
 1::UInt8.ofNat b.kind.toNat::(uI b.base++(uI b.pid++((if b.pid>0 then uI b.epoch++(if z0i b then [] else uI b.seq) else [])++(uI b.time++if z0i b then [] else uI b.rs.length++z2g b.time ⟨#[]⟩ b.rs))))
def BatM.p (b:BatM):BatM:={ b with x:=⟨none,0,0⟩ }
def z4w (ahead:ByteArray) (n:Int) (rest:ByteArray):ByteArray:=ahead.extract 0 n.toNat++rest
def z3c (time:Int) (ahead:ByteArray) (s:Lf):Option RecM × Lf :=
 if (z00 1024 (z4b (z1l (-1099511627776) 1099511627776 s).2).2).1>ahead.size then (none,(z1k 1024 (z00 1024 (z4b (z1l (-1099511627776) 1099511627776 s).2).2).2).2) else
 let a:=z1l (-1099511627776) 1099511627776 s
 let b:=z4b a.2
 let c:=z00 1024 b.2
 let d:=z1k 1024 c.2
 let e:=if b.1 then (⟨#[]⟩,d.2) else z1k 1024 d.2
 if e.2.isSome=true/\(z0n (bl ahead) (bl (z4w ahead c.1 d.1)):Int)=c.1 then (some ⟨z4w ahead c.1 d.1,e.1,b.1,time+a.1⟩,e.2) else (none,e.2)
def z4i (time:Int):Nat->ByteArray->Lf->Option (List RecM × Lf)
 | 0,_,s=>some ([],s)
 | n+1,ahead,s=>match (z3c time ahead s).1 with
  | none=>none
  | some x=>(z4i time n x.key (z3c time ahead s).2).map λq=>(x::q.1,q.2)
theorem zpt (ahead rest:ByteArray) (n:Int):bl (z4w ahead n rest)=(bl ahead).take n.toNat++bl rest:=by
 unfold z4w bl
 simp [List.extract_eq_take_drop]
theorem zvn (ahead key:ByteArray):z4w ahead (z0n (bl ahead) (bl key):Nat) ⟨((bl key).drop (z0n (bl ahead) (bl key))).toArray⟩=key:=by
 apply zc7
 rw [zpt,zfl,Int.toNat_natCast,zdq,List.take_append_drop]
theorem z54 {r:RecM} (h:z28 r=0):r.key.size<=1024/\r.value.size<=1024/\(0<=r.time/\r.time<=1099511627776)/\(r.gone=true->r.value=⟨#[]⟩):=by
 unfold z28 at h
 split at h
 ·cases h
 rename_i h1
 split at h
 ·cases h
 rename_i h2
 refine ⟨by omega,by omega,by omega,λhg=>?_⟩
 apply Decidable.byContradiction
 intro h3
 exact h2 (.inr ⟨hg,zlt.2 h3⟩)
theorem zso {time:Int} (ht:0<=time/\time<=1099511627776) {r:RecM} (hr:z28 r=0) (ahead:ByteArray) (t:List UInt8):z3c time ahead (some (z65 time ahead r++t))=(some r,some t):=by
 obtain ⟨h1,h2,h3,h4⟩:=z54 hr
 have hle:=z9r (bl ahead) (bl r.key)
 rw [z1g,z1g] at hle
 have hd:(ByteArray.mk ((bl r.key).drop (z0n (bl ahead) (bl r.key))).toArray).size=r.key.size-z0n (bl ahead) (bl r.key):=by
  show ((bl r.key).drop _).length=_
  rw [List.length_drop,z1g]
 have e0:z65 time ahead r++t=z5g (r.time-time)++(z85 r.gone::(uI (z0n (bl ahead) (bl r.key):Nat)++(uI ((ByteArray.mk ((bl r.key).drop (z0n (bl ahead) (bl r.key))).toArray).size:Nat)++(bl (ByteArray.mk ((bl r.key).drop (z0n (bl ahead) (bl r.key))).toArray)++((if r.gone then [] else uI r.value.size++bl r.value)++t))))):=by
  rw [hd,zfl]
  unfold z65 z6t
  simp only [List.append_assoc,List.cons_append]
 rw [e0]
 generalize hZ:(if r.gone then [] else uI r.value.size++bl r.value)++t=Z
 have e1:=zm5 (lo := -1099511627776) (hi:=1099511627776) (n:=r.time-time) (by omega) (by omega) (by omega)
 have e3:=z5h (most:=1024) (n:=(z0n (bl ahead) (bl r.key):Nat)) (by omega) (by omega) (by omega)
 have e4:=zgh (most:=1024) (ByteArray.mk ((bl r.key).drop (z0n (bl ahead) (bl r.key))).toArray) (by rw [hd];omega) (by omega)
 unfold z3c
 simp only [e1,zrx,e3,e4,zvn]
 rw [if_neg (by omega)]
 have e5:(if r.gone=true then ((⟨#[]⟩:ByteArray),some Z) else z1k 1024 (some Z))=(r.value,some t):=by
  by_cases hg:r.gone=true
  ·rw [if_pos hg] at hZ ⊢
   rw [h4 hg,<- hZ];rfl
  ·rw [if_neg hg] at hZ ⊢
   rw [<- hZ,List.append_assoc]
   exact zgh _ h2 (by omega) t
 rw [e5]
 simp only [Option.isSome_some,true_and]
 rw [if_pos trivial,show time+(r.time-time)=r.time by omega]
theorem zwf {time:Int} {ahead:ByteArray} (hah:ahead.size<=1024) {s:Lf} {r:RecM} (h:(z3c time ahead s).1=some r):∃ t,(z3c time ahead s).2=some t/\s=some (z65 time ahead r++t):=by
 unfold z3c at h ⊢
 split at h
 ·cases h
 rename_i hc
 rw [if_neg hc]
 simp only at h ⊢
 generalize ha:z1l (-1099511627776) 1099511627776 s=a at *
 generalize hb:z4b a.2=b at *
 generalize hcc:z00 1024 b.2=c at *
 generalize hd:z1k 1024 c.2=d at *
 generalize he:(if b.1=true then ((⟨#[]⟩:ByteArray),d.2) else z1k 1024 d.2)=e at *
 split at h
 rotate_left
 ·cases h
 rename_i h5
 rw [if_pos h5]
 obtain ⟨h5,h6⟩:=h5
 obtain ⟨t,ht⟩:=Option.isSome_iff_exists.1 h5
 refine ⟨t,ht,?_⟩
 simp only [Option.some.injEq] at h
 have hd2:d.2=some ((if b.1=true then [] else uI e.1.size++bl e.1)++t):=by
  by_cases hg:b.1=true
  ·rw [if_pos hg] at he ⊢
   rw [<- he] at ht
   exact ht
  ·rw [if_neg hg] at he ⊢
   rw [<- he] at ht ⊢
   rw [List.append_assoc]
   exact (zj9 ht).2
 rw [<- hd] at hd2
 have h7:=zj9 hd2
 rw [hd] at h7
 have hc2:c.2=_:=h7.2
 rw [<- hcc] at hc2
 have h8:=z67 (by omega) hc2
 rw [hcc] at h8
 have hle:=z9r (bl ahead) (bl (z4w ahead c.1 d.1))
 have hb2:=h8.2 (by omega)
 rw [<- hb] at hb2
 have ha2:=zvf hb2
 rw [hb,<- ha] at ha2
 have h9:=zms ha2
 rw [ha] at h9
 rw [h9.2,<- h]
 unfold z65 z6t
 simp only
 have hn:c.1.toNat=z0n (bl ahead) (bl (z4w ahead c.1 d.1)):=by omega
 have hl1:((bl ahead).take c.1.toNat).length=c.1.toNat:=by rw [List.length_take,hn];omega
 have hdrop:(bl (z4w ahead c.1 d.1)).drop c.1.toNat=bl d.1:=by
  rw [zpt]
  exact List.drop_left' hl1
 have hsz:(z4w ahead c.1 d.1).size-c.1.toNat=d.1.size:=by
  rw [<- z1g,<- z1g,<- hdrop,List.length_drop]
 rw [<- hn,hdrop,hsz,show time+a.1-time=a.1 by omega,show ((c.1.toNat:Nat):Int)=c.1 by omega]
 simp only [List.append_assoc,List.cons_append]
theorem zgb {time:Int} (ht:0<=time/\time<=1099511627776):∀ {rs:List RecM} (hr:∀ r ∈ rs,z28 r=0) (ahead:ByteArray) (t:List UInt8),z4i time rs.length ahead (some (z2g time ahead rs++t))=some (rs,some t)
 | [],_,_,_=>rfl
 | r::rs,hr,ahead,t=>by
  have e:=zso ht (hr r (List.mem_cons_self ..)) ahead (z2g time r.key rs++t)
  show z4i time (rs.length+1) ahead (some ((z65 time ahead r++z2g time r.key rs)++t))=_
  rw [List.append_assoc]
  unfold z4i
  rw [e]
  simp only
  rw [zgb ht (λx hx=>hr x (List.mem_cons_of_mem _ hx)) r.key t]
  rfl
theorem ziy {time:Int}:∀ {n:Nat} {ahead:ByteArray} (hah:ahead.size<=1024) {s:Lf} {rs:List RecM} {t:List UInt8} (hk:∀ r ∈ rs,r.key.size<=1024) (h:z4i time n ahead s=some (rs,some t)),rs.length=n/\s=some (z2g time ahead rs++t)
 | 0,ahead,hah,s,rs,t,hk,h=>by
  simp only [z4i,Option.some.injEq,Prod.mk.injEq] at h
  obtain ⟨rfl,rfl⟩:=h
  exact ⟨rfl,rfl⟩
 | n+1,ahead,hah,s,rs,t,hk,h=>by
  unfold z4i at h
  cases hx:(z3c time ahead s).1 with
  | none=>rw [hx] at h;cases h
  | some x =>
   rw [hx] at h
   simp only [Option.map_eq_some_iff,Prod.mk.injEq] at h
   obtain ⟨⟨rs',s'⟩,h1,rfl,rfl⟩:=h
   obtain ⟨t1,h2,h3⟩:=zwf hah hx
   rw [h2] at h1
   have hk1:x.key.size<=1024:=hk x (List.mem_cons_self ..)
   obtain ⟨h4,h5⟩:=ziy hk1 (λr hr=>hk r (List.mem_cons_of_mem _ hr)) h1
   simp only [Option.some.injEq] at h5
   refine ⟨by rw [List.length_cons,h4],?_⟩
   rw [h3,h5]
   show some (z65 time ahead x++(z2g time x.key rs'++t))=some ((z65 time ahead x++z2g time x.key rs')++t)
   rw [List.append_assoc]
def z7t:Sl:=⟨none,0,0⟩
structure HdS where
 k:Nat × Lf
 ba:Int × Lf
 pi:Int × Lf
 ep:Int × Lf
 sq:Int × Lf
 tm:Int × Lf
def z36 (k:Nat):Bool:=decide ((k:Int)=2) || decide ((k:Int)=3)
def hdS (s:Lf):HdS :=
 let k:=z0v s
 let ba:=z00 1099511627776 k.2
 let pi:=z00 1048576 ba.2
 let ep:=if pi.1>0 then z00 32767 pi.2 else (0,pi.2)
 let sq:=if pi.1>0/\z36 k.1=false then z00 2147483647 ep.2 else (0,ep.2)
 ⟨k,ba,pi,ep,sq,z00 1099511627776 sq.2⟩
def HdS.b (h:HdS) (rs:List RecM):BatM:=⟨h.ba.1,h.pi.1,h.ep.1,h.sq.1,h.k.1,h.tm.1,z7t,rs⟩
def zk6 (h:HdS):Option BatM :=
 if h.tm.2.isSome=false\/h.tm.1>1099511627776 then none else
 if z36 h.k.1=true then (if h.tm.2=some []/\z05 (h.b [])=0 then some (h.b []) else none) else
 if (z00 64 h.tm.2).1>64 then none else
 match z4i h.tm.1 (z00 64 h.tm.2).1.toNat ⟨#[]⟩ (z00 64 h.tm.2).2 with
 | none=>none
 | some q=>if q.2=some []/\z05 (h.b q.1)=0 then some (h.b q.1) else none
def z5s (raw:List UInt8):Option BatM:=if (z0v (some raw)).1≠1 then none else zk6 (hdS (z0v (some raw)).2)
theorem zk3:∀ {rs:List RecM},z5q rs=0->∀ r ∈ rs,z28 r=0
 | [],_,r,h=>by cases h
 | x::rs,h,r,hr=>by
  have h:(if z28 x≠0 then z28 x else z5q rs)=0:=h
  by_cases hx:z28 x≠0
  ·rw [if_pos hx] at h;exact absurd h hx
  rw [if_neg hx] at h
  rcases List.mem_cons.1 hr with rfl|hr
  ·exact Decidable.not_not.1 hx
  ·exact zk3 h r hr
theorem z2v {b:BatM} (hv:z05 b=0):b.rs.length<=64/\∀ r ∈ b.rs,z28 r=0:=by
 unfold z05 at hv
 split at hv
 ·cases hv
 split at hv
 ·cases hv
 rename_i h2
 split at hv
 ·rename_i h3;exact absurd hv h3
 rename_i h3
 exact ⟨by omega,zk3 (Decidable.not_not.1 h3)⟩
theorem zqg {b:BatM} (h:0<=b.kind):z36 b.kind.toNat=z0i b:=by
 unfold z36 z0i
 rw [Int.toNat_of_nonneg h]
theorem zxq {b:BatM} (hv:z05 b=0):∃ s1 s2 s3 s4 s5,hdS (z0v (some (z2j b))).2=⟨(b.kind.toNat,s1),(b.base,s2),(b.pid,s3),(b.epoch,s4),(b.seq,s5),(b.time,some (if z0i b then [] else uI b.rs.length++z2g b.time ⟨#[]⟩ b.rs))⟩:=by
 obtain ⟨-,-,⟨hk,hba,hpi,hep,hsq,htm⟩,hfit,-⟩:=z16 b hv
 unfold z2j
 generalize hY:(if z0i b then [] else uI b.rs.length++z2g b.time ⟨#[]⟩ b.rs)=Y
 have e1:∀ t,z0v (some (UInt8.ofNat b.kind.toNat::t))=(b.kind.toNat,some t):=λt=>by
  show ((UInt8.ofNat b.kind.toNat).toNat,some t)=_
  rw [UInt8.toNat_ofNat']
  congr 1
  omega
 have e2:=z5h (most:=1099511627776) (n:=b.base) hba.1 hba.2 (by omega)
 have e3:=z5h (most:=1048576) (n:=b.pid) hpi.1 hpi.2 (by omega)
 have e4:=z5h (most:=32767) (n:=b.epoch) hep.1 hep.2 (by omega)
 have e5:=z5h (most:=2147483647) (n:=b.seq) hsq.1 hsq.2 (by omega)
 have e6:=z5h (most:=1099511627776) (n:=b.time) htm.1 htm.2 (by omega)
 show ∃ s1 s2 s3 s4 s5,hdS (some (UInt8.ofNat b.kind.toNat::_))=_
 unfold hdS
 simp only [e1,e2,e3,zqg hk.1]
 by_cases hp:b.pid>0
 ·rw [if_pos hp,if_pos hp]
  by_cases hm:z0i b=true
  ·have hs0:b.seq=0:=by have:=hfit.2;rw [if_pos hm] at this;exact this.1
   simp only [hm,if_true,Bool.true_eq_false,and_false,if_false,List.append_nil,List.append_assoc,e4,e6]
   exact ⟨_,_,_,_,_,by rw [hs0]⟩
  ·have hm:z0i b=false:=by simpa using hm
   simp only [hm,hp,Bool.false_eq_true,and_self,if_true,if_false,List.append_assoc,e4,e5,e6]
   exact ⟨_,_,_,_,_,rfl⟩
 ·have h0:b.pid=0:=by omega
  have hz:b.kind=0/\b.epoch=0/\b.seq=0:=by
   have:=hfit.1
   refine ⟨?_,?_,?_⟩ <;> (apply Decidable.byContradiction;intro h;apply this;simp [h0,h])
  rw [if_neg hp,if_neg hp,if_neg (λh=>hp h.1)]
  simp only [List.nil_append,e6]
  exact ⟨_,_,_,_,_,by rw [hz.2.1,hz.2.2]⟩
theorem zi3 {b:BatM} (hv:z05 b=0):z5s (z2j b)=some b.p:=by
 obtain ⟨s1,s2,s3,s4,s5,h⟩:=zxq hv
 obtain ⟨-,-,⟨hk,hba,hpi,hep,hsq,htm⟩,hfit,-⟩:=z16 b hv
 obtain ⟨h64,hrs⟩:=z2v hv
 have hb:∀ rs,(HdS.mk (b.kind.toNat,s1) (b.base,s2) (b.pid,s3) (b.epoch,s4) (b.seq,s5) (b.time,some (if z0i b then [] else uI b.rs.length++z2g b.time ⟨#[]⟩ b.rs))).b rs={ b.p with rs:=rs }:=λrs=>by
  unfold HdS.b BatM.p
  simp only [Int.toNat_of_nonneg hk.1]
  rfl
 unfold z5s
 rw [h,if_neg (by show ¬ ((1:Nat)≠1);simp)]
 unfold zk6
 rw [if_neg (by simp only [Option.isSome_some];rintro (h|h);cases h;omega)]
 simp only [hb,zqg hk.1]
 by_cases hm:z0i b=true
 ·have h0:b.rs=[]:=by have:=hfit.2;rw [if_pos hm] at this;exact List.length_eq_zero_iff.1 this.2
  rw [if_pos hm,if_pos hm]
  have e:{ b.p with rs:=[] }=b.p:=by rw [<- h0];rfl
  rw [e,if_pos ⟨rfl,hv⟩]
 ·have e1:=z5h (most:=64) (n:=(b.rs.length:Int)) (by omega) (by omega) (by omega) (z2g b.time ⟨#[]⟩ b.rs)
  have e2:=zgb htm hrs ⟨#[]⟩ []
  rw [List.append_nil] at e2
  rw [if_neg hm,if_neg hm]
  simp only [e1,Int.toNat_natCast,e2]
  rw [if_neg (by omega),if_pos (by first|exact ⟨rfl,hv⟩|exact ⟨trivial,hv⟩)]
  rfl
theorem zq2 {s:Lf} {t:List UInt8} (h:(hdS s).tm.2=some t) (htm:(hdS s).tm.1<=1099511627776) {rs:List RecM} (hv:z05 ((hdS s).b rs)=0) :
  s=some (UInt8.ofNat ((hdS s).b rs).kind.toNat::(uI ((hdS s).b rs).base++(uI ((hdS s).b rs).pid++((if ((hdS s).b rs).pid>0 then uI ((hdS s).b rs).epoch++(if z0i ((hdS s).b rs) then [] else uI ((hdS s).b rs).seq) else [])++(uI ((hdS s).b rs).time++t))))):=by
 obtain ⟨-,-,⟨hk,hba,hpi,hep,hsq,-⟩,hfit,-⟩:=z16 _ hv
 unfold hdS at *
 unfold HdS.b at *
 simp only at *
 generalize e1:z0v s=k at *
 generalize e2:z00 1099511627776 k.2=ba at *
 generalize e3:z00 1048576 ba.2=pi at *
 generalize e4:(if pi.1>0 then z00 32767 pi.2 else (0,pi.2))=ep at *
 generalize e5:(if pi.1>0/\z36 k.1=false then z00 2147483647 ep.2 else (0,ep.2))=sq at *
 have hmk:z0i (⟨ba.1,pi.1,ep.1,sq.1,k.1,(z00 1099511627776 sq.2).1,z7t,rs⟩:BatM)=z36 k.1:=rfl
 have h6:=(z67 (by omega) h).2 htm
 have h5:ep.2=some ((if pi.1>0/\z36 k.1=false then uI sq.1 else [])++(uI (z00 1099511627776 sq.2).1++t)):=by
  generalize (z00 1099511627776 sq.2).1=tm at *
  by_cases hc:pi.1>0/\z36 k.1=false
  ·rw [if_pos hc] at e5 ⊢
   rw [<- e5] at h6 hsq ⊢
   exact (z67 (by omega) h6).2 hsq.2
  ·rw [if_neg hc] at e5 ⊢
   rw [<- e5] at h6
   exact h6
 generalize (z00 1099511627776 sq.2).1=tm at *
 have h4:pi.2=some ((if pi.1>0 then uI ep.1 else [])++((if pi.1>0/\z36 k.1=false then uI sq.1 else [])++(uI tm++t))):=by
  by_cases hc:pi.1>0
  ·rw [if_pos hc] at e4 ⊢
   rw [<- e4] at h5 hep ⊢
   exact (z67 (by omega) h5).2 hep.2
  ·rw [if_neg hc] at e4 ⊢
   rw [<- e4] at h5
   exact h5
 rw [<- e3] at h4 hpi
 have h3:=(z67 (by omega) h4).2 hpi.2
 rw [e3] at h3
 rw [<- e2] at h3 hba
 have h2:=(z67 (by omega) h3).2 hba.2
 rw [e2] at h2
 rw [<- e1] at h2
 have h1:=(zc9 h2).2
 rw [e1] at h1
 have e:(if pi.1>0 then uI ep.1 else [])++((if pi.1>0/\z36 k.1=false then uI sq.1 else [])++(uI tm++t))=(if pi.1>0 then uI ep.1++(if z36 k.1 then [] else uI sq.1) else [])++(uI tm++t):=by
  by_cases hp:pi.1>0
  ·by_cases hm:z36 k.1=true
   ·simp [hp,hm]
   ·simp [hp,hm]
  ·simp [hp]
 rw [h1,hmk,Int.toNat_natCast,e]
theorem zkc {raw:List UInt8} {b:BatM} (h:z5s raw=some b):z05 b=0/\z2j b=raw/\b.p=b:=by
 unfold z5s at h
 split at h
 ·cases h
 rename_i h1
 have h1:(z0v (some raw)).1=1:=Decidable.not_not.1 h1
 generalize hs:(z0v (some raw)).2=s at h
 have hraw:∀ t,s=some t->raw=1::t:=λt ht=>by
  rw [<- hs] at ht
  have:=(zc9 ht).2
  rw [h1] at this
  exact Option.some.inj this
 unfold zk6 at h
 split at h
 ·cases h
 rename_i h2
 have h3:(hdS s).tm.2.isSome=true:=by
  cases he:(hdS s).tm.2.isSome with
  | true=>rfl
  | false=>exact absurd (.inl he) h2
 have h4:(hdS s).tm.1<=1099511627776:=by omega
 obtain ⟨t,ht⟩:=Option.isSome_iff_exists.1 h3
 split at h
 ·rename_i hm
  split at h
  rotate_left
  ·cases h
  rename_i h5
  simp only [Option.some.injEq] at h
  subst h
  refine ⟨h5.2,?_,rfl⟩
  have h6:=hraw _ (zq2 h5.1 h4 h5.2)
  rw [h6]
  have hm:z0i ((hdS s).b [])=true:=hm
  unfold z2j
  rw [hm]
  rfl
 ·rename_i hm
  split at h
  ·cases h
  rename_i h7
  cases hr:z4i (hdS s).tm.1 (z00 64 (hdS s).tm.2).1.toNat ⟨#[]⟩ (z00 64 (hdS s).tm.2).2 with
  | none=>rw [hr] at h;cases h
  | some q =>
   rw [hr] at h
   simp only at h
   split at h
   rotate_left
   ·cases h
   rename_i h5
   simp only [Option.some.injEq] at h
   subst h
   refine ⟨h5.2,?_,rfl⟩
   obtain ⟨rs,q2⟩:=q
   obtain ⟨rfl,h5⟩:=h5
   have hrs:=(z2v h5).2
   obtain ⟨h8,h9⟩:=ziy (by decide) (λr hr=>(z54 (hrs r hr)).1) hr
   have h10:=z67 (by omega) h9
   have h11:=h10.2 (by omega)
   have h6:=hraw _ (zq2 h11 h4 h5)
   rw [h6]
   have hm:z0i ((hdS s).b rs)≠true:=hm
   unfold z2j
   rw [if_neg hm,if_neg hm]
   have e:((hdS s).b rs).rs.length=(z00 64 (hdS s).tm.2).1:=by
    have h12:=h10.1
    have h13:rs.length=(z00 64 (hdS s).tm.2).1.toNat:=h8
    show ((rs.length:Nat):Int)=_
    rw [h13,Int.toNat_of_nonneg h12.1]
   rw [e,List.append_nil]
   rfl
abbrev polyB:BitVec 32:=0xEDB88320#32
def zxc (s:BitVec 32):BitVec 32:=(s >>> 1) ^^^ (polyB &&& (0#32-(s &&& 1#32)))
def zrn:Nat->BitVec 32->BitVec 32
 | 0,s=>s
 | k+1,s=>zxc (zrn k s)
def zrm (s:BitVec 32) (c:UInt8):BitVec 32:=zrn 8 (s ^^^ BitVec.ofNat 32 c.toNat)
def z5i (s:BitVec 32) (bs:List UInt8):BitVec 32:=bs.foldl zrm s
def zsd (x:BitVec 32) (bs:List UInt8):BitVec 32 := ~~~ (z5i (~~~ x) bs)
def z9i (bs:List UInt8):Nat:=(zsd 0#32 bs).toNat
def z3k (n:Nat):List UInt8:=[UInt8.ofNat n,UInt8.ofNat (n / 256),UInt8.ofNat (n / 65536),UInt8.ofNat (n / 16777216)]
def z0h:List UInt8->Nat
 | a::b::c::d::_=>a.toNat+256*b.toNat+65536*c.toNat+16777216*d.toNat
 | _=>0
def z34 (bs:List UInt8):List UInt8:=z3k bs.length++bs
def z2h (bs:List UInt8):List UInt8:=if bs.length>262144 then [] else z34 bs++z3k (z9i (z34 bs))
def z0x (b:List UInt8):Option (List UInt8 × Nat) :=
 if b.length<8\/z0h b>262144\/z0h b+8>b.length then none else if z0h (b.drop (z0h b+4))=z9i (b.take (z0h b+4)) then some ((b.drop 4).take (z0h b),z0h b+8) else none
theorem zw5 (a b c d:UInt8) (r:List UInt8):z0h (a::b::c::d::r)=a.toNat+256*b.toNat+65536*c.toNat+16777216*d.toNat:=rfl
theorem zl3 {n:Nat} (h:n<4294967296) (r:List UInt8):z0h (z3k n++r)=n:=by
 unfold z3k z0h
 simp
 omega
theorem zek:∀ (b:List UInt8),4<=b.length->z3k (z0h b)=b.take 4/\z0h b<4294967296
 | a::b::c::d::r,_=>by
  have h1:=a.toNat_lt
  have h2:=b.toNat_lt
  have h3:=c.toNat_lt
  have h4:=d.toNat_lt
  rw [zw5]
  refine ⟨?_,by omega⟩
  have e:∀ (x:UInt8) (n:Nat),n % 256=x.toNat->UInt8.ofNat n=x:=λx n h=>by
   apply UInt8.toNat_inj.1
   simp [h]
  unfold z3k
  rw [e a _ (by omega),e b _ (by omega),e c _ (by omega),e d _ (by omega)]
  rfl
theorem z5w (n:Nat):(z3k n).length=4:=rfl
theorem zr1 (bs:List UInt8):z9i bs<4294967296:=(zsd 0#32 bs).isLt
theorem z6c {bs:List UInt8} (h:bs.length<=262144) (r:List UInt8):z0x (z2h bs++r)=some (bs,bs.length+8):=by
 have hs:=zr1 (z34 bs)
 have hl:(z34 bs).length=bs.length+4:=by unfold z34;rw [List.length_append,z5w];omega
 have e0:z2h bs++r=z34 bs++(z3k (z9i (z34 bs))++r):=by unfold z2h;rw [if_neg (by omega),List.append_assoc]
 have e1:z0h (z2h bs++r)=bs.length:=by
  rw [e0];unfold z34;rw [List.append_assoc];exact zl3 (by omega) _
 have e2:(z2h bs++r).length=bs.length+8+r.length:=by
  rw [e0,List.length_append,List.length_append,hl,z5w];omega
 unfold z0x
 rw [e1,e2,if_neg (by omega),e0,<- hl,List.drop_left,List.take_left,zl3 hs,if_pos rfl]
 congr 2
 unfold z34
 rw [List.append_assoc,show (4:Nat)=(z3k bs.length).length from rfl,List.drop_left,List.take_left]
theorem z5v {b body:List UInt8} {n:Nat} (h:z0x b=some (body,n)):n=body.length+8/\n<=b.length/\body.length<=262144/\b.take n=z2h body:=by
 unfold z0x at h
 split at h
 ·cases h
 rename_i h1
 split at h
 ·rename_i h2
  simp only [Option.some.injEq,Prod.mk.injEq] at h
  obtain ⟨rfl,rfl⟩:=h
  have hbl:((b.drop 4).take (z0h b)).length=z0h b:=by rw [List.length_take,List.length_drop];omega
  refine ⟨by rw [hbl],by omega,by rw [hbl];omega,?_⟩
  have hh:z34 ((b.drop 4).take (z0h b))=b.take (z0h b+4):=by
   unfold z34
   rw [hbl,(zek b (by omega)).1,Nat.add_comm,List.take_add]
  unfold z2h
  rw [if_neg (by rw [hbl];omega),hh,<- h2,(zek (b.drop (z0h b+4)) (by rw [List.length_drop];omega)).1,show z0h b+8=(z0h b+4)+4 from rfl,List.take_add]
 ·cases h
theorem zve (b:List UInt8):z0x b=if b.length<8\/z0h b>262144\/z0h b+8>b.length then none else if z2h ((b.drop 4).take (z0h b))=b.take (z0h b+8) then some ((b.drop 4).take (z0h b),z0h b+8) else none:=by
 by_cases h1:b.length<8\/z0h b>262144\/z0h b+8>b.length
 ·unfold z0x;rw [if_pos h1,if_pos h1]
 rw [if_neg h1]
 by_cases h2:z2h ((b.drop 4).take (z0h b))=b.take (z0h b+8)
 ·rw [if_pos h2]
  have hbl:((b.drop 4).take (z0h b)).length=z0h b:=by rw [List.length_take,List.length_drop];omega
  have h3:=z6c (bs:=(b.drop 4).take (z0h b)) (by rw [hbl];omega) (b.drop (z0h b+8))
  rw [h2,List.take_append_drop,hbl] at h3
  exact h3
 ·rw [if_neg h2]
  cases hf:z0x b with
  | none=>rfl
  | some q =>
   obtain ⟨g1,g2,g3,g4⟩:=z5v (body:=q.1) (n:=q.2) hf
   unfold z0x at hf
   rw [if_neg h1] at hf
   split at hf
   ·simp only [Option.some.injEq] at hf
    subst hf
    exact absurd g4.symm h2
   ·cases hf
def shB (base fin:Int):List UInt8:=83::(uI base++uI fin)
def shL (base fin:Int):List UInt8:=z2h (shB base fin)
def frL (b:BatM):List UInt8:=z2h (z2j b)
structure SegA where
 base:Int
 fin:Int
 bs:List BatM
def SegA.file (s:SegA):List UInt8:=shL s.base s.fin++s.bs.flatMap frL
def z0d (bs:List BatM):Int:=match bs.getLast? with
 | none=>0
 | some b=>b.base+zo b
def SegA.reach (s:SegA):Int:=max (max s.base s.fin) (z0d s.bs)
def z5p (x:Int) (rs:List RecM):Int:=rs.foldl (λt r=>max t r.time) x
def z35 (b:BatM):Int:=if b.rs=[] then b.time else z5p (-1) b.rs
def z1e (x:Int) (bs:List BatM):Int:=bs.foldl (λt b=>max t (z35 b)) x
def zt (l:List SegA):Int:=match l.getLast? with
 | none=>0
 | some s=>s.reach
def z1b (l:List SegA):Int:=match l with
 | []=>0
 | s::_=>s.base
def z1m:Int->List BatM->Prop
 | _,[]=>True
 | n,b::bs=>z05 b=0/\b.p=b/\n<=b.base/\z1m (b.base+zo b) bs
structure SegOk (s:SegA):Prop where
 base:0<=s.base/\s.base<=1099511627776
 fin:s.fin=0\/(s.base<s.fin/\s.fin<=1099511627776)
 bs:z1m s.base s.bs
def z0b:Int->List SegA->Prop
 | _,[]=>True
 | n,s::r=>n<=s.base/\SegOk s/\z0b (max s.reach (s.base+1)) r
def z5l (base:Int) (body:List UInt8):Option Int :=
 let a:=z0v (some body)
 let b:=z0l a.2
 let c:=z0l b.2
 if c.2=some []/\a.1=83/\(b.1:Int)=base/\base<=1099511627776/\c.1<=1099511627776/\(c.1=0\/base<c.1) then some c.1 else none
def z2b:Nat->Int->List UInt8->List BatM × Nat
 | 0,_,_=>([],0)
 | k+1,n,raw=>match z0x raw with
  | none=>([],0)
  | some (body,m)=>match z5s body with
   | none=>([],0)
   | some b=>if b.base<n then ([],0) else (b::(z2b k (b.base+zo b) (raw.drop m)).1,m+(z2b k (b.base+zo b) (raw.drop m)).2)
def z4k (base:Int) (raw:List UInt8):Option (SegA × Nat):=match z0x raw with
 | none=>none
 | some (body,m)=>match z5l base body with
  | none=>none
  | some fin=>some (⟨base,fin,(z2b raw.length base (raw.drop m)).1⟩,m+(z2b raw.length base (raw.drop m)).2)
theorem z7x {bs:List UInt8} (h:bs.length<=262144):(z2h bs).length=bs.length+8:=by
 unfold z2h
 rw [if_neg (by omega),List.length_append,z5w]
 show (z3k _++_).length+4=_
 rw [List.length_append,z5w]
 omega
theorem zdg (base fin:Int):3<=(shB base fin).length/\(shB base fin).length<=21:=by
 have h1:=z1u base
 have h2:=z1u fin
 unfold shB
 rw [List.length_cons,List.length_append]
 omega
theorem zhj (base fin:Int):11<=(shL base fin).length/\(shL base fin).length<=29:=by
 have h:=zdg base fin
 unfold shL
 rw [z7x (by omega)]
 omega
theorem zys {time:Int} {ahead:ByteArray} {r:RecM}:(z65 time ahead r).length<=31+r.key.size+10+r.value.size:=by
 unfold z65 z6t
 have h1:=zj5 (r.time-time)
 have h2:=z1u ((z0n (bl ahead) (bl r.key):Nat):Int)
 have h3:=z1u (((r.key.size-z0n (bl ahead) (bl r.key):Nat)):Int)
 have h4:=z1u (r.value.size:Int)
 have h5:=z1g r.key
 have h6:=z1g r.value
 simp only [List.length_append,List.length_cons,List.length_drop]
 split
 ·simp only [List.length_nil];omega
 ·simp only [List.length_append];omega
theorem zcz {time:Int} {n:Nat}:∀ {rs:List RecM} {ahead:ByteArray},(∀ r ∈ rs,r.key.size+r.value.size<=n)->(z2g time ahead rs).length<=rs.length*(41+n)
 | [],_,_=>by simp [z2g]
 | r::rs,ahead,h=>by
  have h1:=zys (time:=time) (ahead:=ahead) (r:=r)
  have h2:=zcz (time:=time) (n:=n) (rs:=rs) (ahead:=r.key) λx hx=>h x (List.mem_cons_of_mem _ hx)
  have h3:=h r (List.mem_cons_self ..)
  unfold z2g
  rw [List.length_append,List.length_cons,Nat.add_mul]
  omega
theorem zpr {b:BatM} {n:Nat} (h:∀ r ∈ b.rs,r.key.size+r.value.size<=n):2<=(z2j b).length/\(z2j b).length<=62+b.rs.length*(41+n):=by
 have h1:=z1u b.base
 have h2:=z1u b.pid
 have h3:=z1u b.epoch
 have h4:=z1u b.seq
 have h5:=z1u b.time
 have h6:=z1u (b.rs.length:Nat)
 have h7:=zcz (time:=b.time) (ahead:=⟨#[]⟩) h
 unfold z2j
 simp only [List.length_cons,List.length_append]
 split <;> split <;> simp only [List.length_nil,List.length_append] <;> omega
theorem z5r {b:BatM} (hv:z05 b=0):2<=(z2j b).length/\(z2j b).length<=262144:=by
 obtain ⟨h64,hrs⟩:=z2v hv
 have h:=zpr (b:=b) (n:=2048) λr hr=>by
  obtain ⟨h1,h2,-⟩:=z54 (hrs r hr)
  omega
 have:b.rs.length*(41+2048)<=64*(41+2048):=Nat.mul_le_mul_right _ h64
 omega
theorem z4v {b:BatM} (hv:z05 b=0):10<=(frL b).length/\(frL b).length=(z2j b).length+8:=by
 have h:=z5r hv
 unfold frL
 rw [z7x h.2]
 omega
theorem zs1 {base fin:Int} (hb:0<=base/\base<=1099511627776) (hf:fin=0\/(base<fin/\fin<=1099511627776)):z5l base (shB base fin)=some fin:=by
 unfold z5l shB
 have e1:z0v (some (83::(uI base++uI fin)))=(83,some (uI base++uI fin)):=rfl
 have e2:z0l (some (uI base++uI fin))=(base.toNat,some (uI fin)):=z7l (by omega) _
 have e3:z0l (some (uI fin))=(fin.toNat,some []):=by
  have:=z7l (v:=fin.toNat) (by omega) []
  rwa [List.append_nil] at this
 simp only [e1,e2,e3]
 rw [if_pos ⟨trivial,trivial,by omega,by omega,by omega,by omega⟩]
 congr 1
 omega
theorem zif {base fin:Int} {body:List UInt8} (h:z5l base body=some fin):(0<=base/\base<=1099511627776)/\(fin=0\/(base<fin/\fin<=1099511627776))/\body=shB base fin:=by
 unfold z5l at h
 simp only at h
 split at h
 rotate_left
 ·cases h
 rename_i hc
 obtain ⟨h1,h2,h3,h4,h5,h6⟩:=hc
 simp only [Option.some.injEq] at h
 have i1:=z78 h1
 have i2:=z78 i1.2
 have i3:=zc9 i2.2
 refine ⟨by omega,by omega,?_⟩
 have e:=i3.2
 rw [h2] at e
 simp only [Option.some.injEq] at e
 rw [e]
 unfold shB uI
 have e1:base.toNat=(z0l (z0v (some body)).2).1:=by omega
 have e2:fin.toNat=(z0l (z0l (z0v (some body)).2).2).1:=by omega
 rw [e1,e2,List.append_nil]
 rfl
theorem z1m.mono {m n:Int} {bs:List BatM} (h:z1m n bs) (hm:m<=n):z1m m bs:=by
 cases bs with
 | nil=>trivial
 | cons b bs=>exact ⟨h.1,h.2.1,by have:=h.2.2.1;omega,h.2.2.2⟩
theorem z1m.valid:∀ {n:Int} {bs:List BatM},z1m n bs->∀ b ∈ bs,z05 b=0/\b.p=b
 | _,b::bs,h,x,hx=>by
  rcases List.mem_cons.1 hx with rfl|hx
  ·exact ⟨h.1,h.2.1⟩
  ·exact h.2.2.2.valid x hx
theorem zic:z0x []=none:=by
 rw [zve,if_pos (by simp)]
theorem zdy {bs r:List UInt8} (h:bs.length<=262144) {k:Nat} (hk:k<bs.length+8):z0x ((z2h bs++r).take k)=none:=by
 cases hf:z0x ((z2h bs++r).take k) with
 | none=>rfl
 | some q =>
  exfalso
  obtain ⟨body,n⟩:=q
  obtain ⟨h1,h2,h3,h4⟩:=z5v hf
  rw [List.length_take] at h2
  have e1:((z2h bs++r).take k).take n=(z2h bs++r).take n:=by rw [List.take_take,Nat.min_eq_left (by omega)]
  rw [e1] at h4
  have e2:=z6c h3 ((z2h bs++r).drop n)
  rw [<- h4,List.take_append_drop,z6c h] at e2
  simp only [Option.some.injEq,Prod.mk.injEq] at e2
  omega
theorem zgg:∀ {bs:List BatM} {n:Int} {k:Nat} {rest:List UInt8},z1m n bs->bs.length<=k->z0x rest=none->z2b k n (bs.flatMap frL++rest)=(bs,(bs.flatMap frL).length)
 | [],n,0,rest,_,_,_=>rfl
 | [],n,k+1,rest,_,_,hr=>by
  unfold z2b
  rw [List.flatMap_nil,List.nil_append,hr]
  rfl
 | b::bs,n,0,rest,_,hk,_=>by simp at hk
 | b::bs,n,k+1,rest,⟨hv,hp,hn,ho⟩,hk,hr=>by
  have hl:=z5r hv
  have hf:=z4v hv
  unfold z2b
  rw [List.flatMap_cons,List.append_assoc]
  have e:z0x (frL b++(bs.flatMap frL++rest))=some (z2j b,(z2j b).length+8):=z6c hl.2 _
  rw [e]
  simp only
  rw [zi3 hv]
  simp only
  rw [hp,if_neg (by omega),<- hf.2,List.drop_left,zgg ho (by simpa using hk) hr,List.length_append]
theorem zj8:∀ {k:Nat} {n:Int} {raw:List UInt8},z1m n (z2b k n raw).1/\raw.take (z2b k n raw).2=(z2b k n raw).1.flatMap frL/\(z2b k n raw).2<=raw.length
 | 0,n,raw=>⟨trivial,by simp [z2b],Nat.zero_le _⟩
 | k+1,n,raw=>by
  unfold z2b
  cases hf:z0x raw with
  | none=>exact ⟨trivial,by simp,Nat.zero_le _⟩
  | some q =>
   obtain ⟨body,m⟩:=q
   simp only
   cases hd:z5s body with
   | none=>exact ⟨trivial,by simp,Nat.zero_le _⟩
   | some b =>
    simp only
    by_cases hb:b.base<n
    ·rw [if_pos hb];exact ⟨trivial,by simp,Nat.zero_le _⟩
    rw [if_neg hb]
    obtain ⟨i1,i2,i3⟩:=zj8 (k:=k) (n:=b.base+zo b) (raw:=raw.drop m)
    obtain ⟨d1,d2,d3⟩:=zkc hd
    obtain ⟨f1,f2,f3,f4⟩:=z5v hf
    rw [List.length_drop] at i3
    refine ⟨⟨d1,d3,by omega,i1⟩,?_,by simp only;omega⟩
    simp only
    rw [List.take_add,f4,i2,List.flatMap_cons,<- d2]
    rfl
theorem z97:∀ {n:Int} {bs:List BatM},z1m n bs->bs.length*10<=(bs.flatMap frL).length
 | _,[],_=>by simp
 | _,b::bs,⟨h1,_,_,h⟩=>by
  have:=z97 h
  have:=z4v h1
  rw [List.flatMap_cons,List.length_append,List.length_cons]
  omega
theorem z2k (s:SegA):s.file.length=(shL s.base s.fin).length+(s.bs.flatMap frL).length:=by
 unfold SegA.file
 rw [List.length_append]
theorem zj3 {s:SegA} (h:SegOk s) {rest:List UInt8} (hr:z0x rest=none):z4k s.base (s.file++rest)=some (s,s.file.length):=by
 have hl:=zdg s.base s.fin
 unfold z4k
 have e0:s.file++rest=z2h (shB s.base s.fin)++(s.bs.flatMap frL++rest):=by
  unfold SegA.file shL
  rw [List.append_assoc]
 have e:z0x (s.file++rest)=some (shB s.base s.fin,(shB s.base s.fin).length+8):=by
  rw [e0]
  exact z6c (by omega) _
 rw [e]
 simp only
 rw [zs1 h.base h.fin]
 simp only
 have e2:(s.file++rest).drop ((shB s.base s.fin).length+8)=s.bs.flatMap frL++rest:=by
  rw [e0,<- z7x (show (shB s.base s.fin).length<=262144 by omega),List.drop_left]
 have e3:s.bs.length<=(s.file++rest).length:=by
  have:=z97 h.bs
  rw [List.length_append,z2k]
  omega
 rw [e2,zgg h.bs e3 hr,z2k]
 unfold shL
 rw [z7x (by omega)]
theorem zj2 {s:SegA} (h:SegOk s):z4k s.base s.file=some (s,s.file.length):=by
 have:=zj3 h zic
 rwa [List.append_nil] at this
theorem zlq {base:Int} {raw:List UInt8} {s:SegA} {m:Nat} (h:z4k base raw=some (s,m)):SegOk s/\s.base=base/\raw.take m=s.file/\m<=raw.length/\m=s.file.length:=by
 unfold z4k at h
 cases hf:z0x raw with
 | none=>rw [hf] at h;cases h
 | some q =>
  obtain ⟨body,k⟩:=q
  rw [hf] at h
  simp only at h
  cases hh:z5l base body with
  | none=>rw [hh] at h;cases h
  | some fin =>
   rw [hh] at h
   simp only [Option.some.injEq,Prod.mk.injEq] at h
   obtain ⟨rfl,rfl⟩:=h
   obtain ⟨h1,h2,h3⟩:=zif hh
   obtain ⟨i1,i2,i3⟩:=zj8 (k:=raw.length) (n:=base) (raw:=raw.drop k)
   obtain ⟨f1,f2,f3,f4⟩:=z5v hf
   rw [List.length_drop] at i3
   have e:raw.take (k+(z2b raw.length base (raw.drop k)).2)=SegA.file ⟨base,fin,(z2b raw.length base (raw.drop k)).1⟩:=by
    rw [List.take_add,f4,i2,h3]
    rfl
   refine ⟨⟨h1,h2,i1⟩,rfl,e,by omega,?_⟩
   rw [<- e,List.length_take]
   omega
theorem z1m.take:∀ {n:Int} {bs:List BatM} (k:Nat),z1m n bs->z1m n (bs.take k)
 | _,[],k,_=>by simp [z1m]
 | _,b::bs,0,_=>trivial
 | _,b::bs,k+1,⟨h1,h2,h3,h4⟩=>⟨h1,h2,h3,h4.take k⟩
theorem zkj:∀ {n:Int} {bs:List BatM} (k:Nat),z1m n bs->∃ j rest,j<=bs.length/\(bs.flatMap frL).take k=(bs.take j).flatMap frL++rest/\z0x rest=none/\∀ m,m<=bs.length->((bs.take m).flatMap frL).length<=k->m<=j
 | _,[],k,_=>⟨0,[],by simp,by simp,zic,λm hm _=>hm⟩
 | n,b::bs,k,⟨h1,h2,h3,h4⟩=>by
  have hl:=z5r h1
  have hf:=z4v h1
  by_cases hk:k<(frL b).length
  ·refine ⟨0,(frL b++bs.flatMap frL).take k,by omega,by simp,zdy hl.2 (by omega),λm hm h=>?_⟩
   cases m with
   | zero=>omega
   | succ m =>
    rw [List.take_succ_cons,List.flatMap_cons,List.length_append] at h
    omega
  ·obtain ⟨j,rest,i1,i2,i3,i4⟩:=zkj (k-(frL b).length) h4
   refine ⟨j+1,rest,by simp;omega,?_,i3,λm hm h=>?_⟩
   ·rw [List.flatMap_cons,List.take_append,List.take_of_length_le (by omega),i2,List.take_succ_cons,List.flatMap_cons,List.append_assoc]
   ·cases m with
    | zero=>omega
    | succ m =>
     rw [List.take_succ_cons,List.flatMap_cons,List.length_append] at h
     have:=i4 m (by simpa using hm) (by omega)
     omega
def SegA.cut (s:SegA) (j:Nat):SegA:=⟨s.base,s.fin,s.bs.take j⟩
theorem SegOk.cut {s:SegA} (h:SegOk s) (j:Nat):SegOk (s.cut j):=⟨h.base,h.fin,h.bs.take j⟩
theorem zyy {s:SegA} (h:SegOk s) (k:Nat):(k<(shL s.base s.fin).length/\z4k s.base (s.file.take k)=none) \/
  ∃ j,j<=s.bs.length/\(s.cut j).file.length<=k/\z4k s.base (s.file.take k)=some (s.cut j,(s.cut j).file.length)/\∀ m,m<=s.bs.length->(s.cut m).file.length<=k->m<=j:=by
 have hl:=zdg s.base s.fin
 have hsl:(shL s.base s.fin).length=(shB s.base s.fin).length+8:=z7x (by omega)
 by_cases hk:k<(shL s.base s.fin).length
 ·left
  refine ⟨hk,?_⟩
  unfold z4k
  have e:z0x (s.file.take k)=none:=zdy (by omega) (by omega)
  rw [e]
 ·right
  obtain ⟨j,rest,i1,i2,i3,i4⟩:=zkj (k-(shL s.base s.fin).length) h.bs
  have e:s.file.take k=(s.cut j).file++rest:=by
   unfold SegA.file SegA.cut
   rw [List.take_append,List.take_of_length_le (by omega),i2,List.append_assoc]
  refine ⟨j,i1,?_,by rw [e];exact zj3 (h.cut j) i3,λm hm h2=>i4 m hm ?_⟩
  ·have:=congrArg List.length e
   rw [List.length_take,List.length_append] at this
   omega
  ·rw [z2k] at h2
   have:(s.cut m).bs=s.bs.take m:=rfl
   rw [this] at h2
   have:(shL (s.cut m).base (s.cut m).fin).length=(shL s.base s.fin).length:=rfl
   omega
theorem z1t {α:Type} (l:List α) (x:α):(l++[x]).getLast? = some x:=by simp
theorem z3m (bs:List BatM) (b:BatM):z0d (bs++[b])=b.base+zo b:=by
 unfold z0d
 rw [z1t]
theorem zg0 (x:Int) (bs:List BatM) (b:BatM):z1e x (bs++[b])=max (z1e x bs) (z35 b):=by
 unfold z1e
 rw [List.foldl_append]
 rfl
theorem z1m.next:∀ {n:Int} {bs:List BatM},0<=n->z1m n bs->(bs≠[]->n<z0d bs)/\(bs=[]->z0d bs=0)/\z0d bs<=1099511627777
 | _,[],_,_=>⟨λh=>absurd rfl h,λ_=>rfl,by decide⟩
 | n,b::bs,hn,⟨h1,h2,h3,h4⟩=>by
  obtain ⟨s1,-,⟨-,hba,-⟩,-,s2⟩:=z16 b h1
  obtain ⟨i1,i2,i3⟩:=h4.next (by omega)
  by_cases hb:bs=[]
  ·subst hb
   have e:z0d [b]=b.base+zo b:=z3m [] b
   rw [e]
   exact ⟨λ_=>by omega,(λh=>by cases h),by omega⟩
  ·have e:z0d (b::bs)=z0d bs:=by
    unfold z0d
    cases bs with
    | nil=>exact absurd rfl hb
    | cons c cs=>rfl
   rw [e]
   have:=i1 hb
   exact ⟨λ_=>by omega,(λh=>by cases h),i3⟩
theorem z1m.snoc:∀ {n:Int} {bs:List BatM} {b:BatM},0<=n->z1m n bs->z05 b=0->b.p=b->n<=b.base->z0d bs<=b.base->z1m n (bs++[b])
 | n,[],b,_,_,hv,hp,hn,_=>⟨hv,hp,hn,trivial⟩
 | n,a::bs,b,h0,⟨h1,h2,h3,h4⟩,hv,hp,hn,hx=>by
  obtain ⟨s1,-,⟨-,hba,-⟩,-,s2⟩:=z16 a h1
  refine ⟨h1,h2,h3,?_⟩
  have i:=h4.next (by omega)
  by_cases hb:bs=[]
  ·subst hb
   have e:z0d [a]=a.base+zo a:=z3m [] a
   exact z1m.snoc (by omega) h4 hv hp (by omega) (by rw [i.2.1 rfl];omega)
  ·have e:z0d (a::bs)=z0d bs:=by
    unfold z0d
    cases bs with
    | nil=>exact absurd rfl hb
    | cons c cs=>rfl
   rw [e] at hx
   have:=i.1 hb
   exact z1m.snoc (by omega) h4 hv hp (by omega) hx
theorem z5c {s:SegA} (h:SegOk s):s.base<=s.reach/\s.fin<=s.reach/\z0d s.bs<=s.reach/\s.reach<=1099511627777/\(s.bs≠[]->s.base<z0d s.bs):=by
 obtain ⟨i1,i2,i3⟩:=h.bs.next h.base.1
 have h1:=h.base
 have h2:=h.fin
 unfold SegA.reach
 refine ⟨by omega,by omega,by omega,by omega,i1⟩
structure EntA where
 offset:Int
 place:Int
 before:Int
structure IdxA where
 offset:Int
 place:Int
 late:Int
 gap:Int
 l:List EntA
def zcp (gap:Int):IdxA:=⟨-1,-1,-1,gap,[]⟩
def zbh (o p t:Int):Prop:=(0<=o/\o<=1099511627776)/\(0<=p/\p<=4194304)/\(0<=t/\t<=1099511627776)
instance (o p t:Int):Decidable (zbh o p t):=by unfold zbh;infer_instance
def zy5 (x:IdxA) (p:Int):Bool:=match x.l.getLast? with
 | none=>true
 | some e=>decide (p-e.place>=x.gap)
def z4g (x:IdxA) (o p:Int):List EntA:=if zy5 x p then x.l++[⟨o,p,x.late⟩] else x.l
def z9y (x:IdxA) (o p t:Int):Int × IdxA:=if ¬ zbh o p t then (2,x) else if o<=x.offset\/p<=x.place then (21,x) else (0,⟨o,p,max x.late t,x.gap,z4g x o p⟩)
def zbc:IdxA->Int->List BatM->IdxA
 | x,_,[]=>x
 | x,q,b::bs=>zbc (z9y x b.base q (z35 b)).2 (q+(frL b).length) bs
def SegA.idx (gap:Int) (s:SegA):IdxA:=zbc (zcp gap) (shL s.base s.fin).length s.bs
def z33 (l:List EntA) (o:Int):Option EntA:=(l.filter λe=>decide (e.offset<=o)).getLast?
theorem zcq:∀ (bs:List BatM) (x:IdxA) (q:Int) (b:BatM),zbc x q (bs++[b])=(z9y (zbc x q bs) b.base (q+(bs.flatMap frL).length) (z35 b)).2
 | [],x,q,b=>by simp [zbc]
 | a::bs,x,q,b=>by
  show zbc (z9y x a.base q (z35 a)).2 (q+(frL a).length) (bs++[b])=_
  rw [zcq bs]
  rw [show q+((frL a).length:Int)+((bs.flatMap frL).length:Nat)=q+(((a::bs).flatMap frL).length:Nat) by rw [List.flatMap_cons,List.length_append];omega]
  rfl
theorem zm1:∀ {rs:List RecM} {x:Int},x<=z5p x rs/\∀ r ∈ rs,r.time<=z5p x rs
 | [],x=>⟨Int.le_refl _,λ_ h=>by cases h⟩
 | r::rs,x=>by
  have h:=zm1 (rs:=rs) (x:=max x r.time)
  have e:z5p x (r::rs)=z5p (max x r.time) rs:=rfl
  rw [e]
  refine ⟨by omega,λy hy=>?_⟩
  rcases List.mem_cons.1 hy with rfl|hy
  ·omega
  ·exact h.2 y hy
theorem zja:∀ {rs:List RecM} {x m:Int},x<=m->(∀ r ∈ rs,r.time<=m)->z5p x rs<=m
 | [],x,m,h,_=>h
 | r::rs,x,m,h,hr=>by
  have e:z5p x (r::rs)=z5p (max x r.time) rs:=rfl
  rw [e]
  have:=hr r (List.mem_cons_self ..)
  exact zja (by omega) λy hy=>hr y (List.mem_cons_of_mem _ hy)
theorem zxv {b:BatM} (h:z05 b=0):0<=z35 b/\z35 b<=1099511627776:=by
 obtain ⟨-,-,⟨-,-,-,-,-,htm⟩,-,-⟩:=z16 b h
 obtain ⟨-,hrs⟩:=z2v h
 unfold z35
 split
 ·exact htm
 ·rename_i hne
  obtain ⟨r,hr⟩:=List.exists_mem_of_ne_nil _ hne
  have h1:=(zm1 (rs:=b.rs) (x := -1)).2 r hr
  have h2:=(z54 (hrs r hr)).2.2.1
  refine ⟨by omega,zja (by omega) λr hr=>(z54 (hrs r hr)).2.2.1.2⟩
theorem zes:∀ {bs:List BatM} {x:Int},x<=z1e x bs/\∀ b ∈ bs,z35 b<=z1e x bs
 | [],x=>⟨Int.le_refl _,λ_ h=>by cases h⟩
 | r::rs,x=>by
  have h:=zes (bs:=rs) (x:=max x (z35 r))
  have e:z1e x (r::rs)=z1e (max x (z35 r)) rs:=rfl
  rw [e]
  refine ⟨by omega,λy hy=>?_⟩
  rcases List.mem_cons.1 hy with rfl|hy
  ·omega
  ·exact h.2 y hy
theorem zik:∀ {bs:List BatM} {x m:Int},x<=m->(∀ b ∈ bs,z35 b<=m)->z1e x bs<=m
 | [],x,m,h,_=>h
 | r::rs,x,m,h,hr=>by
  have e:z1e x (r::rs)=z1e (max x (z35 r)) rs:=rfl
  rw [e]
  have:=hr r (List.mem_cons_self ..)
  exact zik (by omega) λy hy=>hr y (List.mem_cons_of_mem _ hy)
theorem zs4 {x:Int} (bs:List BatM) (i:Nat):z1e x (bs.take i)<=z1e x bs :=
 zik zes.1 λb hb=>zes.2 b (List.mem_of_mem_take hb)
structure IdxOk (gap q:Int) (bs:List BatM) (x:IdxA):Prop where
 gap:x.gap=gap
 late:x.late=z1e (-1) bs
 offset:x.offset=match bs.getLast? with|none => -1|some b=>b.base
 place:x.place<q+(bs.flatMap frL).length
 lplace:∀ e ∈ x.l,e.place<=x.place
 ent:∀ e ∈ x.l,∃ i,∃ hi:i<bs.length,e=⟨bs[i].base,q+((bs.take i).flatMap frL).length,z1e (-1) (bs.take i)⟩
 first:∀ b,bs.head? = some b->x.l.head? = some ⟨b.base,q,-1⟩
 offs:x.l.Pairwise λa b=>a.offset<b.offset
 befs:x.l.Pairwise λa b=>a.before<=b.before
theorem z9w {n:Int} {bs:List BatM} {b:BatM} (h:z1m n (bs++[b])) (h0:0<=n):z05 b=0/\n<=b.base/\(∀ c,bs.getLast? = some c->c.base<b.base)/\z1m n bs/\z0d bs<=b.base:=by
 induction bs generalizing n with
 | nil=>exact ⟨h.1,h.2.2.1,by simp,trivial,by have:=h.2.2.1;show (0:Int)<=_;omega⟩
 | cons a bs ih =>
  obtain ⟨h1,h2,h3,h4⟩:=h
  obtain ⟨s1,-,⟨-,hba,-⟩,-,s2⟩:=z16 a h1
  obtain ⟨i1,i2,i3,i4,i5⟩:=ih h4 (by omega)
  refine ⟨i1,by omega,λc hc=>?_,⟨h1,h2,h3,i4⟩,?_⟩
  ·cases bs with
   | nil=>simp at hc;subst hc;omega
   | cons d ds=>exact i3 c (by simpa using hc)
  ·cases bs with
   | nil=>show a.base+zo a<=_;omega
   | cons d ds=>exact i5
theorem zkr (gap:Int):∀ (m:Nat) {n q:Int} {bs:List BatM},bs.length=m->0<=n->0<=q->z1m n bs->q+(bs.flatMap frL).length<=4194304->IdxOk gap q bs (zbc (zcp gap) q bs)
 | 0,n,q,bs,hm,_,hq,_,_=>by
  have:bs=[]:=List.length_eq_zero_iff.1 hm
  subst this
  exact ⟨rfl,rfl,rfl,by show (-1:Int)<_;simp;omega,(λ_ h=>by cases h),(λ_ h=>by cases h),(λ_ h=>by cases h),.nil,.nil⟩
 | m+1,n,q,bs,hm,hn,hq,hb,hl=>by
  have hne:bs≠[]:=by rintro rfl;cases hm
  obtain ⟨bs,b,rfl⟩:∃ cs b,bs=cs++[b]:=⟨bs.dropLast,bs.getLast hne,(List.dropLast_concat_getLast hne).symm⟩
  rw [List.length_append] at hm
  obtain ⟨hv,hnb,hlb,hb',-⟩:=z9w hb hn
  have hfl:=z4v hv
  have hfl2:((bs++[b]).flatMap frL).length=(bs.flatMap frL).length+(frL b).length:=by simp
  have ih:=zkr gap m (by simpa using hm) hn hq hb' (by omega)
  have hlt:=zxv hv
  obtain ⟨-,-,⟨-,hba,-⟩,-,-⟩:=z16 b hv
  rw [zcq]
  generalize hx:zbc (zcp gap) q bs=x at ih
  have hoff:x.offset<b.base:=by
   rw [ih.offset]
   cases hc:bs.getLast? with
   | none=>show (-1:Int)<_;omega
   | some c=>exact hlb c hc
  unfold z9y
  rw [if_neg (by intro h;apply h;exact ⟨by omega,by omega,by omega⟩),if_neg (by have:=ih.place;omega)]
  have hw:∀ (i:Nat) (hi:i<bs.length),(bs++[b])[i]'(by rw [List.length_append];omega)=bs[i]/\(bs++[b]).take i=bs.take i:=λi hi=>⟨List.getElem_append_left hi,by rw [List.take_append_of_le_length (by omega)]⟩
  have hmem:∀ e ∈ z4g x b.base (q+(bs.flatMap frL).length),e ∈ x.l\/e=⟨b.base,q+(bs.flatMap frL).length,x.late⟩:=λe he=>by
   unfold z4g at he
   split at he
   ·rcases List.mem_append.1 he with he|he
    ·exact .inl he
    ·exact .inr (by simpa using he)
   ·exact .inl he
  have hent:∀ e ∈ x.l,e.offset<b.base/\e.before<=x.late:=λe he=>by
   obtain ⟨i,hi,rfl⟩:=ih.ent e he
   refine ⟨?_,by rw [ih.late];exact zs4 bs i⟩
   have hlast:∀ {n:Int} {bs:List BatM},z1m n bs->0<=n->∀ (i:Nat) (hi:i<bs.length),bs[i].base<z0d bs:=by
    intro n bs hbs hn i hi
    have h1:z1m n (bs.take i++[bs[i]]):=by
     have:=hbs.take (i+1)
     rwa [List.take_succ_eq_append_getElem hi] at this
    have h2:=z9w h1 hn
    have h3:∀ {n:Int} {ds cs:List BatM},z1m n (ds++cs)->0<=n->z0d ds<=z0d (ds++cs):=by
     intro n ds cs h hn
     induction cs generalizing ds with
     | nil=>rw [List.append_nil];exact Int.le_refl _
     | cons c cs ih =>
      have h':z1m n ((ds++[c])++cs):=by rwa [List.append_assoc]
      have i1:=ih h'
      rw [List.append_assoc] at i1
      have h4:z1m n (ds++[c]):=by
       have:=h'.take (ds++[c]).length
       rwa [List.take_left] at this
      have h5:=z9w h4 hn
      obtain ⟨s1,-,-,-,-⟩:=z16 c h5.1
      have e:z0d (ds++[c])=c.base+zo c:=z3m ds c
      have i1:z0d (ds++[c])<=z0d (ds++(c::cs)):=i1
      have:=h5.2.2.2.2
      omega
    have h6:=h3 (ds:=bs.take i++[bs[i]]) (cs:=bs.drop (i+1)) (by rw [<- List.take_succ_eq_append_getElem hi,List.take_append_drop];exact hbs) hn
    rw [<- List.take_succ_eq_append_getElem hi,List.take_append_drop,List.take_succ_eq_append_getElem hi,z3m] at h6
    obtain ⟨s1,-,-,-,-⟩:=z16 _ h2.1
    omega
   have h7:=hlast hb' hn i hi
   have h8:=(z9w hb hn).2.2.2.2
   show bs[i].base<b.base
   omega
  refine ⟨ih.gap,?_,by rw [z1t],?_,?_,?_,?_,?_,?_⟩
  ·rw [zg0,<- ih.late]
  ·show q+((bs.flatMap frL).length:Int)<_
   omega
  ·intro e he
   show e.place<=q+((bs.flatMap frL).length:Int)
   rcases hmem e he with he|rfl
   ·have:=ih.lplace e he
    have:=ih.place
    omega
   ·exact Int.le_refl _
  ·intro e he
   rcases hmem e he with he|rfl
   ·obtain ⟨i,hi,rfl⟩:=ih.ent e he
    obtain ⟨h1,h2⟩:=hw i hi
    exact ⟨i,by rw [List.length_append];omega,by rw [h1,h2]⟩
   ·refine ⟨bs.length,by simp,?_⟩
    rw [List.getElem_append_right (Nat.le_refl _),List.take_left,ih.late]
    simp
  ·intro a ha
   show (z4g x b.base (q+(bs.flatMap frL).length)).head? = _
   cases bs with
   | nil =>
    simp at ha
    subst ha
    subst hx
    show some (⟨b.base,q+((([]:List BatM).flatMap frL).length:Int),-1⟩:EntA)=_
    congr 2
    simp
   | cons c cs =>
    have h1:=ih.first a (by simpa using ha)
    unfold z4g
    split
    ·rw [List.head?_append,h1];rfl
    ·exact h1
  ·show (z4g x b.base _).Pairwise _
   unfold z4g
   split
   ·refine List.pairwise_append.2 ⟨ih.offs,by simp,λa ha c hc=>?_⟩
    simp at hc
    subst hc
    exact (hent a ha).1
   ·exact ih.offs
  ·show (z4g x b.base _).Pairwise _
   unfold z4g
   split
   ·refine List.pairwise_append.2 ⟨ih.befs,by simp,λa ha c hc=>?_⟩
    simp at hc
    subst hc
    exact (hent a ha).2
   ·exact ih.befs
theorem zrv {α:Type} {p:α->Bool} {l:List α} {i:Nat} (hi:i<=l.length) (h1:∀ x ∈ l.take i,p x=true) (h2:∀ x ∈ l.drop i,p x=false):l.filter p=l.take i:=by
 rw [<- List.take_append_drop i l,List.filter_append,List.filter_eq_self.2 h1,List.filter_eq_nil_iff.2 λx hx=>by rw [h2 x hx];simp,List.append_nil]
 rw [List.take_append_drop]
theorem zgc {α:Type} {p:α->Bool} {l:List α} {i:Nat} (hi:i<=l.length) (hm:l.Pairwise λa b=>p b=true->p a=true) (h1:∀ (h:i-1<l.length),0<i->p l[i-1]=true) (h2:∀ h:i<l.length,p l[i]=false):l.filter p=l.take i:=by
 have hm':∀ (a b:Nat) (hb:b<l.length) (h:a<b),p l[b]=true->p (l[a]'(by omega))=true:=λa b hb h=>List.pairwise_iff_getElem.1 hm a b (by omega) hb h
 refine zrv hi (λx hx=>?_) λx hx=>?_
 ·obtain ⟨j,hj,rfl⟩:=List.mem_iff_getElem.1 hx
  rw [List.length_take] at hj
  rw [List.getElem_take]
  by_cases hji:j=i-1
  ·subst hji;exact h1 (by omega) (by omega)
  ·exact hm' j (i-1) (by omega) (by omega) (h1 (by omega) (by omega))
 ·obtain ⟨j,hj,rfl⟩:=List.mem_iff_getElem.1 hx
  rw [List.length_drop] at hj
  rw [List.getElem_drop]
  cases hp:p (l[i+j]'(by omega)) with
  | false=>rfl
  | true =>
   have h3:=h2 (by omega)
   by_cases hj0:j=0
   ·subst hj0;simp only [Nat.add_zero] at hp;rw [hp] at h3;cases h3
   ·have:=hm' i (i+j) (by omega) (by omega) hp
    rw [this] at h3;cases h3
theorem zws {α:Type} {l:List α} {i:Nat} (hi:i<=l.length):(l.take i).getLast? = if i=0 then none else l[i-1]? := by
 cases i with
 | zero=>simp
 | succ i =>
  rw [if_neg (by omega),List.take_succ_eq_append_getElem (by omega),z1t]
  simp
theorem zmg {α:Type} {p:α->Bool} {l:List α} {e:α} (h:(l.filter p).getLast? = some e):∃ a c,l=a++e::c/\p e=true/\∀ x ∈ c,p x=false:=by
 induction l with
 | nil=>simp at h
 | cons y r ih =>
  rw [List.filter_cons] at h
  by_cases hr:(r.filter p)=[]
  ·split at h
   ·rw [hr] at h
    simp at h
    subst h
    exact ⟨[],r,rfl,by assumption,λx hx=>by simpa using List.filter_eq_nil_iff.1 hr x hx⟩
   ·rw [hr] at h;simp at h
  ·have h':(r.filter p).getLast? = some e:=by
    split at h
    ·cases hq:r.filter p with
     | nil=>exact absurd hq hr
     | cons z zs=>rw [hq] at h;simpa using h
    ·exact h
   obtain ⟨a,c,rfl,h1,h2⟩:=ih h'
   exact ⟨y::a,c,rfl,h1,h2⟩
theorem Ret.mono {P:Program} {f:FuncId} {args:Array Value} {w:World} {R R':List Value->World->Prop} (h:Ret P f args w R) (hi:∀ vs w',R vs w'->R' vs w'):Ret P f args w R' :=
 Calls.mono h λe w' ⟨vs,he,hv⟩=>⟨vs,he,hi _ _ hv⟩
def stR (R:RdM):Lf:=if R.e=0 then some (z4m R) else none
theorem z7i {R:RdM} (h:R.e=0):stR R=some (z4m R):=if_pos h
theorem z6l {R:RdM} (h:R.e≠0):stR R=none:=if_neg h
theorem zz3 {R:RdM}:(stR R).isSome=decide (R.e=0):=by
 unfold stR;split <;> simp [*]
theorem zdi {R:RdM}:(R.uint).1=(z0l (stR R)).1/\stR R.uint.2=(z0l (stR R)).2:=by
 by_cases h:R.e=0
 ·rw [z7i h]
  cases hn:z3n 0 (R.bs.drop R.at_) with
  | none =>
   have e1:R.uint=(0,⟨R.bs,R.at_,6⟩):=by unfold RdM.uint;rw [if_neg (by rw [h];simp)];simp only [hn]
   have e2:z0l (some (z4m R))=(0,none):=by unfold z0l z4m;simp only [hn]
   rw [e1,e2]
   exact ⟨rfl,if_neg (show ¬ (6:Int)=0 by decide)⟩
  | some q =>
   have e1:R.uint=(q.1,⟨R.bs,R.at_+q.2,R.e⟩):=by unfold RdM.uint;rw [if_neg (by rw [h];simp)];simp only [hn]
   have e2:z0l (some (z4m R))=(q.1,some ((z4m R).drop q.2)):=by unfold z0l z4m;simp only [hn]
   rw [e1,e2]
   refine ⟨rfl,?_⟩
   show (if R.e=0 then some (R.bs.drop (R.at_+q.2)) else none)=some ((R.bs.drop R.at_).drop q.2)
   rw [if_pos h,List.drop_drop]
 ·rw [zm4 h]
  show 0=(z0l (stR R)).1/\stR R=(z0l (stR R)).2
  rw [z6l h]
  exact ⟨rfl,rfl⟩
theorem zj6 {R:RdM} {lo hi:Int}:(R.within lo hi).1=(z1l lo hi (stR R)).1/\stR (R.within lo hi).2=(z1l lo hi (stR R)).2:=by
 obtain ⟨h1,h2⟩:=zdi (R:=R)
 unfold RdM.within z1l
 rw [<- h1,<- h2]
 by_cases h:R.uint.2.e=0
 ·rw [if_neg (by rw [h];simp),z7i h]
  simp only
  by_cases hc:zag R.uint.1<lo\/zag R.uint.1>hi
  ·rw [if_pos hc,if_pos hc]
   exact ⟨rfl,if_neg (show ¬ (8:Int)=0 by decide)⟩
  ·rw [if_neg hc,if_neg hc]
   exact ⟨rfl,z7i h⟩
 ·rw [if_pos h]
  show 0=_/\stR R.uint.2=_
  rw [z6l h]
  exact ⟨rfl,rfl⟩
def rdS (T':TypeId) (p:Nat) (s:Lf):HP:=HP.ex λR:RdM=>HP.and (stR R=s) (rdP T' p R)
section
variable {w:World} {l r:List HP} {p:Nat} {s:Lf} {T':TypeId}
theorem z6x (hs:Sat w (rdS T' p s::l)):∃ R:RdM,stR R=s/\Sat w (rdP T' p R::l):=by
 obtain ⟨R,hs⟩:=hs.ex
 obtain ⟨h,hs⟩:=hs.and
 exact ⟨R,h,hs⟩
theorem z2a {R:RdM} (h:stR R=s) (hs:Sat w (rdP T' p R::l)):Sat w (rdS T' p s::l):=.ex_mk R (.and_mk h hs)
theorem zw2 (x:Sl) (bs:List UInt8) [hx:FocR l x 1 (bs.flatMap zi)] (hn:bs.length<=1000000000) (hs:Sat w l) :
  Ret P F.a222 #[x.v] w λvs w'=>∃ p:Nat,vs=[.pointer (some ⟨p,0,none⟩)]/\Sat w' (rdS T.a54 p (some bs)::l) :=
 (zmm x bs hn hs).mono λ_ _ h=>by
  obtain ⟨p,rfl,hs⟩:=h
  exact ⟨p,rfl,z2a (R:=⟨bs,0,0⟩) rfl hs⟩
theorem zhm [hf:Fo l (rdS T.a54) p s r] (hs:Sat w l):Ret P F.a229 #[.pointer (some ⟨p,0,none⟩)] w λvs w'=>vs=[.int .u64 ((z0l s).1:Int)]/\Sat w' (rdS T.a54 p (z0l s).2::r):=by
 obtain ⟨R,rfl,hs⟩:=z6x (hs.perm hf.perm)
 refine (zqw (p:=p) hs).mono λ_ _ h=>?_
 obtain ⟨rfl,hs⟩:=h
 exact ⟨by rw [zdi.1],z2a zdi.2 hs⟩
theorem zwv (lo hi:Int) [hf:Fo l (rdS T.a54) p s r] (hs:Sat w l):Ret P F.a230 #[.pointer (some ⟨p,0,none⟩),.int .i64 lo,.int .i64 hi] w λvs w'=>vs=[.int .i64 (z1l lo hi s).1]/\Sat w' (rdS T.a54 p (z1l lo hi s).2::r):=by
 obtain ⟨R,rfl,hs⟩:=z6x (hs.perm hf.perm)
 refine (zwh (p:=p) lo hi hs).mono λ_ _ h=>?_
 obtain ⟨rfl,hs⟩:=h
 exact ⟨by rw [zj6.1],z2a zj6.2 hs⟩
theorem zvc [hf:Fo l (rdS T.a54) p s r] (hs:Sat w l):Ret P F.a225 #[.pointer (some ⟨p,0,none⟩)] w λvs w'=>∃ e:Int,vs=[.int .i64 e]/\(e=0↔s.isSome=true)/\Sat w' (rdS T.a54 p s::r):=by
 obtain ⟨R,rfl,hs⟩:=z6x (hs.perm hf.perm)
 refine (z05x (p:=p) hs).mono λ_ _ h=>?_
 obtain ⟨rfl,hs⟩:=h
 exact ⟨R.e,rfl,by rw [zz3,decide_eq_true_iff],z2a rfl hs⟩
theorem zvb [hf:Fo l (rdS T.a54) p s r] (hs:Sat w l):Ret P F.a224 #[.pointer (some ⟨p,0,none⟩)] w λvs w'=>∃ e:Int,vs=[.int .i64 e]/\(e=0↔s=some [])/\Sat w' r:=by
 obtain ⟨R,rfl,hs⟩:=z6x (hs.perm hf.perm)
 have hb:=(z64 hs).1
 refine (z05w (p:=p) hs).mono λ_ _ h=>?_
 obtain ⟨rfl,hs⟩:=h
 refine ⟨_,rfl,?_,hs.tail⟩
 rw [zrp hb]
 unfold stR
 by_cases h:R.e=0 <;> simp [h]
end
section
variable {w:World} {l r:List HP} {p:Nat} {s:Lf}
theorem z04d (b:Bool) (hs:Sat w l):Ret P F.a219 #[.bool b] w λvs w'=>∃ z:Sl,vs=[z.v]/\Sat w' (slc T.a52 1 z ([z85 b].flatMap zi)::l) :=
 zp3 b <| by
  delta z023 AE Ai An
  refine ze (λh=>?_) λh=>?_
  ·subst h
   refine z9m hs (enc:=zi) (1:UInt8) λz w' hs=>?_
   exact ⟨rfl,z,rfl,hs⟩
  ·have h:b=false:=by simpa using h
   subst h
   refine z9m hs (enc:=zi) (0:UInt8) λz w' hs=>?_
   exact ⟨rfl,z,rfl,hs⟩
theorem zhf (n:Nat) {x:Sl} {bs:List UInt8} {e:Int} {at_:Nat} (hn:at_+n<=bs.length) (hb:bs.length<=1000000000) (hcap:x.len<=x.cap) [hf:FocB l p (.cells [.slice x.a x.len x.cap,.int .i64 at_,.int .i64 e].toArray T.a54) r] [hr:FocR r x 1 (bs.flatMap zi)] (hs:Sat w l) :
  Ret P F.a236 #[.pointer (some ⟨p,0,none⟩),.int .i64 n] w λvs w'=>vs=[.slice (z14 x.a 1 at_ x.cap) n (x.cap-at_)]/\Sat w' (pt p (.cells #[.slice x.a x.len x.cap,.int .i64 (at_+n:Nat),.int .i64 e] T.a54)::r) :=
 zpk _ n <| by
  delta z02k AA AG AI AJ AO AP Ac An Aq
  have hs:=hs.perm hf.perm
  have hl:=hs.slen x (xs:=bs) (enc:=zi)
  refine zg ?_
  refine za hs ?_
  refine zg ?_
  have e2:IntKind.wrap .i64 ((at_:Int)+n)=((at_+n:Nat):Int):=by rw [w64 (by omega) (by omega)];omega
  rw [e2]
  refine z07 hs λw' hs=>?_
  refine zx hs λw' hs=>?_
  refine zg ?_
  refine za hs ?_
  refine zg ?_
  refine za hs ?_
  refine zg ?_
  refine za hs ?_
  have e3:IntKind.wrap .i64 (((at_+n:Nat):Int)-n)=(at_:Int):=by rw [w64 (by omega) (by omega)];omega
  rw [e3]
  refine wp_must (by omega) ?_
  refine zd ?_
  refine ⟨rfl,?_,hs⟩
  simp only [Int.toNat_natCast,Nat.add_sub_cancel_left]
end
theorem bvi (s:BitVec 32):BitVec.ofInt 32 ((s.toNat:Nat):Int)=s:=by rw [BitVec.ofInt_natCast,BitVec.ofNat_toNat,BitVec.setWidth_eq]
theorem wbv (s:BitVec 32):IntKind.wrap .u32 ((s.toNat:Nat):Int)=((s.toNat:Nat):Int):=by rw [zju,Nat.mod_eq_of_lt s.isLt]
theorem zw4 (s:BitVec 32):BitVec.ofInt 32 4294967295 ^^^ BitVec.ofInt 32 ((s.toNat:Nat):Int) = ~~~ s:=by
 rw [bvi]
 have:BitVec.ofInt 32 4294967295=BitVec.allOnes 32:=by decide +kernel
 rw [this,BitVec.allOnes_xor]
theorem z085 (s:BitVec 32):BitVec.ofInt 32 (Int.fdiv ((s.toNat:Nat):Int) 2)=s >>> 1:=by
 rw [z7n _ (by decide),BitVec.ofInt_natCast]
 apply BitVec.eq_of_toNat_eq
 have:=s.isLt
 rw [BitVec.toNat_ofNat,BitVec.toNat_ushiftRight,Nat.shiftRight_eq_div_pow]
 show s.toNat / 2 % 2 ^ 32=s.toNat / 2 ^ 1
 omega
theorem z05h (s:BitVec 32):BitVec.ofInt 32 (IntKind.wrap .u32 (0-((s.toNat:Nat):Int)))=0#32-s:=by
 apply BitVec.eq_of_toNat_eq
 have:=s.isLt
 have e:IntKind.wrap .u32 (0-((s.toNat:Nat):Int))=(((4294967296-s.toNat) % 4294967296:Nat):Int):=by
  simp [IntKind.wrap,IntKind.bits,IntKind.signed];omega
 rw [e,BitVec.ofInt_natCast,BitVec.toNat_ofNat,BitVec.toNat_sub]
 simp
theorem z049 (s:BitVec 32):IntKind.wrap .u32 (((BitVec.toNat (BitVec.ofInt 32 (Int.fdiv ((s.toNat:Nat):Int) 2) ^^^ BitVec.ofInt 32 (IntKind.wrap .u32 (((BitVec.toNat (BitVec.ofInt 32 3988292384 &&& BitVec.ofInt 32 (IntKind.wrap .u32 (0-IntKind.wrap .u32 (((BitVec.toNat (BitVec.ofInt 32 ((s.toNat:Nat):Int) &&& BitVec.ofInt 32 1):Nat):Int))))):Nat):Int)))):Nat):Int))=(((zxc s).toNat:Nat):Int):=by
 rw [wbv,wbv,wbv,bvi,bvi,z05h,z085]
 rfl
theorem zzf (s:BitVec 32) (c:UInt8):IntKind.wrap .u32 (((BitVec.toNat (BitVec.ofInt 32 ((s.toNat:Nat):Int) ^^^ BitVec.ofInt 32 (IntKind.wrap .u32 ((c.toNat:Nat):Int))):Nat):Int))=(((s ^^^ BitVec.ofNat 32 c.toNat).toNat:Nat):Int):=by
 have:=c.toNat_lt
 rw [wbv,bvi,zju,Nat.mod_eq_of_lt (by omega),BitVec.ofInt_natCast]
section
variable {w:World} {l r:List HP} {Q:Post} {S:World->Prop}
theorem zv3 (s:BitVec 32) (bs:List UInt8) (i:Nat) (hi:i<bs.length):z5i s (bs.take (i+1))=zrm (z5i s (bs.take i)) bs[i]:=by
 unfold z5i
 rw [List.take_add_one,List.getElem?_eq_getElem hi,Option.toList_some,List.foldl_append];rfl
theorem z030 (m:BitVec 32) (x:Sl) (ps:List (Sl × List UInt8)) [hx:FocR l x 1 ((ps.map Prod.fst).flatMap z0e)] (hps:∀ p ∈ ps,FocR l p.1 1 (p.2.flatMap zi)/\p.2.length<=1000000000) (hpl:ps.length<=1000000) (hs:Sat w l) :
  Ret P F.a51 #[.int .u32 ((m.toNat:Nat):Int),x.v] w λvs w'=>vs=[.int .u32 (((zsd m (ps.flatMap Prod.snd)).toNat:Nat):Int)]/\Sat w' l :=
 zu1 _ x <| by
  delta z07e AO Ac Ai Al An Aq BN BO Ce Cf Cg
  have hl:=hs.slen x (xs:=ps.map Prod.fst) (enc:=z0e)
  rw [List.length_map] at hl
  rw [zw4,wbv]
  refine wp_lt ?_
  refine zf (λu w'=>u=((((z5i (~~~ m) (ps.flatMap Prod.snd)).toNat:Nat):Int),())/\Sat w' l) ?_ ?_
  rotate_left
  ·rintro _ w' ⟨rfl,hs⟩
   refine zm ?_
   rw [zw4,wbv]
   refine wp_lt ?_
   exact ⟨rfl,rfl,hs⟩
  refine z03 (λk u w=>∃ i:Nat,u=((((z5i (~~~ m) ((ps.take i).flatMap Prod.snd)).toNat:Nat):Int),(i:Int),())/\i<=ps.length/\ps.length-i=k/\Sat w l) ps.length ⟨0,rfl,by omega,rfl,hs⟩ ?_
  clear hs
  rintro k _ w ⟨i,rfl,hi,hk,hs⟩
  refine zm ?_
  refine ze (λhc=>?_) λhc=>?_
  rotate_left
  ·refine zh (zj ⟨?_,hs⟩)
   rw [List.take_of_length_le (by omega)]
  have hil:i<ps.length:=by omega
  obtain ⟨hF,hpl2⟩:=hps _ (List.getElem_mem hil)
  have hpi:=hs.slen ps[i].1 (xs:=ps[i].2) (enc:=zi)
  refine zf (λu w'=>u=((((z5i (~~~ m) ((ps.take (i+1)).flatMap Prod.snd)).toNat:Nat):Int),())/\Sat w' l) ?_ ?_
  rotate_left
  ·rintro _ w' ⟨rfl,hs⟩
   refine zm ?_
   refine z2z (us':=[.int .u32 (((z5i (~~~ m) ((ps.take (i+1)).flatMap Prod.snd)).toNat:Nat):Int),.int .i64 ((i+1:Nat):Int)]) (by (try simp (disch:=omega) only [w64]);first|rfl|(congr;omega)) ?_
   refine z11 (ps.length-(i+1)) ?_
   exact ⟨i+1,rfl,by omega,rfl,hs⟩
  refine z22 hs (xs:=ps.map Prod.fst) (enc:=z0e) i (by rw [List.length_map];exact hil) ?_
  rw [List.getElem_map]
  have hto:z5i (~~~ m) ((ps.take (i+1)).flatMap Prod.snd)=z5i (z5i (~~~ m) ((ps.take i).flatMap Prod.snd)) ps[i].2:=by
   rw [List.take_add_one,List.getElem?_eq_getElem hil,Option.toList_some,List.flatMap_append,List.flatMap_singleton]
   unfold z5i
   rw [List.foldl_append]
  rw [hto]
  generalize z5i (~~~ m) ((ps.take i).flatMap Prod.snd)=s0
  generalize ps[i]=q at *
  refine zf (λu w'=>u=((((z5i s0 q.2).toNat:Nat):Int),())/\Sat w' l) ?_ (by rintro _ w' ⟨rfl,hs⟩;refine zm ?_;exact zj ⟨rfl,hs⟩)
  refine z03 (λk u w=>∃ j:Nat,u=((((z5i s0 (q.2.take j)).toNat:Nat):Int),(j:Int),())/\j<=q.2.length/\q.2.length-j=k/\Sat w l) q.2.length ⟨0,rfl,by omega,rfl,hs⟩ ?_
  clear hs
  rintro k _ w ⟨j,rfl,hj,hk,hs⟩
  refine zm ?_
  refine ze (λhc=>?_) λhc=>?_
  rotate_left
  ·refine zh (zj ⟨?_,hs⟩)
   rw [List.take_of_length_le (by omega)]
  have hjl:j<q.2.length:=by omega
  refine zf (λu w'=>u=((((z5i s0 (q.2.take (j+1))).toNat:Nat):Int),())/\Sat w' l) ?_ ?_
  rotate_left
  ·rintro _ w' ⟨rfl,hs⟩
   refine zm ?_
   refine z2z (us':=[.int .u32 (((z5i s0 (q.2.take (j+1))).toNat:Nat):Int),.int .i64 ((j+1:Nat):Int)]) (by (try simp (disch:=omega) only [w64]);first|rfl|(congr;omega)) ?_
   refine z11 (q.2.length-(j+1)) ?_
   exact ⟨j+1,rfl,by omega,rfl,hs⟩
  refine z22 hs (xs:=q.2) (enc:=zi) j hjl ?_
  refine wp_lt ?_
  rw [zzf]
  refine wp_lt ?_
  rw [zv3 s0 q.2 j hjl]
  generalize z5i s0 (q.2.take j)=s1
  show Prog.wp P _ _ _ _
  refine zf (λu w'=>u=((((zrm s1 q.2[j]).toNat:Nat):Int),())/\Sat w' l) ?_ (by rintro _ w' ⟨rfl,hs⟩;refine zm ?_;exact zj ⟨rfl,hs⟩)
  unfold zrm
  generalize s1 ^^^ BitVec.ofNat 32 q.2[j].toNat=s2
  refine z03 (λk u w=>∃ i:Nat,u=((((zrn i s2).toNat:Nat):Int),(i:Int),())/\i<=8/\8-i=k/\Sat w l) 8 ⟨0,rfl,by omega,rfl,hs⟩ ?_
  clear hs
  rintro k _ w ⟨i,rfl,hi,hk,hs⟩
  refine zm ?_
  refine ze (λhc=>?_) λhc=>?_
  rotate_left
  ·obtain rfl:i=8:=by omega
   exact zh (zj ⟨rfl,hs⟩)
  rw [z049]
  refine wp_lt ?_
  refine z2z (us':=[.int .u32 (((zxc (zrn i s2)).toNat:Nat):Int),.int .i64 ((i+1:Nat):Int)]) (by (try simp (disch:=omega) only [w64]);first|rfl|(congr;omega)) ?_
  refine z11 (8-(i+1)) ?_
  exact ⟨i+1,rfl,by omega,rfl,hs⟩
theorem z053 (x:Sl) (ps:List (Sl × List UInt8)) [hx:FocR l x 1 ((ps.map Prod.fst).flatMap z0e)] (hps:∀ p ∈ ps,FocR l p.1 1 (p.2.flatMap zi)/\p.2.length<=1000000000) (hpl:ps.length<=1000000) (hs:Sat w l) :
  Ret P F.a54 #[x.v] w λvs w'=>vs=[.int .u32 ((z9i (ps.flatMap Prod.snd):Nat):Int)]/\Sat w' l :=
 zu4 x <| by
  delta z07h An Cd Ce
  refine z8 (z030 0#32 x ps hps hpl hs) λ_ _ hs=>?_
  obtain ⟨rfl,hs⟩:=hs
  refine zb ?_
  refine wp_lt ?_
  exact ⟨rfl,rfl,hs⟩
theorem zh1 (x y:Sl) (bs:List UInt8) [hx:FocR l x 1 ([y].flatMap z0e)] [hy:FocR l y 1 (bs.flatMap zi)] (hn:bs.length<=1000000000) (hs:Sat w l) :
  Ret P F.a54 #[x.v] w λvs w'=>vs=[.int .u32 ((z9i bs:Nat):Int)]/\Sat w' l:=by
 have:=@z053 w l x [(y,bs)] hx (by intro p hp;rw [List.mem_singleton.1 hp];exact ⟨hy,hn⟩) (by simp) hs
 simpa using this
theorem zpy (n:Nat) (hn:n<4294967296) (hs:Sat w l):Ret P F.a55 #[.int .u32 (n:Int)] w λvs w'=>∃ z:Sl,vs=[z.v]/\Sat w' (slc T.a52 1 z ((z3k n).flatMap zi)::l) :=
 zu5 n <| by
  delta z07i AE An
  have e0:IntKind.wrap .u8 (n:Int)=(((UInt8.ofNat n).toNat:Nat):Int):=by rw [zd6];simp
  have e1:IntKind.wrap .u8 (Int.fdiv (n:Int) 256)=(((UInt8.ofNat (n / 256)).toNat:Nat):Int):=by rw [z7n n (by decide),zd6];simp
  have e2:IntKind.wrap .u8 (Int.fdiv (n:Int) 65536)=(((UInt8.ofNat (n / 65536)).toNat:Nat):Int):=by rw [z7n n (by decide),zd6];simp
  have e3:IntKind.wrap .u8 (Int.fdiv (n:Int) 16777216)=(((UInt8.ofNat (n / 16777216)).toNat:Nat):Int):=by rw [z7n n (by decide),zd6];simp
  rw [e0,e1,e2,e3]
  refine z94 hs (enc:=zi) (z3k n) (cs:=((z3k n).flatMap zi).toArray) (by kernel_rfl) (λb w' hs=>?_) (by simp)
  exact ⟨rfl,_,rfl,hs⟩
theorem zyd {a b c d:Nat} (ha:a<256) (hb:b<256) (hc:c<256) (hd:d<256) :
  IntKind.wrap .u32 (((BitVec.toNat (BitVec.ofInt 32 (IntKind.wrap .u32 (((BitVec.toNat (BitVec.ofInt 32 (IntKind.wrap .u32 (((BitVec.toNat (BitVec.ofInt 32 (IntKind.wrap .u32 (a:Int)) ||| BitVec.ofInt 32 (IntKind.wrap .u32 (IntKind.wrap .u32 (b:Int)*256))):Nat):Int))) ||| BitVec.ofInt 32 (IntKind.wrap .u32 (IntKind.wrap .u32 (c:Int)*65536))):Nat):Int))) ||| BitVec.ofInt 32 (IntKind.wrap .u32 (IntKind.wrap .u32 (d:Int)*16777216))):Nat):Int))=((a+256*b+65536*c+16777216*d:Nat):Int):=by
 have wm:∀ {m:Nat},m<4294967296->IntKind.wrap .u32 (m:Int)=(m:Int):=λ{m} h=>by rw [zju,Nat.mod_eq_of_lt h]
 have or2:∀ {x y i:Nat},x<2 ^ i->y*2 ^ i+x<4294967296->BitVec.toNat (BitVec.ofInt 32 (x:Int) ||| BitVec.ofInt 32 ((y*2 ^ i:Nat):Int))=x+y*2 ^ i:=λ{x y i} h1 h2=>by
  rw [BitVec.ofInt_natCast,BitVec.ofInt_natCast,BitVec.toNat_or,BitVec.toNat_ofNat,BitVec.toNat_ofNat,Nat.mod_eq_of_lt (show x<2 ^ 32 by omega),Nat.mod_eq_of_lt (show y*2 ^ i<2 ^ 32 by omega),Nat.or_comm,Nat.mul_comm,<- Nat.two_pow_add_eq_or_of_lt h1,Nat.add_comm]
 have m1:((b:Nat):Int)*256=((b*2 ^ 8:Nat):Int):=rfl
 have m2:((c:Nat):Int)*65536=((c*2 ^ 16:Nat):Int):=rfl
 have m3:((d:Nat):Int)*16777216=((d*2 ^ 24:Nat):Int):=rfl
 rw [wm (show a<_ by omega),wm (show b<_ by omega),wm (show c<_ by omega),wm (show d<_ by omega),m1,m2,m3,wm (show b*2 ^ 8<_ by omega),wm (show c*2 ^ 16<_ by omega),wm (show d*2 ^ 24<_ by omega),
  or2 (by omega) (by omega),wm (show a+b*2 ^ 8<_ by omega),or2 (by omega) (by omega),wm (show a+b*2 ^ 8+c*2 ^ 16<_ by omega),or2 (by omega) (by omega),wm (by omega)]
 congr 1
 omega
theorem zy7 {bs:List UInt8} (h:4<=bs.length):z0h bs=bs[0].toNat+256*bs[1].toNat+65536*bs[2].toNat+16777216*bs[3].toNat:=by
 match bs,h with
 | a::b::c::d::r,_=>rfl
theorem z81 {α:Type} {enc:α->List Value} {xs:List α} {sz m:Nat} {ii:Int} {x:Sl} {T:TypeId} {g':Prop} {p:Pr} {dec:α->p.D} {f:p.D->Prog} (hs:Sat w l) [hf:FocR l x sz (xs.flatMap enc)] [hE:EncN enc sz] [hD:Enc1 enc p dec] [hT:One P T]
  (n:Nat) (hn:n<xs.length) (h:(f (dec xs[n])).wp P S w Q) (hm:m=n*sz:=by rfl) (hi:ii=n:=by rfl) :
  (Prog.ex [.adr] (c1 λa=>(0:Int)<=ii/\ii<((x.len:Nat):Int)/\x.a=some a) (u1 λa=>.read g' (ld T (Addr.add a m)) (.one (.one p)) (u1 f))).wp P S w Q:=by
 subst hm hi
 have hr:=hf.rd w hs
 have hl:x.len=xs.length:=hr.len hE.len hE.pos
 obtain ⟨a,ha,he⟩:=hr.el hE.len (by omega)
 refine ⟨(a,()),⟨by omega,by omega,ha⟩,(dec xs[n],()),λ_=>?_,h⟩
 have:=he n hn
 rw [hD.ok] at this
 have h2:=At.ld1 (P:=P) (T:=T) this rfl
 cases p <;> exact h2
theorem zck (x:Sl) (bs:List UInt8) [hx:FocR l x 1 (bs.flatMap zi)] (hn:4<=bs.length) (hs:Sat w l):Ret P F.a56 #[x.v] w λvs w'=>vs=[.int .u32 ((z0h bs:Nat):Int)]/\Sat w' l :=
 zu6 x <| by
  delta z07j AG AI Al An BN Ce
  refine zx hs λw' hs=>?_
  refine z81 hs (xs:=bs) (enc:=zi) 0 (by omega) ?_
  refine z81 hs (xs:=bs) (enc:=zi) 1 (by omega) ?_
  refine z81 hs (xs:=bs) (enc:=zi) 2 (by omega) ?_
  refine z81 hs (xs:=bs) (enc:=zi) 3 (by omega) ?_
  rw [zyd (by have:=bs[0].toNat_lt;omega) (by have:=bs[1].toNat_lt;omega) (by have:=bs[2].toNat_lt;omega) (by have:=bs[3].toNat_lt;omega),<- zy7 hn]
  refine wp_lt ?_
  refine zd ?_
  exact ⟨rfl,rfl,hs⟩
theorem zq0 (x:Sl) (ps:List (Sl × List UInt8)) [hx:FocR l x 1 ((ps.map Prod.fst).flatMap z0e)] (hps:∀ p ∈ ps,FocR l p.1 1 (p.2.flatMap zi)/\p.2.length<=1000000000) (hpl:ps.length<=1000000) (hs:Sat w l) :
  Ret P F.a53 #[x.v] w λvs w'=>∃ z:Sl,vs=[z.v]/\Sat w' (slc T.a52 1 z ((z2h (ps.flatMap Prod.snd)).flatMap zi)::l) :=
 zu3 x <| by
  delta z07g AE AM AO AZ Ac Af Ai Ak Al An Ap Aq Bf Cd
  have hl:=hs.slen x (xs:=ps.map Prod.fst) (enc:=z0e)
  rw [List.length_map] at hl
  have hstep:∀ i (hi:i<ps.length),(ps.take (i+1)).flatMap Prod.snd=(ps.take i).flatMap Prod.snd++ps[i].2:=λi hi=>by
   rw [List.take_add_one,List.getElem?_eq_getElem hi,Option.toList_some,List.flatMap_append,List.flatMap_singleton]
  have hmany:∀ i,((ps.take i).flatMap Prod.snd).length<=(ps.flatMap Prod.snd).length:=λi=>by
   have:ps.flatMap Prod.snd=(ps.take i).flatMap Prod.snd++(ps.drop i).flatMap Prod.snd:=by rw [<- List.flatMap_append,List.take_append_drop]
   rw [this,List.length_append]
   omega
  refine zf (λu w'=>u=((((ps.flatMap Prod.snd).length:Nat):Int),())/\(ps.flatMap Prod.snd).length<=262144/\Sat w' l) ?_ ?_
  ·refine z03 (λk u w=>∃ i:Nat,u=(((((ps.take i).flatMap Prod.snd).length:Nat):Int),(i:Int),())/\i<=ps.length/\ps.length-i=k/\((ps.take i).flatMap Prod.snd).length<=262144/\Sat w l) ps.length ⟨0,rfl,by omega,rfl,by simp,hs⟩ ?_
   clear hs
   rintro k _ w ⟨i,rfl,hi,hk,hsm,hs⟩
   refine zm ?_
   refine ze (λhc=>?_) λhc=>?_
   rotate_left
   ·rw [List.take_of_length_le (by omega)] at hsm ⊢
    exact zh (zj ⟨rfl,hsm,hs⟩)
   have hil:i<ps.length:=by omega
   refine z22 hs (xs:=ps.map Prod.fst) (enc:=z0e) i (by rw [List.length_map];exact hil) ?_
   rw [List.getElem_map]
   obtain ⟨hF,hpb⟩:=hps _ (List.getElem_mem hil)
   have hpi:=hs.slen ps[i].1 (xs:=ps[i].2) (enc:=zi)
   have h1:=hmany (i+1)
   have h2:=congrArg List.length (hstep i hil)
   rw [List.length_append] at h2
   have e:IntKind.wrap .i64 (((((ps.take i).flatMap Prod.snd).length:Nat):Int)+((ps[i].1.len:Nat):Int))=((((ps.take (i+1)).flatMap Prod.snd).length:Nat):Int):=by rw [w64 (by omega) (by omega)];omega
   refine z0p e ?_
   refine ze (λhbig=>?_) λhbig=>?_
   ·refine zh (zh ⟨rfl,⟨none,0,0⟩,rfl,?_⟩)
    have:z2h (ps.flatMap Prod.snd)=[]:=by unfold z2h;rw [if_pos (by omega)]
    rw [this]
    exact hs.slc_nil
   refine z2z (us':=[.int .i64 ((((ps.take (i+1)).flatMap Prod.snd).length:Nat):Int),.int .i64 ((i+1:Nat):Int)]) (by (try simp (disch:=omega) only [w64]);first|rfl|(congr;omega)) ?_
   refine z11 (ps.length-(i+1)) ?_
   exact ⟨i+1,rfl,by omega,rfl,by omega,hs⟩
  clear hs
  rintro _ w ⟨rfl,hsm,hs⟩
  refine zm ?_
  have e8:IntKind.wrap .i64 ((((ps.flatMap Prod.snd).length:Nat):Int)+8)=(((ps.flatMap Prod.snd).length+8:Nat):Int):=by rw [w64 (by omega) (by omega)];omega
  rw [e8,zju,Nat.mod_eq_of_lt (by omega)]
  refine zra ((ps.flatMap Prod.snd).length+8) hs λz w' hs=>?_
  refine z8 (zpy (ps.flatMap Prod.snd).length (by omega) hs) λ_ _ hs=>?_
  obtain ⟨y,rfl,hs⟩:=hs
  refine zb ?_
  have hs:=hs.pick [1,0]
  refine wp_app' (xs:=[]) (ys:=z3k (ps.flatMap Prod.snd).length) (enc:=zi) hs (λz w' hs=>?_) (by simp [z5w])
  rw [List.nil_append] at hs
  have hs:Sat w' (slc T.a52 1 z ((z3k (ps.flatMap Prod.snd).length).flatMap zi)::l):=hs.sub
  refine zf (λu w'=>∃ z:Sl,u=(z,())/\Sat w' (slc T.a52 1 z ((z34 (ps.flatMap Prod.snd)).flatMap zi)::l)) ?_ ?_
  ·refine z03 (λk u w=>∃ (i:Nat) (z:Sl),u=(z,(i:Int),())/\i<=ps.length/\ps.length-i=k/\Sat w (slc T.a52 1 z ((z3k (ps.flatMap Prod.snd).length++(ps.take i).flatMap Prod.snd).flatMap zi)::l)) ps.length ⟨0,z,rfl,by omega,rfl,?_⟩ ?_
   ·simpa using hs
   clear hs
   rintro k _ w ⟨i,z,rfl,hi,hk,hs⟩
   refine zm ?_
   refine ze (λhc=>?_) λhc=>?_
   rotate_left
   ·refine zh (zj ⟨z,rfl,?_⟩)
    rw [List.take_of_length_le (by omega)] at hs
    exact hs
   have hil:i<ps.length:=by omega
   refine z22 hs (xs:=ps.map Prod.fst) (enc:=z0e) i (by rw [List.length_map];exact hil) ?_
   rw [List.getElem_map]
   have hF:=(hps _ (List.getElem_mem hil)).1
   have h1:=hmany (i+1)
   rw [hstep i hil,List.length_append] at h1
   refine wp_app' (xs:=z3k (ps.flatMap Prod.snd).length++(ps.take i).flatMap Prod.snd) (ys:=ps[i].2) (enc:=zi) hs (λz w' hs=>?_) (by rw [List.length_append,z5w];omega)
   rw [List.append_assoc,<- hstep i hil] at hs
   refine z2z (us':=[z.v,.int .i64 ((i+1:Nat):Int)]) (by (try simp (disch:=omega) only [w64]);first|rfl|(congr;omega)) ?_
   refine z11 (ps.length-(i+1)) ?_
   exact ⟨i+1,z,rfl,by omega,rfl,hs⟩
  clear hs
  rintro _ w ⟨z,rfl,hs⟩
  refine zm ?_
  have hhl:(z34 (ps.flatMap Prod.snd)).length=(ps.flatMap Prod.snd).length+4:=by unfold z34;rw [List.length_append,z5w];omega
  have hsl:=zr1 (z34 (ps.flatMap Prod.snd))
  refine z9m hs (enc:=z0e) z λy w' hs=>?_
  refine z8 (zh1 y z (z34 (ps.flatMap Prod.snd)) (by omega) hs) λ_ _ hs=>?_
  obtain ⟨rfl,hs⟩:=hs
  refine zb ?_
  refine z8 (zpy (z9i (z34 (ps.flatMap Prod.snd))) hsl hs) λ_ _ hs=>?_
  obtain ⟨u,rfl,hs⟩:=hs
  refine zb ?_
  have hs:=hs.pick [2,0,0]
  refine wp_app' (xs:=z34 (ps.flatMap Prod.snd)) (ys:=z3k (z9i (z34 (ps.flatMap Prod.snd)))) (enc:=zi) hs (λz w' hs=>?_) (by rw [z5w];omega)
  have e:z2h (ps.flatMap Prod.snd)=z34 (ps.flatMap Prod.snd)++z3k (z9i (z34 (ps.flatMap Prod.snd))):=by unfold z2h;rw [if_neg (by omega)]
  rw [<- e] at hs
  exact ⟨rfl,z,rfl,hs.sub⟩
theorem zxo (x y:Sl) (bs:List UInt8) [hx:FocR l x 1 ([y].flatMap z0e)] [hy:FocR l y 1 (bs.flatMap zi)] (hn:bs.length<=1000000000) (hs:Sat w l) :
  Ret P F.a53 #[x.v] w λvs w'=>∃ z:Sl,vs=[z.v]/\Sat w' (slc T.a52 1 z ((z2h bs).flatMap zi)::l):=by
 have:=@zq0 w l x [(y,bs)] hx (by intro p hp;rw [List.mem_singleton.1 hp];exact ⟨hy,hn⟩) (by simp) hs
 simpa using this
theorem zb6 (x:Sl) (bs:List UInt8) [hx:FocR l x 1 (bs.flatMap zi)] (hcap:x.len<=x.cap) (hn:bs.length<=1000000000) (hs:Sat w l) :
  Ret P F.a50 #[x.v] w λvs w'=>∃ z:Sl,vs=[z.v,.int .i64 ((((z0x bs).getD ([],0)).2:Nat):Int),.bool (z0x bs).isSome]/\Sat w' (slc T.a52 1 z (((z0x bs).getD ([],0)).1.flatMap zi)::l) :=
 zu0 x <| by
  delta z07d AE AG AI Ac Af Ah Ai Ak Al An Aq Cd Ce
  have hl:=hs.slen x (xs:=bs) (enc:=zi)
  have hno:∀ {w':World},z0x bs=none->Sat w' l->∃ z:Sl,[.slice none 0 0,.int .i64 0,.bool false]=[z.v,.int .i64 ((((z0x bs).getD ([],0)).2:Nat):Int),.bool (z0x bs).isSome]/\Sat w' (slc T.a52 1 z (((z0x bs).getD ([],0)).1.flatMap zi)::l):=λ{w'} h hs=>by
   rw [h];exact ⟨⟨none,0,0⟩,rfl,hs.slc_nil⟩
  refine ze (λh=>?_) λh=>?_
  ·exact ⟨rfl,hno (by unfold z0x;rw [if_pos (.inl (by omega))]) hs⟩
  refine z8 (zck x bs (by omega) hs) λ_ _ hs=>?_
  obtain ⟨rfl,hs⟩:=hs
  refine zb ?_
  have hf:=(zek bs (by omega)).2
  refine wp_lt ?_
  have e1:IntKind.wrap .i64 ((z0h bs:Nat):Int)=((z0h bs:Nat):Int):=by rw [w64 (by omega) (by omega)]
  have e2:IntKind.wrap .i64 (((x.len:Nat):Int)-8)=((bs.length-8:Nat):Int):=by rw [w64 (by omega) (by omega)];omega
  have e3:IntKind.wrap .i64 (((z0h bs:Nat):Int)+4)=((z0h bs+4:Nat):Int):=by rw [w64 (by omega) (by omega)];omega
  rw [e1,e2,e3]
  refine ze (λh2=>?_) λh2=>?_
  ·exact ⟨rfl,hno (by unfold z0x;rw [if_pos (by omega)]) hs⟩
  refine wp_lt ?_
  rw [Int.toNat_natCast]
  have hle:z0h bs+8<=bs.length:=by omega
  have hF1:FocR l ⟨z14 x.a 1 (z0h bs+4) x.cap,x.len-(z0h bs+4),x.cap-(z0h bs+4)⟩ 1 ((bs.drop (z0h bs+4)).flatMap zi):=FocR.post hcap
  have hF2:FocR l ⟨x.a,z0h bs+4,x.cap⟩ 1 ((bs.take (z0h bs+4)).flatMap zi):=FocR.pre (by omega)
  have htl:(bs.take (z0h bs+4)).length<=1000000000:=by rw [List.length_take];omega
  have hdl:4<=(bs.drop (z0h bs+4)).length:=by rw [List.length_drop];omega
  refine zf (λu w'=>u=(decide (z0h (bs.drop (z0h bs+4))≠z9i (bs.take (z0h bs+4))),())/\Sat w' l) ?_ ?_
  ·have hbeq:∀ a b:Nat,(((a:Int) != (b:Int)):Bool)=decide (a≠b):=λa b=>by
    rw [Bool.eq_iff_iff];simp;omega
   refine zx hs λw' hs=>?_
   refine wp_must ⟨by omega,show ((z0h bs+4:Nat):Int)<=((x.len:Nat):Int) by omega⟩ ?_
   refine wp_must ⟨by omega,show ((z0h bs+4:Nat):Int)<=((x.cap:Nat):Int) by omega⟩ ?_
   refine zho ?_ ?_
   ·refine z8 (zck ⟨z14 x.a 1 (z0h bs+4) x.cap,x.len-(z0h bs+4),x.cap-(z0h bs+4)⟩ (bs.drop (z0h bs+4)) hdl hs) λ_ _ hs=>?_
    obtain ⟨rfl,hs⟩:=hs
    refine zb ?_
    refine z9m hs (enc:=z0e) ⟨x.a,z0h bs+4,x.cap⟩ λy w' hs=>?_
    refine z8 (zh1 y ⟨x.a,z0h bs+4,x.cap⟩ (bs.take (z0h bs+4)) htl hs) λ_ _ hs=>?_
    obtain ⟨rfl,hs⟩:=hs
    refine zb ?_
    refine zd ?_
    exact zj ⟨by rw [hbeq],hs.tail⟩
   ·refine z9m hs (enc:=z0e) ⟨x.a,z0h bs+4,x.cap⟩ λy w' hs=>?_
    refine z8 (zck ⟨z14 x.a 1 (z0h bs+4) x.cap,x.len-(z0h bs+4),x.cap-(z0h bs+4)⟩ (bs.drop (z0h bs+4)) hdl hs) λ_ _ hs=>?_
    obtain ⟨rfl,hs⟩:=hs
    refine zb ?_
    refine z8 (zh1 y ⟨x.a,z0h bs+4,x.cap⟩ (bs.take (z0h bs+4)) htl hs) λ_ _ hs=>?_
    obtain ⟨rfl,hs⟩:=hs
    refine zb ?_
    refine zd ?_
    exact zj ⟨by rw [hbeq],hs.tail⟩
  clear hs
  rintro _ w ⟨rfl,hs⟩
  refine zm ?_
  refine ze (λh3=>?_) λh3=>?_
  ·exact ⟨rfl,hno (by unfold z0x;rw [if_neg (by omega),if_neg h3]) hs⟩
  have h3:z0h (bs.drop (z0h bs+4))=z9i (bs.take (z0h bs+4)):=Decidable.not_not.1 h3
  have hsome:z0x bs=some ((bs.drop 4).take (z0h bs),z0h bs+8):=by unfold z0x;rw [if_neg (by omega),if_pos h3]
  rw [hsome]
  refine wp_must ⟨by omega,by omega,show ((z0h bs+4:Nat):Int)<=((x.cap:Nat):Int) by omega⟩ ?_
  have hF3:FocR l ⟨z14 x.a 1 4 x.cap,x.len-4,x.cap-4⟩ 1 ((bs.drop 4).flatMap zi):=FocR.post hcap
  have hF4:FocR l ⟨z14 x.a 1 4 x.cap,z0h bs+4-4,x.cap-4⟩ 1 (((bs.drop 4).take (z0h bs+4-4)).flatMap zi):=FocR.pre (x:=⟨z14 x.a 1 4 x.cap,x.len-4,x.cap-4⟩) (by rw [List.length_drop];omega)
  refine z8 (zk5 ⟨z14 x.a 1 4 x.cap,z0h bs+4-4,x.cap-4⟩ ((bs.drop 4).take (z0h bs+4-4)) (by rw [List.length_take];omega) hs) λ_ _ hs=>?_
  obtain ⟨z,rfl,hs⟩:=hs
  refine zb ?_
  refine z23 (y:=((z0h bs+8:Nat):Int)) ?_ (by rw [w64 (by omega) (by omega)];omega)
  exact ⟨rfl,z,rfl,hs⟩
def zjl (bs:List UInt8):Option (List UInt8):=match z0x bs with
 | some (body,n)=>if n=bs.length then some body else none
 | none=>none
end
section
variable {w:World} {l r:List HP} {p:Nat} {s:Lf}
theorem zqz {R:RdM} (hb:R.at_<=R.bs.length) (he:R.e=0) (h:R.bs.length-R.at_=0):stR R=some []:=by
 rw [z7i he]
 unfold z4m
 rw [List.drop_eq_nil_of_le (by omega)]
theorem zlz {R:RdM} (he:R.e=0) (h:R.at_<R.bs.length):stR R=some (R.bs[R.at_]::R.bs.drop (R.at_+1)):=by
 rw [z7i he]
 unfold z4m
 rw [List.drop_eq_getElem_cons h]
theorem zej {x:Sl} {bs:List UInt8} {n k:Nat} (hcap:x.len<=x.cap) (hk:n+k<=bs.length) [hf:FocR l x 1 (bs.flatMap zi)]:FocR l ⟨z14 x.a 1 n x.cap,k,x.cap-n⟩ 1 (((bs.drop n).take k).flatMap zi):=by
 have h:FocR l ⟨z14 x.a 1 n x.cap,x.len-n,x.cap-n⟩ 1 ((bs.drop n).flatMap zi):=FocR.post hcap
 exact FocR.pre (x:=⟨z14 x.a 1 n x.cap,x.len-n,x.cap-n⟩) (by rw [List.length_drop];omega)
theorem zgy [hf:Fo l (rdS T.a54) p s r] (hs:Sat w l):Ret P F.a223 #[.pointer (some ⟨p,0,none⟩)] w λvs w'=>vs=[.int .i64 ((z0v s).1:Int)]/\Sat w' (rdS T.a54 p (z0v s).2::r) :=
 zp7 _ <| by
  delta z027 AA AU Ac Ad Af Ai Aj Ak Al Am An Aq BH BN
  obtain ⟨R,rfl,hs⟩:=z6x (hs.perm hf.perm)
  have hb:=z64 hs
  refine z8 (zcm (p:=p) hs) λ_ _ hs=>?_
  obtain ⟨rfl,hs⟩:=hs
  refine zb ?_
  refine ze (λh=>?_) λh=>?_
  ·have h:R.e≠0:=by simpa using h
   rw [z6l h]
   exact ⟨rfl,rfl,z2a (z6l h) hs⟩
  have h:R.e=0:=by simpa using h
  refine zg ?_
  refine z8 (zcr (p:=p) hs) λ_ _ hs=>?_
  obtain ⟨rfl,hs⟩:=hs
  refine zb ?_
  refine ze (λh2=>?_) λh2=>?_
  ·refine zg ?_
   refine z8 (z75 (p:=p) 6 hs) λ_ _ hs=>?_
   obtain ⟨rfl,hs⟩:=hs
   refine zb ?_
   rw [zqz hb.1 h (by omega)]
   exact ⟨rfl,rfl,z2a (if_neg (by show ¬ (if R.e=0 then (6:Int) else R.e)=0;rw [if_pos h];decide)) hs⟩
  have hlt:R.at_<R.bs.length:=by omega
  rw [zlz h hlt]
  obtain ⟨x,-,hs⟩:=z25 hs
  have hl:=hs.slen x (xs:=R.bs) (enc:=zi)
  have hcap:x.len<=x.cap:=(hs.pick [1]).slc_cap
  refine zg ?_
  refine z8 (zhf (p:=p) 1 (x:=x) (bs:=R.bs) (at_:=R.at_) (e:=R.e) (by omega) hb.2 hcap hs) λ_ w' hs=>?_
  obtain ⟨rfl,hs⟩:=hs
  refine zb ?_
  refine z81 (hf:=zej hcap (by omega)) hs (xs:=(R.bs.drop R.at_).take 1) (enc:=zi) 0 (by rw [List.length_take,List.length_drop];omega) ?_ rfl rfl
  have hg:((R.bs.drop R.at_).take 1)[0]'(by rw [List.length_take,List.length_drop];omega)=R.bs[R.at_]:=by simp
  rw [hg]
  have hc:=(R.bs[R.at_]).toNat_lt
  refine z23 (y:=((R.bs[R.at_]).toNat:Int)) ?_ (by rw [w64 (by omega) (by omega)])
  refine ⟨rfl,rfl,z2a (R:=⟨R.bs,R.at_+1,R.e⟩) ?_ (z13 ⟨R.bs,R.at_+1,R.e⟩ ⟨by show R.at_+1<=R.bs.length;omega,hb.2⟩ hs)⟩
  rw [z7i (R:=⟨R.bs,R.at_+1,R.e⟩) h]
  rfl
end
section
variable {w:World} {l r:List HP} {p:Nat} {s:Lf}
theorem z06d {P:Program} {t tx ty el:TypeId} {bytes:Nat} {xs:List UInt8} {t0:ByteArray} {x:Sl} {k:Sl->Prog} {Q:Post} {S:World->Prop} (hs:Sat w l) [ht:SlT P t el 1 bytes] [hst:StT P tx] [hf:FocS l x el 1 (xs.flatMap zi) r]
  (h:∀ z w',Sat w' (slc el 1 z ((xs++bl t0).flatMap zi)::r)->(k z).wp P S w' Q) (hb:(xs.length+t0.size)*bytes<=140737488355328/\xs.length+t0.size<=9223372036854775807) (hS:∀ w',S w':=by exact λ_=>trivial) :
  (Prog.act (app t tx ty (.slice x.a x.len x.cap) (.string t0)) sL (u1 k)).wp P S w Q:=by
 have h1:x.len=xs.length:=(hs.focS x).rd.len (enc:=zi) (λ_=>rfl) (by decide)
 obtain ⟨i,z,hi,h2,rfl,hz,hzs⟩:=ht.parts
 have hsrc:Src P i.size tx (.string t0) t0.size (byteCells t0) w:=by rw [h2];exact Src.ofString w hst.ok t0
 have hs':=hs.focS x
 rw [<- h2] at hs'
 obtain ⟨z,w',hrun,hlen,hs',_⟩:=zk1 (ty:=ty) ht.ok.1 hi hz hzs hs' hsrc (by rw [h1];exact hb.1) (by rw [h1];exact hb.2)
 refine ⟨(z,()),w',hrun,hS _,h z w' ?_⟩
 rw [h2] at hs'
 rw [List.flatMap_append,z9v (bl t0)]
 exact hs'
theorem zrd (t:ByteArray) (ht:t.size<=1000000000) (hs:Sat w l):Ret P F.a232 #[.string t] w λvs w'=>∃ z:Sl,vs=[z.v]/\Sat w' (slc T.a52 1 z ((uI (t.size:Nat)++bl t).flatMap zi)::l) :=
 zpg t <| by
  delta z02g AE Ak An
  refine z8 (z4z ((t.size:Nat):Int) (by omega) hs) λ_ w' hs=>?_
  obtain ⟨x,rfl,hs⟩:=hs
  refine zb ?_
  have hl:=hs.slen x
  have hul:=z1u ((t.size:Nat):Int)
  refine z06d (t0:=t) (xs:=uI (t.size:Nat)) hs (λz w' hs=>?_) (by omega)
  exact ⟨rfl,z,rfl,hs⟩
theorem z02z [hf:Fo l (rdS T.a54) p s r] (hs:Sat w l):Ret P F.a226 #[.pointer (some ⟨p,0,none⟩)] w λvs w'=>vs=[.bool (z4b s).1]/\Sat w' (rdS T.a54 p (z4b s).2::r) :=
 zpa _ <| by
  delta z02a AA AG AI AQ AU AX Ac Ad Ag Ai Aj Ak Al Am An BH BN Bw
  obtain ⟨R,rfl,hs⟩:=z6x (hs.perm hf.perm)
  have hb:=z64 hs
  refine z8 (zcm (p:=p) hs) λ_ _ hs=>?_
  obtain ⟨rfl,hs⟩:=hs
  refine zb ?_
  refine ze (λh=>?_) λh=>?_
  ·have h:R.e≠0:=by simpa using h
   rw [z6l h]
   exact ⟨rfl,rfl,z2a (z6l h) hs⟩
  have h:R.e=0:=by simpa using h
  refine zx hs λw' hs=>?_
  refine zg ?_
  refine z8 (zcr (p:=p) hs) λ_ _ hs=>?_
  obtain ⟨rfl,hs⟩:=hs
  refine zb ?_
  obtain ⟨x,-,hs⟩:=z25 hs
  have hl:=hs.slen x (xs:=R.bs) (enc:=zi)
  have hcap:x.len<=x.cap:=(hs.pick [1]).slc_cap
  refine z0k ?_
  refine za hs ?_
  refine z0k ?_
  refine za hs ?_
  by_cases h2:R.bs.length-R.at_=0
  ·refine zr9 hs (xs:=R.bs) (enc:=zi) (0:Int) (λhg=>absurd hg (by rw [h2];simp)) ?_
   refine zd ?_
   refine z0c ?_ (by rw [h2];exact .inl rfl)
   refine zg ?_
   have hs:=z13 R hb hs
   refine z8 (z75 (p:=p) 6 hs) λ_ _ hs=>?_
   obtain ⟨rfl,hs⟩:=hs
   refine zb ?_
   rw [zqz hb.1 h h2]
   exact ⟨rfl,rfl,z2a (if_neg (by show ¬ (if R.e=0 then (6:Int) else R.e)=0;rw [if_pos h];decide)) hs⟩
  ·have hlt:R.at_<R.bs.length:=by omega
   refine zr9 hs (xs:=R.bs) (enc:=zi) (((R.bs[R.at_]).toNat:Nat):Int) (λ_=>⟨R.at_,hlt,rfl,rfl⟩) ?_
   refine zd ?_
   rw [zlz h hlt]
   have hc:=(R.bs[R.at_]).toNat_lt
   unfold z4b
   simp only
   refine ze (λh3=>?_) λh3=>?_
   ·rw [if_neg (by omega)]
    refine zg ?_
    have hs:=z13 R hb hs
    refine z8 (z75 (p:=p) 6 hs) λ_ _ hs=>?_
    obtain ⟨rfl,hs⟩:=hs
    refine zb ?_
    exact ⟨rfl,rfl,z2a (if_neg (by show ¬ (if R.e=0 then (6:Int) else R.e)=0;rw [if_pos h];decide)) hs⟩
   ·rw [if_pos (by omega)]
    refine zg ?_
    refine z8 (zhf (p:=p) 1 (x:=x) (bs:=R.bs) (at_:=R.at_) (e:=R.e) (by omega) hb.2 hcap hs) λ_ w' hs=>?_
    obtain ⟨rfl,hs⟩:=hs
    refine zb ?_
    refine z81 (hf:=zej hcap (by omega)) hs (xs:=(R.bs.drop R.at_).take 1) (enc:=zi) 0 (by rw [List.length_take,List.length_drop];omega) ?_ rfl rfl
    have hg:((R.bs.drop R.at_).take 1)[0]'(by rw [List.length_take,List.length_drop];omega)=R.bs[R.at_]:=by simp
    rw [hg]
    refine wp_lt ?_
    have e:((((R.bs[R.at_]).toNat:Nat):Int) == 1)=decide ((R.bs[R.at_]).toNat=1):=by
     rw [Bool.eq_iff_iff];simp;omega
    rw [e]
    refine ⟨rfl,rfl,z2a (R:=⟨R.bs,R.at_+1,R.e⟩) ?_ (z13 ⟨R.bs,R.at_+1,R.e⟩ ⟨by show R.at_+1<=R.bs.length;omega,hb.2⟩ hs)⟩
    rw [z7i (R:=⟨R.bs,R.at_+1,R.e⟩) h]
    rfl
theorem zr5 (most:Nat) (hm:most<=1000000000) [hf:Fo l (rdS T.a54) p s r] (hs:Sat w l):Ret P F.a228 #[.pointer (some ⟨p,0,none⟩),.int .i64 (most:Nat)] w λvs w'=>vs=[.string (z1k most s).1]/\Sat w' (rdS T.a54 p (z1k most s).2::r) :=
 zpc _ _ <| by
  delta z02c AA AJ AK AP AU Ab Ac Ad Af Ag Ai Aj Ak Am An Aq BH Ba Bi Bj
  obtain ⟨R,rfl,hs⟩:=z6x (hs.perm hf.perm)
  have hb:=z64 hs
  refine z8 (zcm (p:=p) hs) λ_ _ hs=>?_
  obtain ⟨rfl,hs⟩:=hs
  refine zb ?_
  refine ze (λh=>?_) λh=>?_
  ·have h:R.e≠0:=by simpa using h
   rw [z6l h]
   exact ⟨rfl,rfl,z2a (z6l h) hs⟩
  have h:R.e=0:=by simpa using h
  refine zg ?_
  obtain ⟨x,-,hs⟩:=z25 hs
  refine za hs ?_
  refine wp_lt ?_
  refine zg ?_
  have hs:=z13 R hb hs
  refine z8 (zqr (p:=p) h hs) λ_ _ hs=>?_
  obtain ⟨rfl,hs⟩:=hs
  refine zb ?_
  refine wp_lt ?_
  refine zg ?_
  have hst:=zdi (R:=R)
  have hbs:=zr6 R
  generalize hU:R.uint=U at *
  obtain ⟨v,R'⟩:=U
  have hs:Sat _ (rdP T.a54 p R'::r):=hs
  have hbs:R'.bs=R.bs:=hbs
  have hb':=z64 hs
  obtain ⟨y,-,hs⟩:=z25 hs
  have hl:=hs.slen y (xs:=R'.bs) (enc:=zi)
  have hcap:y.len<=y.cap:=(hs.pick [1]).slc_cap
  refine za hs ?_
  refine wp_lt ?_
  have hend':∀ {w':World} {e:Int} {y:Sl},e≠0->Sat w' (pt p (.cells #[.slice y.a y.len y.cap,.int .i64 R'.at_,.int .i64 e] T.a54)::slc T.a52 1 y (R'.bs.flatMap zi)::r) ->
    (z1k most (stR R)).2=none->(z1k most (stR R)).1=⟨#[]⟩ ->
    (Prog.ex [.adr] (c1 λa27=>some ((⟨p,0,none⟩:Addr))=some a27) (u1 λa28=>.actU (st T.a13 (Addr.add (Addr.add a28 0) 1) (.int .i64 (R.at_:Int))) <| .done 0 [.string (ByteArray.mk #[])])).wp P (λ_=>True) w' λe vs w'=>e=0/\vs=[.string (z1k most (stR R)).1]/\Sat w' (rdS T.a54 p (z1k most (stR R)).2::r):=by
   intro w' e y he hs h1 h2
   refine zg ?_
   refine z07 hs λw' hs=>?_
   rw [h1,h2]
   refine ⟨rfl,rfl,z2a (R:=⟨R'.bs,R.at_,e⟩) (z6l he) (z13 ⟨R'.bs,R.at_,e⟩ ⟨by rw [hbs];exact hb.1,hb'.2⟩ hs)⟩
  refine z50 ?_
  refine ze (λhe=>?_) λhe=>?_
  ·have he:R'.e≠0:=by simpa using he
   refine z4s ?_
   have h1:(z0l (stR R)).2=none:=by rw [<- hst.2];exact z6l he
   refine hend' he hs (by unfold z1k;rw [h1]) (by unfold z1k;rw [h1])
  ·have he:R'.e=0:=by simpa using he
   have h1:(z0l (stR R)).2=some (z4m R'):=by rw [<- hst.2];exact z7i he
   have hv:=z78 h1
   have h0:(z0l (stR R)).1=v:=hst.1.symm
   have hlen:(z4m R').length=R'.bs.length-R'.at_:=zlh
   have ew:IntKind.wrap .u64 (if 0>((most:Nat):Int) then 0 else ((most:Nat):Int))=((most:Nat):Int):=by
    rw [if_neg (by omega),zma (by omega) (by omega)]
   rw [ew]
   refine wp_lt ?_
   refine z50 ?_
   refine ze (λh3=>?_) λh3=>?_
   ·refine zg ?_
    have hs:=z13 R' hb' hs
    refine z8 (z75 (p:=p) 7 hs) λ_ _ hs=>?_
    obtain ⟨rfl,hs⟩:=hs
    refine zb ?_
    refine z4s ?_
    refine z4s ?_
    obtain ⟨y2,-,hs⟩:=z25 hs
    refine hend' (e:=(R'.fail 7).e) ?_ hs ?_ ?_
    ·show (if R'.e=0 then (7:Int) else R'.e)≠0
     rw [if_pos he];decide
    ·unfold z1k;rw [h1];simp only;rw [h0,if_neg (by omega)]
    ·unfold z1k;rw [h1];simp only;rw [h0,if_neg (by omega)]
   ·refine zg ?_
    have hs:=z13 R' hb' hs
    refine z8 (zcr (p:=p) hs) λ_ _ hs=>?_
    obtain ⟨rfl,hs⟩:=hs
    refine zb ?_
    have eu:IntKind.wrap .u64 ((R'.bs.length-R'.at_:Nat):Int)=((R'.bs.length-R'.at_:Nat):Int):=zma (by omega) (by omega)
    rw [eu]
    refine wp_lt ?_
    refine ze (λh4=>?_) λh4=>?_
    ·refine zg ?_
     refine z8 (z75 (p:=p) 6 hs) λ_ _ hs=>?_
     obtain ⟨rfl,hs⟩:=hs
     refine zb ?_
     refine z4s ?_
     refine z4s ?_
     obtain ⟨y2,-,hs⟩:=z25 hs
     refine hend' (e:=(R'.fail 6).e) ?_ hs ?_ ?_
     ·show (if R'.e=0 then (6:Int) else R'.e)≠0
      rw [if_pos he];decide
     ·unfold z1k;rw [h1];simp only;rw [h0,if_neg (by omega)]
     ·unfold z1k;rw [h1];simp only;rw [h0,if_neg (by omega)]
    ·refine zg ?_
     rw [w64 (by omega) (by omega)]
     obtain ⟨y2,-,hs⟩:=z25 hs
     have hcap2:y2.len<=y2.cap:=(hs.pick [1]).slc_cap
     refine z8 (zhf (p:=p) v (x:=y2) (bs:=R'.bs) (at_:=R'.at_) (e:=R'.e) (by omega) hb'.2 hcap2 hs) λ_ w' hs=>?_
     obtain ⟨rfl,hs⟩:=hs
     refine zb ?_
     refine zx0 (hf:=zej hcap2 (by omega)) (bs:=(R'.bs.drop R'.at_).take v) hs ?_
     refine wp_lt ?_
     have e1:z1k most (stR R)=(⟨((z4m R').take v).toArray⟩,some ((z4m R').drop v)):=by
      unfold z1k;rw [h1];simp only;rw [h0,if_pos ⟨by omega,by omega⟩]
     rw [e1]
     refine zh (zh ⟨rfl,rfl,z2a (R:=⟨R'.bs,R'.at_+v,R'.e⟩) ?_ (z13 ⟨R'.bs,R'.at_+v,R'.e⟩ ⟨by show R'.at_+v<=R'.bs.length;omega,hb'.2⟩ hs)⟩)
     rw [z7i (R:=⟨R'.bs,R'.at_+v,R'.e⟩) he]
     unfold z4m
     rw [List.drop_drop]
end
section
variable {w:World} {l r:List HP} {p:Nat} {s:Lf}
theorem z9l (most:Int) (hm:0<=most/\most<9223372036854775807) [hf:Fo l (rdS T.a54) p s r] (hs:Sat w l):Ret P F.a132 #[.pointer (some ⟨p,0,none⟩),.int .i64 most] w λvs w'=>vs=[.int .i64 (z00 most s).1]/\Sat w' (rdS T.a54 p (z00 most s).2::r) :=
 zno _ most <| by
  delta z011 Ac Ad Af Ai An Aq Bi Bj;unfold z00
  refine z8 (zhm (p:=p) hs) λ_ _ hs=>?_
  obtain ⟨rfl,hs⟩:=hs
  refine zb ?_
  refine wp_lt ?_
  have e:IntKind.wrap .u64 most=most:=by rw [z82];omega
  rw [e]
  refine ze (λh=>?_) λh=>?_
  ·refine z23 (y:=most+1) ?_ (by rw [w64 (by omega) (by omega)])
   rw [if_pos h]
   exact ⟨rfl,rfl,hs⟩
  ·refine z23 (y:=((z0l s).1:Int)) ?_ (by rw [w64 (by omega) (by omega)])
   rw [if_neg h]
   exact ⟨rfl,rfl,hs⟩
theorem zpn (a b:ByteArray) (ha:a.size<=1000000000) (hs:Sat w l):Ret P F.a125 #[.string a,.string b] w λvs w'=>vs=[.int .i64 (z0n (bl a) (bl b):Nat)]/\Sat w' l :=
 znh a b <| by
  delta z00u AG AI AK AT Ac Af Ai An Aq
  refine z23 (y:=((min a.size b.size:Nat):Int)) ?_ (by split <;> omega)
  refine zf (λ_ w'=>(bl a).take (min a.size b.size)=(bl b).take (min a.size b.size)/\Sat w' l) ?_ ?_
  rotate_left
  ·rintro _ w' ⟨ht,hs⟩
   refine zm ?_
   refine wp_lt ?_
   refine ⟨rfl,?_,hs⟩
   rw [zc5 (i:=min a.size b.size) (by rw [z1g];omega) (by rw [z1g];omega) ht (by rw [z1g,z1g];omega)]
  refine z03 (λk v w=>∃ i:Nat,v=((i:Int),())/\i<=min a.size b.size/\min a.size b.size-i=k/\(bl a).take i=(bl b).take i/\Sat w l) (min a.size b.size) ⟨0,rfl,by omega,rfl,rfl,hs⟩ ?_
  clear hs
  rintro k _ w ⟨i,rfl,hi,hk,ht,hs⟩
  refine zm ?_
  refine ze (λhc=>?_) λhc=>?_
  rotate_left
  ·refine zh (zj ⟨?_,hs⟩)
   have:i=min a.size b.size:=by omega
   rwa [this] at ht
  have h1:i<(bl a).length:=by rw [z1g];omega
  have h2:i<(bl b).length:=by rw [z1g];omega
  refine wp_lt ?_
  refine zx hs λw' hs=>?_
  refine wp_must (by omega) ?_
  refine wp_must (by omega) ?_
  refine zd ?_
  have hb:∀ (c:ByteArray) (h:i<(bl c).length),bt c (i:Int)=(((bl c)[i]).toNat:Int):=λc h=>by
   unfold bt
   rw [Int.toNat_natCast,List.getD_eq_getElem?_getD,List.getElem?_eq_getElem h];rfl
  rw [hb a h1,hb b h2]
  refine ze (λhd=>?_) λhd=>?_
  ·refine wp_lt ?_
   refine zh (zh ⟨rfl,?_,hs⟩)
   have hne:(bl a)[i]≠(bl b)[i]:=λe=>by rw [e] at hd;simp at hd
   rw [zc5 (i:=i) (by omega) (by omega) ht (.inr (.inr (by rw [List.getElem?_eq_getElem h1,List.getElem?_eq_getElem h2];simpa using hne)))]
  ·have he:(bl a)[i]=(bl b)[i]:=by
    apply UInt8.toNat_inj.1
    have:(((bl a)[i]).toNat:Int)=(((bl b)[i]).toNat:Int):=by simpa using hd
    omega
   refine z2z (us':=[.int .i64 ((i+1:Nat):Int)]) (by (try simp (disch:=omega) only [w64]);first|rfl|(congr;omega)) ?_
   refine z11 (min a.size b.size-(i+1)) ?_
   exact ⟨i+1,rfl,by omega,rfl,by rw [List.take_succ_eq_append_getElem h1,List.take_succ_eq_append_getElem h2,ht,he],hs⟩
end
theorem zsv {lo hi:Int} (h:lo<=0/\0<=hi) (s:Lf):lo<=(z1l lo hi s).1/\(z1l lo hi s).1<=hi:=by
 unfold z1l
 split
 ·exact h
 ·split
  ·exact h
  ·simp only;omega
theorem zfe {most:Int} (h:0<=most) (s:Lf):0<=(z00 most s).1/\(z00 most s).1<=most+1:=by
 unfold z00
 simp only
 split <;> omega
theorem zz7 (most:Nat) (s:Lf):(z1k most s).1.size<=most:=by
 unfold z1k
 split
 ·show 0<=most;omega
 ·split
  ·rename_i h
   show (List.take _ _).length<=most
   rw [List.length_take];omega
  ·show 0<=most;omega
section
variable {w:World} {l r:List HP} {p:Nat} {s:Lf}
theorem z03x (time:Int) (ht:0<=time/\time<=1099511627776) (ahead:ByteArray) (ha:ahead.size<=100000) [hf:Fo l (rdS T.a54) p s r] (hs:Sat w l) :
  Ret P F.a130 #[.pointer (some ⟨p,0,none⟩),.int .i64 time,.string ahead] w λvs w'=>∃ x:RecM,vs=[.agg (z04 x).toArray,.bool (z3c time ahead s).1.isSome]/\(∀ y,(z3c time ahead s).1=some y->x=y)/\x.key.size<=2100/\Sat w' (rdS T.a54 p (z3c time ahead s).2::r) :=
 znm _ _ _ <| by
  delta z00z AD AG AI AJ AK Aa Ab Ac Ad Af Ag Ah Ai Aj Am An Ao Aq Ar BZ Bg Br
  refine zq hs λa0 w' hs=>?_
  have hbd:=zsv (lo := -1099511627776) (hi:=1099511627776) (by decide) s
  refine z8 (zwv (p:=p) (-1099511627776) 1099511627776 hs) λ_ _ hs=>?_
  obtain ⟨rfl,hs⟩:=hs
  refine zb ?_
  refine wp_lt ?_
  refine z8 (z02z (p:=p) hs) λ_ _ hs=>?_
  obtain ⟨rfl,hs⟩:=hs
  refine zb ?_
  refine zq hs λa4 w' hs=>?_
  rw [w64 (by omega) (by omega)]
  refine zr hs λw' hs=>?_
  refine z8 (z9l (p:=p) 1024 (by omega) hs) λ_ _ hs=>?_
  obtain ⟨rfl,hs⟩:=hs
  refine zb ?_
  refine wp_lt ?_
  refine z8 (zr5 (p:=p) 1024 (by omega) hs) λ_ _ hs=>?_
  obtain ⟨rfl,hs⟩:=hs
  refine zb ?_
  refine wp_lt ?_
  have hR:z3c time ahead s=if (z00 1024 (z4b (z1l (-1099511627776) 1099511627776 s).2).2).1>ahead.size then (none,(z1k 1024 (z00 1024 (z4b (z1l (-1099511627776) 1099511627776 s).2).2).2).2) else
   let a:=z1l (-1099511627776) 1099511627776 s
   let b:=z4b a.2
   let c:=z00 1024 b.2
   let d:=z1k 1024 c.2
   let e:=if b.1 then (⟨#[]⟩,d.2) else z1k 1024 d.2
   if e.2.isSome=true/\(z0n (bl ahead) (bl (z4w ahead c.1 d.1)):Int)=c.1 then (some ⟨z4w ahead c.1 d.1,e.1,b.1,time+a.1⟩,e.2) else (none,e.2):=rfl
  simp only at hR
  have hcb:=zfe (most:=1024) (by decide) (z4b (z1l (-1099511627776) 1099511627776 s).2).2
  have hdb:=zz7 1024 (z00 1024 (z4b (z1l (-1099511627776) 1099511627776 s).2).2).2
  generalize z3c time ahead s=RR at *
  generalize z1l (-1099511627776) 1099511627776 s=a at *
  generalize z4b a.2=b at *
  generalize z00 1024 b.2=c at *
  generalize z1k 1024 c.2=d at *
  refine ze (λh=>?_) λh=>?_
  ·rw [if_pos h] at hR
   subst hR
   refine zk hs ?_
   refine zr hs λw' hs=>?_
   refine zk hs ?_
   exact ⟨rfl,⟨⟨#[]⟩,⟨#[]⟩,b.1,time+a.1⟩,rfl,(λy hy=>by cases hy),by show 0<=2100;omega,hs.sub⟩
  rw [if_neg h] at hR
  refine wp_must (by omega) ?_
  have hks:(ByteArray.extract ahead 0 (Int.toNat c.1)).size<=1025:=by
   rw [ByteArray.size_extract];omega
  refine wp_must (by omega) ?_
  refine z07 hs λw' hs=>?_
  have ek:ByteArray.extract ahead 0 (Int.toNat c.1)++d.1=z4w ahead c.1 d.1:=rfl
  rw [ek] at hs
  refine za hs ?_
  have hkey:(z4w ahead c.1 d.1).size<=2100:=by
   unfold z4w
   rw [ByteArray.size_append]
   omega
  refine zf (λ_ w'=>Sat w' (pt a4 (.cells #[.string (z4w ahead c.1 d.1),.string (if b.1=true then ((⟨#[]⟩:ByteArray),d.2) else z1k 1024 d.2).1,.bool b.1,.int .i64 (time+a.1)] T.a2)::rdS T.a54 p (if b.1=true then ((⟨#[]⟩:ByteArray),d.2) else z1k 1024 d.2).2::pt a0 (.cells #[.string ⟨#[]⟩,.string ⟨#[]⟩,.bool false,.int .i64 0] T.a2)::r)) ?_ ?_
  ·refine ze (λh2=>?_) λh2=>?_
   ·have h2:b.1=false:=by simpa using h2
    refine z8 (zr5 (p:=p) 1024 (by omega) hs) λ_ _ hs=>?_
    obtain ⟨rfl,hs⟩:=hs
    refine zb ?_
    refine z07 hs λw' hs=>?_
    refine zj ?_
    rw [if_neg (by rw [h2];simp)]
    exact hs.sub
   ·have h2:b.1=true:=by simpa using h2
    refine zj ?_
    rw [if_pos h2]
    dsimp only
    exact hs.sub
  rintro _ w1 hs
  generalize (if b.1=true then ((⟨#[]⟩:ByteArray),d.2) else z1k 1024 d.2)=e at *
  refine zf (λq w'=>q=(RR.1.isSome,())/\Sat w' (pt a0 (.cells #[.string (z4w ahead c.1 d.1),.string e.1,.bool b.1,.int .i64 (time+a.1)] T.a2)::rdS T.a54 p e.2::r)) ?_ ?_
  ·refine zx hs λw' hs=>?_
   refine zgk hs ?_
   refine z8 (zvc (p:=p) hs) λ_ _ hs=>?_
   obtain ⟨er,rfl,her,hs⟩:=hs
   refine zb ?_ (by first|trivial|(repeat (first|exact trivial|exact λ_=>z09 hs|exact λ_=>z0m hs|refine And.intro ?_ ?_)))
   refine za hs ?_
   refine ze (λh2=>?_) λh2=>?_
   ·have h2:e.2.isSome=true:=her.1 (by simpa using h2)
    refine z8 (zpn ahead (z4w ahead c.1 d.1) (by omega) hs) λ_ _ hs=>?_
    obtain ⟨rfl,hs⟩:=hs
    refine zb ?_ (by first|trivial|(repeat (first|exact trivial|exact λ_=>z09 hs|exact λ_=>z0m hs|refine And.intro ?_ ?_)))
    refine zd ?_
    refine zr hs λw' hs=>?_
    refine wp_lt ?_
    refine zd ?_
    refine zj ⟨?_,hs.sub⟩
    have e3:(((z0n (bl ahead) (bl (z4w ahead c.1 d.1)):Nat):Int) == c.1)=RR.1.isSome:=by
     rw [hR]
     by_cases h3:((z0n (bl ahead) (bl (z4w ahead c.1 d.1)):Nat):Int)=c.1
     ·rw [if_pos ⟨h2,h3⟩];simpa using h3
     ·rw [if_neg λh=>h3 h.2];simpa using h3
    rw [e3]
   ·have h2:¬ e.2.isSome=true:=λh=>h2 (by simpa using her.2 h)
    refine zd ?_
    refine zr hs λw' hs=>?_
    refine zd ?_
    refine zj ⟨?_,hs.sub⟩
    rw [hR,if_neg λh=>h2 h.1]
    rfl
  rintro _ w1 ⟨rfl,hs⟩
  refine zk hs ?_
  refine ⟨rfl,⟨z4w ahead c.1 d.1,e.1,b.1,time+a.1⟩,rfl,λy hy=>?_,hkey,?_⟩
  ·rw [hR] at hy
   split at hy
   ·simpa using hy
   ·cases hy
  ·have e4:RR.2=e.2:=by rw [hR];split <;> rfl
   rw [e4]
   exact hs.sub
end
def zt4:BatM:=⟨0,0,0,0,0,0,z7t,[]⟩
abbrev zeroC:Array Value:=#[.int .i64 0,.int .i64 0,.int .i64 0,.int .i64 0,.int .i64 0,.int .i64 0,.slice none 0 0]
theorem zwx {P:Program} {p:Prog} {S:World->Prop} {w:World} {Q0 Q:Post} (h:p.wp P S w Q0) (h0:∀ e vs w,Q0 e vs w->e=0) (hQ:∀ vs w,Q0 0 vs w->Q 0 vs w):p.wp P S w Q :=
 Prog.wp_mono p (λe vs w h=>by have:=h0 e vs w h;subst this;exact hQ vs w h) h
theorem zsp (time:Int) (n:Nat) (ahead:ByteArray) (s:Lf):z4i time (n+1) ahead s=match (z3c time ahead s).1 with
  | none=>none
  | some x=>(z4i time n x.key (z3c time ahead s).2).map λq=>(x::q.1,q.2):=rfl
def BatM.at (b:BatM) (z:Sl):BatM:={ b with x:=z }
section
variable {w:World} {l r:List HP} {p:Nat} {s:Lf}
theorem zkd (x:Sl) (raw:List UInt8) [hx:FocR l x 1 (raw.flatMap zi)] (hn:raw.length<=1000000000) (hs:Sat w l) :
  Ret P F.a118 #[x.v] w λvs w'=>(∃ b z,z5s raw=some b/\vs=[.agg (zv (b.at z)).toArray,.int .i64 0]/\Sat w' (slc T.a2 4 z (b.rs.flatMap z04)::l)) \/
   (z5s raw=none/\vs=[.agg (zv zt4).toArray,.int .i64 6]/\Sat w' l) :=
 zna _ <| by
  delta z00n AC AD AE AF AH AJ AK AO AP AQ AY Ab Ac Ad Af Ag Ah Ai Aj Am An Ao Aq Ar Ax BZ
  refine zq hs λa0 w' hs=>?_
  refine zq hs λa1 w' hs=>?_
  refine zr hs λw' hs=>?_
  refine z8 (zw2 x raw hn hs) λ_ w' hs=>?_
  obtain ⟨p,rfl,hs⟩:=hs
  refine zb ?_
  refine z8 (zgy (p:=p) hs) λ_ _ hs=>?_
  obtain ⟨rfl,hs⟩:=hs
  refine zb ?_
  have hfail:∀ {w':World},Sat w' (pt a1 (.cells zeroC T.a0)::pt a0 (.cells zeroC T.a0)::l)->z5s raw=none ->
    (Prog.read True (ld T.a0 ⟨a1,0,none⟩) (sG [.int .i64,.int .i64,.int .i64,.int .i64,.int .i64,.int .i64,.slc]) (u7 λn4 n5 n6 n7 n8 n9 l10 =>
     .actU (st T.a0 ⟨a0,0,none⟩ (.agg #[.int .i64 n4,.int .i64 n5,.int .i64 n6,.int .i64 n7,.int .i64 n8,.int .i64 n9,l10.v])) <|
     .read True (ld T.a0 ⟨a0,0,none⟩) (sG [.int .i64,.int .i64,.int .i64,.int .i64,.int .i64,.int .i64,.slc]) (u7 λn11 n12 n13 n14 n15 n16 l17 =>
     .done 0 [.agg #[.int .i64 n11,.int .i64 n12,.int .i64 n13,.int .i64 n14,.int .i64 n15,.int .i64 n16,l17.v],.int .i64 6]))).wp P (λ_=>True) w' λe vs w=>e=0/\((∃ b z,z5s raw=some b/\vs=[.agg (zv (b.at z)).toArray,.int .i64 0]/\Sat w (slc T.a2 4 z (b.rs.flatMap z04)::l)) \/
      (z5s raw=none/\vs=[.agg (zv zt4).toArray,.int .i64 6]/\Sat w l)):=by
   intro w' hs hd
   have hs:Sat w' (pt a1 (.cells [.int .i64 0,.int .i64 0,.int .i64 0,.int .i64 0,.int .i64 0,.int .i64 0,.slice none 0 0].toArray T.a0)::pt a0 (.cells [.int .i64 0,.int .i64 0,.int .i64 0,.int .i64 0,.int .i64 0,.int .i64 0,.slice none 0 0].toArray T.a0)::l):=hs
   refine zk hs ?_
   refine zr hs λw' hs=>?_
   refine zk hs ?_
   exact ⟨rfl,.inr ⟨hd,rfl,hs.sub⟩⟩
  replace hs:Sat _ (rdS T.a54 p (z0v (some raw)).2::pt a1 (.cells zeroC T.a0)::pt a0 (.cells zeroC T.a0)::l):=hs.sub
  refine ze (λh=>?_) λh=>?_
  ·refine hfail hs.sub ?_
   unfold z5s
   rw [if_pos (by omega)]
  have hdec:z5s raw=zk6 (hdS (z0v (some raw)).2):=by
   unfold z5s
   rw [if_neg (by omega)]
  generalize z5s raw=DD at *
  generalize (z0v (some raw)).2=s at *
  have hH:hdS s=⟨z0v s,z00 1099511627776 (z0v s).2,z00 1048576 (z00 1099511627776 (z0v s).2).2,
   if (z00 1048576 (z00 1099511627776 (z0v s).2).2).1>0 then z00 32767 (z00 1048576 (z00 1099511627776 (z0v s).2).2).2 else (0,(z00 1048576 (z00 1099511627776 (z0v s).2).2).2),
   if (z00 1048576 (z00 1099511627776 (z0v s).2).2).1>0/\z36 (z0v s).1=false then z00 2147483647 (if (z00 1048576 (z00 1099511627776 (z0v s).2).2).1>0 then z00 32767 (z00 1048576 (z00 1099511627776 (z0v s).2).2).2 else (0,(z00 1048576 (z00 1099511627776 (z0v s).2).2).2)).2 else (0,(if (z00 1048576 (z00 1099511627776 (z0v s).2).2).1>0 then z00 32767 (z00 1048576 (z00 1099511627776 (z0v s).2).2).2 else (0,(z00 1048576 (z00 1099511627776 (z0v s).2).2).2)).2),
   z00 1099511627776 (if (z00 1048576 (z00 1099511627776 (z0v s).2).2).1>0/\z36 (z0v s).1=false then z00 2147483647 (if (z00 1048576 (z00 1099511627776 (z0v s).2).2).1>0 then z00 32767 (z00 1048576 (z00 1099511627776 (z0v s).2).2).2 else (0,(z00 1048576 (z00 1099511627776 (z0v s).2).2).2)).2 else (0,(if (z00 1048576 (z00 1099511627776 (z0v s).2).2).1>0 then z00 32767 (z00 1048576 (z00 1099511627776 (z0v s).2).2).2 else (0,(z00 1048576 (z00 1099511627776 (z0v s).2).2).2)).2)).2⟩:=rfl
  refine z8 (zgy (p:=p) hs) λ_ _ hs=>?_
  obtain ⟨rfl,hs⟩:=hs
  refine zb ?_
  generalize z0v s=k at *
  refine z8 (z9l (p:=p) 1099511627776 (by omega) hs) λ_ _ hs=>?_
  obtain ⟨rfl,hs⟩:=hs
  refine zb ?_
  generalize z00 1099511627776 k.2=ba at *
  refine z8 (z9l (p:=p) 1048576 (by omega) hs) λ_ _ hs=>?_
  obtain ⟨rfl,hs⟩:=hs
  refine zb ?_
  generalize z00 1048576 ba.2=pi at *
  refine zq hs λa2 w' hs=>?_
  refine zr hs λw' hs=>?_
  refine za hs ?_
  generalize hep:(if pi.1>0 then z00 32767 pi.2 else (0,pi.2))=ep at *
  generalize hsq:(if pi.1>0/\z36 k.1=false then z00 2147483647 ep.2 else (0,ep.2))=sq at *
  refine zf (λ_ w'=>Sat w' (pt a2 (.cells [.int .i64 ba.1,.int .i64 pi.1,.int .i64 ep.1,.int .i64 sq.1,.int .i64 k.1,.int .i64 0,.slice none 0 0].toArray T.a0)::rdS T.a54 p sq.2::pt a1 (.cells zeroC T.a0)::pt a0 (.cells zeroC T.a0)::l)) ?_ ?_
  ·refine ze (λh=>?_) λh=>?_
   ·rw [if_pos h] at hep
    refine z8 (z9l (p:=p) 32767 (by omega) hs) λ_ _ hs=>?_
    obtain ⟨rfl,hs⟩:=hs
    refine zb ?_
    rw [hep] at hs ⊢
    refine z07 hs λw' hs=>?_
    refine zk hs ?_
    refine z8 (z6h ⟨ba.1,pi.1,ep.1,0,k.1,0,z7t,[]⟩ hs) λ_ w' hs=>?_
    obtain ⟨rfl,hs⟩:=hs
    refine zb ?_
    have em:z0i ⟨ba.1,pi.1,ep.1,0,k.1,0,z7t,[]⟩=z36 k.1:=rfl
    rw [em]
    refine z50 ?_
    refine ze (λh2=>?_) λh2=>?_
    ·have h2:z36 k.1=false:=by simpa using h2
     rw [if_pos ⟨h,h2⟩] at hsq
     refine z8 (z9l (p:=p) 2147483647 (by omega) hs) λ_ _ hs=>?_
     obtain ⟨rfl,hs⟩:=hs
     refine zb ?_
     rw [hsq] at hs ⊢
     refine z07 hs λw' hs=>?_
     refine z4s ?_
     refine zj ?_
     exact hs.sub
    ·have h2:z36 k.1≠false:=by simpa using h2
     rw [if_neg λh=>h2 h.2] at hsq
     refine z4s ?_
     refine zj ?_
     rw [<- hsq]
     exact hs.sub
   ·rw [if_neg h] at hep
    rw [if_neg λh2=>h h2.1] at hsq
    refine zj ?_
    rw [<- hsq,<- hep]
    exact hs.sub
  rintro _ w1 hs
  refine z8 (z9l (p:=p) 1099511627776 (by omega) hs) λ_ _ hs=>?_
  obtain ⟨rfl,hs⟩:=hs
  refine zb ?_
  have htb:=zfe (most:=1099511627776) (by decide) sq.2
  generalize z00 1099511627776 sq.2=tm at *
  refine z07 hs λw' hs=>?_
  refine z8 (zvc (p:=p) hs) λ_ _ hs=>?_
  obtain ⟨er,rfl,her,hs⟩:=hs
  refine zb ?_
  refine za hs ?_
  rw [hH] at hdec
  generalize hHH:(⟨k,ba,pi,ep,sq,tm⟩:HdS)=H at *
  have e1:H.tm=tm:=by rw [<- hHH]
  have e2:H.k=k:=by rw [<- hHH]
  unfold zk6 at hdec
  rw [e1,e2] at hdec
  refine ze (λh=>?_) λh=>?_
  ·refine hfail hs.sub ?_
   rw [hdec,if_pos]
   rcases h with h|h
   ·left
    cases hi:tm.2.isSome with
    | false=>rfl
    | true=>exact absurd (her.2 hi) h
   ·right;omega
  have htm:tm.1<=1099511627776:=by
   apply Decidable.byContradiction
   intro hh
   exact h (.inr (by omega))
  have her0:tm.2.isSome=true:=her.1 (Decidable.byContradiction λhh=>h (.inl hh))
  rw [if_neg (by rw [her0];rintro (h|h);cases h;omega)] at hdec
  refine zk hs ?_
  refine z8 (z6h ⟨ba.1,pi.1,ep.1,sq.1,k.1,tm.1,z7t,[]⟩ hs) λ_ w' hs=>?_
  obtain ⟨rfl,hs⟩:=hs
  refine zb ?_
  have em:z0i ⟨ba.1,pi.1,ep.1,sq.1,k.1,tm.1,z7t,[]⟩=z36 k.1:=rfl
  rw [em]
  refine zf (λ_ w'=>∃ (rs:List RecM) (z:Sl) (s1:Lf),DD=(if s1=some []/\z05 (H.b rs)=0 then some (H.b rs) else none)/\Sat w' (slc T.a2 4 z (rs.flatMap z04)::pt a2 (.cells [.int .i64 ba.1,.int .i64 pi.1,.int .i64 ep.1,.int .i64 sq.1,.int .i64 k.1,.int .i64 tm.1,.slice z.a z.len z.cap].toArray T.a0)::rdS T.a54 p s1::pt a1 (.cells zeroC T.a0)::pt a0 (.cells zeroC T.a0)::l)) ?_ ?_
  ·refine ze (λh2=>?_) λh2=>?_
   rotate_left
   ·have h2:z36 k.1=true:=by simpa using h2
    rw [if_pos h2] at hdec
    refine zj ⟨[],⟨none,0,0⟩,tm.2,hdec,?_⟩
    have hs:Sat _ (slc T.a2 4 ⟨none,0,0⟩ (([]:List RecM).flatMap z04)::_):=hs.slc_nil
    exact hs.sub
   have h2:z36 k.1=false:=by simpa using h2
   rw [if_neg (by rw [h2];simp)] at hdec
   refine z8 (z9l (p:=p) 64 (by omega) hs) λ_ _ hs=>?_
   obtain ⟨rfl,hs⟩:=hs
   refine zb ?_
   have hnb:=zfe (most:=64) (by decide) tm.2
   generalize z00 64 tm.2=n at *
   refine wp_lt ?_
   refine ze (λh3=>?_) λh3=>?_
   ·rw [if_pos h3] at hdec
    have hf:=hfail hs.sub hdec
    exact zwx hf (λ_ _ _ h=>h.1) λvs w h=>z83 (by decide) h
   rw [if_neg h3] at hdec
   refine zf (λ_ w'=>∃ (rs:List RecM) (z:Sl) (s1:Lf),z4i tm.1 n.1.toNat ⟨#[]⟩ n.2=some (rs,s1)/\Sat w' (slc T.a2 4 z (rs.flatMap z04)::pt a2 (.cells [.int .i64 ba.1,.int .i64 pi.1,.int .i64 ep.1,.int .i64 sq.1,.int .i64 k.1,.int .i64 tm.1,.slice z.a z.len z.cap].toArray T.a0)::rdS T.a54 p s1::pt a1 (.cells zeroC T.a0)::pt a0 (.cells zeroC T.a0)::l)) ?_ ?_
   rotate_left
   ·rintro _ w1 ⟨rs,z,s1,hrs,hs⟩
    rw [hrs] at hdec
    exact zj ⟨rs,z,s1,hdec,hs⟩
   refine z03 (λm v w=>∃ (i:Nat) (done:List RecM) (ahead:ByteArray) (z:Sl) (s1:Lf),v=(ahead,((i:Int),()))/\i<=n.1.toNat/\n.1.toNat-i=m/\done.length=i/\ahead.size<=2100 /\
    z4i tm.1 n.1.toNat ⟨#[]⟩ n.2=(z4i tm.1 (n.1.toNat-i) ahead s1).map (λq=>(done++q.1,q.2))/\Sat w (slc T.a2 4 z (done.flatMap z04)::pt a2 (.cells [.int .i64 ba.1,.int .i64 pi.1,.int .i64 ep.1,.int .i64 sq.1,.int .i64 k.1,.int .i64 tm.1,.slice z.a z.len z.cap].toArray T.a0)::rdS T.a54 p s1::pt a1 (.cells zeroC T.a0)::pt a0 (.cells zeroC T.a0)::l)) n.1.toNat
    ⟨0,[],⟨#[]⟩,⟨none,0,0⟩,n.2,rfl,by omega,rfl,rfl,(by show 0<=2100;omega),?_,(show Sat _ (slc T.a2 4 ⟨none,0,0⟩ (([]:List RecM).flatMap z04)::_) from hs.slc_nil).sub⟩ ?_
   ·cases z4i tm.1 n.1.toNat ⟨#[]⟩ n.2 <;> simp
   clear hs
   rintro m _ w ⟨i,done,ahead,z,s1,rfl,hi,hm,hdl,hah,hrec,hs⟩
   refine ze (λhc=>?_) λhc=>?_
   rotate_left
   ·refine zh (zj ⟨done,z,s1,?_,hs⟩)
    have hc:¬ ((i:Int)<n.1):=hc
    rw [hrec,show n.1.toNat-i=0 by omega]
    simp [z4i]
   have hc:(i:Int)<n.1:=hc
   refine za hs ?_
   refine z8 (z03x (p:=p) tm.1 ⟨htb.1,htm⟩ ahead (by omega) hs) λ_ w' hs=>?_
   obtain ⟨y,rfl,hy,hyk,hs⟩:=hs
   refine ⟨(y.key,y.value,y.gone,y.time,(z3c tm.1 ahead s1).1.isSome,()),rfl,trivial,z8w _ _ _ _ _ ?_⟩
   refine zq hs λa3 w' hs=>?_
   refine zr hs λw' hs=>?_
   refine wp_lt ?_
   have hsucc:n.1.toNat-i=(n.1.toNat-(i+1))+1:=by omega
   rw [hsucc] at hrec
   rw [zsp] at hrec
   refine ze (λh4=>?_) λh4=>?_
   ·have h4:(z3c tm.1 ahead s1).1=none:=by simpa using h4
    rw [h4] at hrec
    have hrec:z4i tm.1 n.1.toNat ⟨#[]⟩ n.2=none:=hrec
    rw [hrec] at hdec
    have hf:=hfail hs.sub hdec
    exact zwx hf (λ_ _ _ h=>h.1) λvs w h=>z83 (by decide) (z83 (by decide) (z83 (by decide) h))
   have h4:(z3c tm.1 ahead s1).1.isSome=true:=by
    cases hq:(z3c tm.1 ahead s1).1 with
    | none=>rw [hq] at h4;exact absurd (by simp) h4
    | some q=>rfl
   obtain ⟨y',hy'⟩:=Option.isSome_iff_exists.1 h4
   obtain rfl:=hy y' hy'
   rw [hy'] at hrec
   refine za hs ?_
   refine zk hs ?_
   refine z6m (xs:=done) (enc:=z04) (y:=y) hs (λz' w' hs=>?_) rfl (by omega)
   refine z07 hs λw' hs=>?_
   refine za hs ?_
   refine wp_lt ?_
   have e5:IntKind.wrap .i64 ((i:Int)+1)=((i+1:Nat):Int):=by rw [w64 (by omega) (by omega)];omega
   rw [e5]
   refine z11 (n.1.toNat-(i+1)) ?_
   refine ⟨i+1,done++[y],y.key,z',(z3c tm.1 ahead s1).2,rfl,by omega,rfl,by simp [hdl],hyk,?_,hs.sub⟩
   rw [hrec,Option.map_map]
   congr 1
   funext q
   simp
  rintro _ w1 ⟨rs,z,s1,hDD,hs⟩
  have hb:H.b rs=⟨ba.1,pi.1,ep.1,sq.1,k.1,tm.1,z7t,rs⟩:=by rw [<- hHH];rfl
  have hv0:z05 (H.b rs)=z05 ⟨ba.1,pi.1,ep.1,sq.1,k.1,tm.1,z,rs⟩:=by rw [hb];rfl
  refine zf (λq w'=>q=(DD.isNone,())/\Sat w' (slc T.a2 4 z (rs.flatMap z04)::pt a2 (.cells [.int .i64 ba.1,.int .i64 pi.1,.int .i64 ep.1,.int .i64 sq.1,.int .i64 k.1,.int .i64 tm.1,.slice z.a z.len z.cap].toArray T.a0)::pt a1 (.cells zeroC T.a0)::pt a0 (.cells zeroC T.a0)::l)) ?_ ?_
  ·refine z8 (zvb (p:=p) hs) λ_ w' hs=>?_
   obtain ⟨e,rfl,he,hs⟩:=hs
   refine zb ?_
   refine zk hs ?_
   refine ze (λh5=>?_) λh5=>?_
   ·refine zj ⟨?_,hs.sub⟩
    rw [hDD,if_neg λhh=>h5 (he.2 hh.1)]
    rfl
   ·have h5:s1=some []:=he.1 (Decidable.not_not.1 h5)
    refine z8 (z92 ⟨ba.1,pi.1,ep.1,sq.1,k.1,tm.1,z,rs⟩ hs) λ_ w' hs=>?_
    obtain ⟨rfl,hs⟩:=hs
    refine zb ?_
    refine zj ⟨?_,hs.sub⟩
    rw [hDD,<- hv0]
    by_cases h6:z05 (H.b rs)=0
    ·rw [if_pos ⟨h5,h6⟩,h6];rfl
    ·rw [if_neg λhh=>h6 hh.2]
     simpa using h6
  rintro _ w1 ⟨rfl,hs⟩
  refine ze (λh6=>?_) λh6=>?_
  ·exact hfail hs.sub (by simpa using h6)
  ·rw [hDD] at h6
   split at h6
   rotate_left
   ·exact absurd rfl h6
   rename_i h7
   rw [if_pos h7] at hDD
   refine zk hs ?_
   have hs:Sat w1 (slc T.a2 4 z (rs.flatMap z04)::pt a2 (.cells [.int .i64 ba.1,.int .i64 pi.1,.int .i64 ep.1,.int .i64 sq.1,.int .i64 k.1,.int .i64 tm.1,.slice z.a z.len z.cap].toArray T.a0)::pt a1 (.cells zeroC T.a0)::pt a0 (.cells [.int .i64 0,.int .i64 0,.int .i64 0,.int .i64 0,.int .i64 0,.int .i64 0,.slice none 0 0].toArray T.a0)::l):=hs
   refine zr hs λw' hs=>?_
   refine zk hs ?_
   refine ⟨rfl,.inl ⟨H.b rs,z,hDD,?_,?_⟩⟩
   ·rw [hb];rfl
   ·rw [hb];exact hs.sub
end
section
variable {w:World} {l r:List HP} {Q:Post} {S:World->Prop}
theorem z6j {P:Program} {t:TypeId} {sz:Nat} {α:Type} {enc:α->List Value} {n:Nat} {ps:Array (Nat × Value)} {el:TypeId} {bytes:Nat} {k:Sl->Prog} (hs:Sat w l) [ht:SlT P t el sz bytes] [hE:EncN enc sz] (xs:List α)
  (h:∀ x w',Sat w' (slc el sz x (xs.flatMap enc)::l)->S w'/\(k x).wp P S w' Q) (hc:z45 P t n ps=some (el,(xs.flatMap enc).toArray):=by kernel_rfl) (hn:xs.length=n:=by rfl) :
  (Prog.act (Instr.buildSlice t n ps) sL (u1 k)).wp P S w Q:=by
 have hp:=hs.push (o:=.cells (xs.flatMap enc).toArray el) (w':={ w with heap:=w.heap.push (.cells (xs.flatMap enc).toArray el) }) rfl
 have hsz:(xs.flatMap enc).toArray.size=n*sz:=by rw [List.size_toArray,z3t,hn]
 have h1:Sat { w with heap:=w.heap.push (.cells (xs.flatMap enc).toArray el) } (slc el sz ⟨some ⟨w.heap.size,0,none⟩,n,n⟩ (xs.flatMap enc)::l):=by
  have:=hp.slc_of (sz:=sz) hsz
  rwa [List.toList_toArray] at this
 have h2:=h ⟨some ⟨w.heap.size,0,none⟩,n,n⟩ _ h1
 exact ⟨(⟨some ⟨w.heap.size,0,none⟩,n,n⟩,()),_,zlk hc,h2.1,h2.2⟩
theorem z04e {P:Program} {α:Type} {enc:α->List Value} {xs ys:List α} {t tx ty el el':TypeId} {sz bytes sz' bytes':Nat} {x y:Sl} {k:Sl->Prog} (hs:Sat w l) [ht:SlT P t el sz bytes] [htx:SlT P tx el' sz' bytes'] [hf:FocS l x el sz (xs.flatMap enc) r] [hy:FocR l y sz (ys.flatMap enc)] [hE:EncN enc sz]
  (h:∀ z w',Sat w' (slc el sz z ((xs++ys).flatMap enc)::r)->S w'/\(k z).wp P S w' Q) (hb:(xs.length+ys.length)*bytes<=140737488355328/\xs.length+ys.length<=9223372036854775807:=by omega) :
  (Prog.act (app t tx ty (.slice x.a x.len x.cap) (.slice y.a y.len y.cap)) sL (u1 k)).wp P S w Q:=by
 have h1:x.len=xs.length:=(hs.focS x).rd.len hE.len hE.pos
 have h2:=hs.slen y (xs:=ys) (enc:=enc)
 refine zsw hs (hy.rd w hs) (λu hu=>?_) (by rw [h1,h2];exact hb.1) (by rw [h1,h2];exact hb.2) λz w' _ hs'=>h z w' ?_
 ·obtain ⟨a,-,hu⟩:=List.mem_flatMap.1 hu
  exact hE.one a u hu
 ·rw [List.flatMap_append];exact hs'
end
abbrev cB (b:BatM):Array Value:=#[.int .i64 b.base,.int .i64 b.pid,.int .i64 b.epoch,.int .i64 b.seq,.int .i64 b.kind,.int .i64 b.time,.slice b.x.a b.x.len b.x.cap]
abbrev cR (r:RecM):Array Value:=#[.string r.key,.string r.value,.bool r.gone,.int .i64 r.time]
theorem zga (time:Int):∀ (rs:List RecM) (ahead:ByteArray) (r:RecM),z2g time ahead (rs++[r])=z2g time ahead rs++z65 time (match rs.getLast? with|none=>ahead|some x=>x.key) r
 | [],ahead,r=>by simp [z2g]
 | a::rs,ahead,r=>by
  show z65 time ahead a++z2g time a.key (rs++[r])=z65 time ahead a++z2g time a.key rs++_
  rw [zga time rs a.key r,List.append_assoc]
  congr 3
  cases rs with
  | nil=>rfl
  | cons b bs=>rfl
theorem z03y {b:BatM} (hv:z05 b=0) (i:Nat):(z2g b.time ⟨#[]⟩ (b.rs.take i)).length<=133696:=by
 obtain ⟨h64,hrs⟩:=z2v hv
 have h1:=zcz (time:=b.time) (n:=2048) (rs:=b.rs.take i) (ahead:=⟨#[]⟩) λr hr=>by
  obtain ⟨h1,h2,-⟩:=z54 (hrs r (List.mem_of_mem_take hr))
  omega
 have h2:(b.rs.take i).length<=64:=by rw [List.length_take];omega
 have:(b.rs.take i).length*(41+2048)<=64*(41+2048):=Nat.mul_le_mul_right _ h2
 omega
def hdL (b:BatM):List UInt8:=1::UInt8.ofNat b.kind.toNat::(uI b.base++uI b.pid)
def z7q (b:BatM):List UInt8:=if b.pid>0 then uI b.epoch++(if z0i b then [] else uI b.seq) else []
theorem zpq (b:BatM):z2j b=(hdL b++z7q b++uI b.time)++if z0i b then [] else uI b.rs.length++z2g b.time ⟨#[]⟩ b.rs:=by
 unfold z2j hdL z7q
 simp only [List.cons_append,List.append_assoc]
section
variable {w:World} {l r:List HP}
set_option maxHeartbeats 1000000 in
theorem zxj (b:BatM) [hb:FocR l b.x 4 (b.rs.flatMap z04)] (hs:Sat w l) :
  Ret P F.a119 #[.agg (zv b).toArray] w λvs w'=>(z05 b≠0/\vs=[.slice none 0 0,.int .i64 (z05 b)]/\Sat w' l)\/(z05 b=0/\∃ z:Sl,vs=[z.v,.int .i64 0]/\Sat w' (slc T.a52 1 z ((z2j b).flatMap zi)::l)) :=
 znb b.base b.pid b.epoch b.seq b.kind b.time b.x <| by
  delta z00o AC AD AE AF AG AH AI AO AP AZ Ab Ac Af Ai Aj Ak Al Am An Ao Aq Ar Av Bn Br By
  have hlx:=hs.slen b.x (xs:=b.rs) (enc:=z04)
  refine zn hs λa0 w' hs=>?_
  refine zk hs ?_
  refine z8 (z92 b hs) λ_ w' hs=>?_
  obtain ⟨rfl,hs⟩:=hs
  refine zb ?_
  refine wp_lt ?_
  refine ze (λh=>?_) λh=>?_
  ·refine wp_lt ?_
   exact ⟨rfl,.inl ⟨h,rfl,hs.tail⟩⟩
  have hv:z05 b=0:=Decidable.not_not.1 h
  obtain ⟨-,-,⟨hk,hba,hpi,hep,hsq,htm⟩,hfit,-⟩:=z16 b hv
  obtain ⟨h64,hrs⟩:=z2v hv
  refine zf (λq w'=>∃ z:Sl,q=(z,())/\Sat w' (slc T.a52 1 z ((hdL b).flatMap zi)::pt a0 (.cells (cB b) T.a0)::l)) ?_ ?_
  ·have ek:IntKind.wrap .u8 b.kind=(((UInt8.ofNat b.kind.toNat).toNat:Nat):Int):=by
    rw [wu8 (by omega) (by omega),UInt8.toNat_ofNat'];omega
   have hul1:=z1u b.base
   have hul2:=z1u b.pid
   refine zx hs λw' hs=>?_
   refine z18 hs ?_
   refine z18 hs ?_
   refine z18 hs ?_
   have fin:∀ {w':World} {z1 z2 z3:Sl},Sat w' (slc T.a52 1 z1 (([1,UInt8.ofNat b.kind.toNat]:List UInt8).flatMap zi)::slc T.a52 1 z2 ((uI b.base).flatMap zi)::slc T.a52 1 z3 ((uI b.pid).flatMap zi)::pt a0 (.cells (cB b) T.a0)::l) ->
     (Prog.act (Instr.buildSlice T.a44 3 #[(0,z1.v),(1,z2.v),(2,z3.v)]) sL (u1 λl17=>.call F.a221 [l17.v] sL (u1 λl18=>.untick <| .done 1 [l18.v]))).wp P (λ_=>True) w' (Post.catch (λe vs w'=>e=0/\((z05 b≠0/\vs=[.slice none 0 0,.int .i64 (z05 b)]/\Sat w' l)\/(z05 b=0/\∃ z:Sl,vs=[z.v,.int .i64 0]/\Sat w' (slc T.a52 1 z ((z2j b).flatMap zi)::l)))) 1 λvs w'=>∃ x,vs=z17 [.one .slc] x/\∃ z:Sl,x=(z,())/\Sat w' (slc T.a52 1 z ((hdL b).flatMap zi)::pt a0 (.cells (cB b) T.a0)::l)):=by
    intro w' z1 z2 z3 hs
    refine zay hs (enc:=z0e) [z1,z2,z3] λz4 w' hs=>?_
    refine z8 (zzb z4 z1 z2 z3 [1,UInt8.ofNat b.kind.toNat] (uI b.base) (uI b.pid) (by simp only [List.length_cons,List.length_nil];omega) hs) λ_ w' hs=>?_
    obtain ⟨z5,rfl,hs⟩:=hs
    refine zb ?_
    refine zd ?_
    refine zj ⟨z5,rfl,?_⟩
    have e:[1,UInt8.ofNat b.kind.toNat]++(uI b.base++uI b.pid)=hdL b:=by unfold hdL;simp
    rw [e] at hs
    exact hs.sub
   rw [ek]
   refine zho ?_ ?_
   ·refine z6j hs (enc:=zi) [1,UInt8.ofNat b.kind.toNat] λz1 w' hs=>⟨(by first|trivial|(repeat (first|exact trivial|exact λ_=>z09 hs|exact λ_=>z0m hs|refine And.intro ?_ ?_))),?_⟩
    refine z8 (z4z b.base (by omega) hs) λ_ w' hs=>?_
    obtain ⟨z2,rfl,hs⟩:=hs
    refine zb ?_ (by first|trivial|(repeat (first|exact trivial|exact λ_=>z09 hs|exact λ_=>z0m hs|refine And.intro ?_ ?_)))
    refine z8 (z4z b.pid (by omega) hs) λ_ w' hs=>?_
    obtain ⟨z3,rfl,hs⟩:=hs
    refine zb ?_ (by first|trivial|(repeat (first|exact trivial|exact λ_=>z09 hs|exact λ_=>z0m hs|refine And.intro ?_ ?_)))
    refine zd ?_
    exact fin hs.sub
   ·refine z8 (z4z b.base (by omega) hs) λ_ w' hs=>?_
    obtain ⟨z2,rfl,hs⟩:=hs
    refine zb ?_ (by first|trivial|(repeat (first|exact trivial|exact λ_=>z09 hs|exact λ_=>z0m hs|refine And.intro ?_ ?_)))
    refine zho ?_ ?_
    ·refine z6j hs (enc:=zi) [1,UInt8.ofNat b.kind.toNat] λz1 w' hs=>⟨(by first|trivial|(repeat (first|exact trivial|exact λ_=>z09 hs|exact λ_=>z0m hs|refine And.intro ?_ ?_))),?_⟩
     refine z8 (z4z b.pid (by omega) hs) λ_ w' hs=>?_
     obtain ⟨z3,rfl,hs⟩:=hs
     refine zb ?_ (by first|trivial|(repeat (first|exact trivial|exact λ_=>z09 hs|exact λ_=>z0m hs|refine And.intro ?_ ?_)))
     refine zd ?_
     exact fin hs.sub
    ·refine z8 (z4z b.pid (by omega) hs) λ_ w' hs=>?_
     obtain ⟨z3,rfl,hs⟩:=hs
     refine zb ?_ (by first|trivial|(repeat (first|exact trivial|exact λ_=>z09 hs|exact λ_=>z0m hs|refine And.intro ?_ ?_)))
     refine z6j hs (enc:=zi) [1,UInt8.ofNat b.kind.toNat] λz1 w' hs=>⟨(by first|trivial|(repeat (first|exact trivial|exact λ_=>z09 hs|exact λ_=>z0m hs|refine And.intro ?_ ?_))),?_⟩
     refine zd ?_
     exact fin hs.sub
  rintro _ w1 ⟨z,rfl,hs⟩
  have hdl:(hdL b).length<=22:=by
   have hul1:=z1u b.base
   have hul2:=z1u b.pid
   unfold hdL
   simp only [List.length_cons,List.length_append]
   omega
  refine za hs ?_
  refine zf (λq w'=>∃ z:Sl,q=(z,())/\Sat w' (slc T.a52 1 z ((hdL b++z7q b).flatMap zi)::pt a0 (.cells (cB b) T.a0)::l)) ?_ ?_
  ·refine ze (λh2=>?_) λh2=>?_
   rotate_left
   ·refine zj ⟨z,rfl,?_⟩
    have e:z7q b=[]:=by unfold z7q;rw [if_neg h2]
    rw [e,List.append_nil]
    exact hs
   have hul:=z1u b.epoch
   refine za hs ?_
   refine z8 (z4z b.epoch (by omega) hs) λ_ w' hs=>?_
   obtain ⟨z2,rfl,hs⟩:=hs
   refine zb ?_
   refine wp_app' (xs:=hdL b) (ys:=uI b.epoch) (enc:=zi) hs λz3 w' hs=>?_
   refine zk hs ?_
   refine z8 (z6h b hs) λ_ w' hs=>?_
   obtain ⟨rfl,hs⟩:=hs
   refine zb ?_
   refine z50 ?_
   refine ze (λh3=>?_) λh3=>?_
   ·have h3:z0i b=false:=by simpa using h3
    have hul2:=z1u b.seq
    refine za hs ?_
    refine z8 (z4z b.seq (by omega) hs) λ_ w' hs=>?_
    obtain ⟨z4,rfl,hs⟩:=hs
    refine zb ?_
    refine wp_app' (xs:=hdL b++uI b.epoch) (ys:=uI b.seq) (enc:=zi) hs (λz5 w' hs=>?_) (by rw [List.length_append];omega)
    refine z4s ?_
    refine zj ⟨z5,rfl,?_⟩
    have e:z7q b=uI b.epoch++uI b.seq:=by unfold z7q;rw [if_pos h2,h3];rfl
    rw [e,<- List.append_assoc]
    exact hs.sub
   ·have h3:z0i b=true:=by simpa using h3
    refine z4s ?_
    refine zj ⟨z3,rfl,?_⟩
    have e:z7q b=uI b.epoch:=by unfold z7q;rw [if_pos h2,h3,if_pos rfl,List.append_nil]
    rw [e]
    exact hs.sub
  rintro _ w2 ⟨z2,rfl,hs⟩
  have hml:(z7q b).length<=20:=by
   have hul1:=z1u b.epoch
   have hul2:=z1u b.seq
   unfold z7q
   split
   ·split
    ·simp only [List.length_append,List.length_nil];omega
    ·simp only [List.length_append];omega
   ·simp
  have htl:=z1u b.time
  refine za hs ?_
  refine z8 (z4z b.time (by omega) hs) λ_ w' hs=>?_
  obtain ⟨z3,rfl,hs⟩:=hs
  refine zb ?_
  refine wp_app' (xs:=hdL b++z7q b) (ys:=uI b.time) (enc:=zi) hs (λz4 w' hs=>?_) (by rw [List.length_append];omega)
  refine zk hs ?_
  refine z8 (z6h b hs) λ_ w' hs=>?_
  obtain ⟨rfl,hs⟩:=hs
  refine zb ?_
  refine ze (λh3=>?_) λh3=>?_
  ·refine ⟨rfl,.inr ⟨hv,z4,rfl,?_⟩⟩
   rw [zpq,h3,if_pos rfl,List.append_nil]
   exact hs.sub
  have h3:z0i b=false:=by simpa using h3
  have hcl:=z1u ((b.rs.length:Nat):Int)
  refine za hs ?_
  rw [hlx]
  refine z8 (z4z ((b.rs.length:Nat):Int) (by omega) hs) λ_ w' hs=>?_
  obtain ⟨z5,rfl,hs⟩:=hs
  refine zb ?_
  generalize hX:hdL b++z7q b++uI b.time=X at hs
  have hXl:X.length<=60:=by rw [<- hX];simp only [List.length_append];omega
  refine wp_app' (xs:=X) (ys:=uI (b.rs.length:Nat)) (enc:=zi) hs (λz6 w' hs=>?_) (by omega)
  refine za hs ?_
  generalize hY:X++uI ((b.rs.length:Nat):Int)=Y at hs
  have hYl:Y.length<=80:=by rw [<- hY];simp only [List.length_append];omega
  have hfin:z2j b=Y++z2g b.time ⟨#[]⟩ b.rs:=by
   rw [zpq,hX,h3,if_neg (by simp),<- hY,List.append_assoc]
  refine zf (λq w'=>∃ z:Sl,q=(z,())/\Sat w' (slc T.a52 1 z ((z2j b).flatMap zi)::l)) ?_ ?_
  rotate_left
  ·rintro _ w' ⟨z,rfl,hs⟩
   exact ⟨rfl,.inr ⟨hv,z,rfl,hs⟩⟩
  have hrec:=z03y hv
  refine z03 (λm v w=>∃ (i:Nat) (z:Sl),v=(z,((match (b.rs.take i).getLast? with|none=>(⟨#[]⟩:ByteArray)|some x=>x.key),((i:Int),())))/\i<=b.rs.length/\b.rs.length-i=m/\Sat w (slc T.a52 1 z ((Y++z2g b.time ⟨#[]⟩ (b.rs.take i)).flatMap zi)::pt a0 (.cells (cB b) T.a0)::l)) b.rs.length ⟨0,z6,rfl,by omega,rfl,by
   rw [List.take_zero]
   show Sat _ (slc T.a52 1 z6 ((Y++[]).flatMap zi)::_)
   rw [List.append_nil]
   exact hs.sub⟩ ?_
  clear hs
  rintro m _ w ⟨i,z,rfl,hi,hm,hs⟩
  refine ze (λhc=>?_) λhc=>?_
  rotate_left
  ·refine zh (zj ⟨z,rfl,?_⟩)
   have hc:¬ ((i:Int)<((b.x.len:Nat):Int)):=hc
   have hi2:i=b.rs.length:=by omega
   rw [hi2,List.take_length,<- hfin] at hs
   exact hs.sub
  have hc:((i:Int)<((b.x.len:Nat):Int)):=hc
  have hil:i<b.rs.length:=by omega
  refine z4l hs (xs:=b.rs) (enc:=z04) i hil ?_
  refine zq hs λa1 w' hs=>?_
  refine zr hs λw' hs=>?_
  refine za hs ?_
  obtain ⟨hr1,hr2,hr3,hr4⟩:=z54 (hrs b.rs[i] (List.getElem_mem hil))
  have hah:∀ x,(match (b.rs.take i).getLast? with|none=>(⟨#[]⟩:ByteArray)|some x=>x.key)=x->x.size<=1024:=by
   intro x hx
   cases hq:(b.rs.take i).getLast? with
   | none=>rw [hq] at hx;subst hx;show 0<=1024;omega
   | some y =>
    rw [hq] at hx
    subst hx
    exact (z54 (hrs y (List.mem_of_mem_take (List.mem_of_getLast? hq)))).1
  have hsn:=zga b.time (b.rs.take i) ⟨#[]⟩ b.rs[i]
  rw [<- List.take_succ_eq_append_getElem hil] at hsn
  have hln:=hrec (i+1)
  rw [hsn,List.length_append] at hln
  have hlast:(match (b.rs.take (i+1)).getLast? with|none=>(⟨#[]⟩:ByteArray)|some x=>x.key)=b.rs[i].key:=by
   rw [List.take_succ_eq_append_getElem hil,z1t]
  generalize (match (b.rs.take i).getLast? with|none=>(⟨#[]⟩:ByteArray)|some x=>x.key)=ahead at *
  have hah:=hah ahead rfl
  refine z8 (zpn ahead b.rs[i].key (by omega) hs) λ_ w' hs=>?_
  obtain ⟨rfl,hs⟩:=hs
  refine zb ?_
  refine wp_lt ?_
  have hal:=z9r (bl ahead) (bl b.rs[i].key)
  rw [z1g,z1g] at hal
  have hrl:z65 b.time ahead b.rs[i]=(z5g (b.rs[i].time-b.time)++([z85 b.rs[i].gone]++(uI (z0n (bl ahead) (bl b.rs[i].key):Nat)++z6t ahead b.rs[i].key)))++if b.rs[i].gone then [] else uI b.rs[i].value.size++bl b.rs[i].value:=by
   unfold z65
   simp only [List.append_assoc,List.cons_append,List.nil_append,List.singleton_append]
  generalize hZ:Y++z2g b.time ⟨#[]⟩ (b.rs.take i)=Z at *
  have hZl:Z.length<=200000:=by rw [<- hZ,List.length_append];omega
  have htl1:=zj5 (b.rs[i].time-b.time)
  have htl2:=z1u ((z0n (bl ahead) (bl b.rs[i].key):Nat):Int)
  have htl3:(z6t ahead b.rs[i].key).length<=1034:=by
   unfold z6t
   have:=z1u (((b.rs[i].key.size-z0n (bl ahead) (bl b.rs[i].key):Nat)):Int)
   rw [List.length_append,List.length_drop,z1g]
   omega
  refine zf (λq w'=>∃ z:Sl,q=(z,())/\Sat w' (slc T.a52 1 z ((Z++(z5g (b.rs[i].time-b.time)++([z85 b.rs[i].gone]++(uI (z0n (bl ahead) (bl b.rs[i].key):Nat)++z6t ahead b.rs[i].key)))).flatMap zi)::pt a1 (.cells (cR b.rs[i]) T.a2)::pt a0 (.cells (cB b) T.a0)::l)) ?_ ?_
  ·refine zx hs λw' hs=>?_
   refine za hs ?_
   refine za hs ?_
   refine z18 hs ?_
   refine z18 hs ?_
   refine wp_must (by omega) ?_
   rw [w64 (by omega) (by omega)]
   refine z8 (z04i (b.rs[i].time-b.time) (by omega) hs) λ_ w' hs=>?_
   obtain ⟨u1_,rfl,hs⟩:=hs
   refine zb ?_ (by first|trivial|(repeat (first|exact trivial|exact λ_=>z09 hs|exact λ_=>z0m hs|refine And.intro ?_ ?_)))
   refine z8 (z04d b.rs[i].gone hs) λ_ w' hs=>?_
   obtain ⟨u2_,rfl,hs⟩:=hs
   refine zb ?_ (by first|trivial|(repeat (first|exact trivial|exact λ_=>z09 hs|exact λ_=>z0m hs|refine And.intro ?_ ?_)))
   refine z8 (z4z ((z0n (bl ahead) (bl b.rs[i].key):Nat):Int) (by omega) hs) λ_ w' hs=>?_
   obtain ⟨u3_,rfl,hs⟩:=hs
   refine zb ?_ (by first|trivial|(repeat (first|exact trivial|exact λ_=>z09 hs|exact λ_=>z0m hs|refine And.intro ?_ ?_)))
   refine zd ?_
   have ext:(ByteArray.extract b.rs[i].key (z0n (bl ahead) (bl b.rs[i].key)) b.rs[i].key.size).size=b.rs[i].key.size-z0n (bl ahead) (bl b.rs[i].key):=by rw [ByteArray.size_extract];omega
   have exb:bl (ByteArray.extract b.rs[i].key (z0n (bl ahead) (bl b.rs[i].key)) b.rs[i].key.size)=(bl b.rs[i].key).drop (z0n (bl ahead) (bl b.rs[i].key)):=by
    unfold bl
    rw [ByteArray.data_extract,Array.toList_extract,List.extract_eq_take_drop]
    exact List.take_of_length_le (by rw [List.length_drop];exact Nat.le_refl _)
   rw [Int.toNat_natCast]
   refine z8 (zrd (ByteArray.extract b.rs[i].key (z0n (bl ahead) (bl b.rs[i].key)) b.rs[i].key.size) (by omega) hs) λ_ w' hs=>?_
   obtain ⟨u4_,rfl,hs⟩:=hs
   refine zb ?_
   rw [ext,exb] at hs
   have hs:Sat _ (slc T.a52 1 u4_ ((z6t ahead b.rs[i].key).flatMap zi)::_):=hs
   refine zay hs (enc:=z0e) [u1_,u2_,u3_,u4_] λu5_ w' hs=>?_
   refine z8 (zzc u5_ u1_ u2_ u3_ u4_ (z5g (b.rs[i].time-b.time)) [z85 b.rs[i].gone] (uI (z0n (bl ahead) (bl b.rs[i].key):Nat)) (z6t ahead b.rs[i].key) (by simp only [List.length_cons,List.length_nil];omega) hs) λ_ w' hs=>?_
   obtain ⟨u6_,rfl,hs⟩:=hs
   refine zb ?_
   refine wp_app' (xs:=Z) (ys:=z5g (b.rs[i].time-b.time)++([z85 b.rs[i].gone]++(uI (z0n (bl ahead) (bl b.rs[i].key):Nat)++z6t ahead b.rs[i].key))) (enc:=zi) hs (λz5 w' hs=>?_) (by simp only [List.length_append,List.length_cons,List.length_nil];omega)
   refine zd ?_
   refine zj ⟨z5,rfl,?_⟩
   exact hs.sub
  rintro _ w3 ⟨z5,rfl,hs⟩
  refine za hs ?_
  refine zf (λq w'=>∃ z:Sl,q=(z,())/\Sat w' (slc T.a52 1 z ((Z++z65 b.time ahead b.rs[i]).flatMap zi)::pt a1 (.cells (cR b.rs[i]) T.a2)::pt a0 (.cells (cB b) T.a0)::l)) ?_ ?_
  ·refine ze (λh5=>?_) λh5=>?_
   ·have h5:b.rs[i].gone=false:=by simpa using h5
    refine za hs ?_
    refine z8 (zrd b.rs[i].value (by omega) hs) λ_ w' hs=>?_
    obtain ⟨u,rfl,hs⟩:=hs
    refine zb ?_
    have hvl:=z1u ((b.rs[i].value.size:Nat):Int)
    have hvs:=z1g b.rs[i].value
    refine wp_app' (xs:=Z++(z5g (b.rs[i].time-b.time)++([z85 b.rs[i].gone]++(uI (z0n (bl ahead) (bl b.rs[i].key):Nat)++z6t ahead b.rs[i].key)))) (ys:=uI (b.rs[i].value.size:Nat)++bl b.rs[i].value) (enc:=zi) hs (λz7 w' hs=>?_) (by simp only [List.length_append,List.length_cons,List.length_nil];omega)
    refine zj ⟨z7,rfl,?_⟩
    rw [hrl,if_neg (by rw [h5];simp),<- List.append_assoc]
    exact hs.sub
   ·have h5:b.rs[i].gone=true:=by simpa using h5
    refine zj ⟨z5,rfl,?_⟩
    rw [hrl,if_pos h5,List.append_nil]
    exact hs.sub
  rintro _ w4 ⟨z7,rfl,hs⟩
  refine za hs ?_
  refine wp_lt ?_
  have e5:IntKind.wrap .i64 ((i:Int)+1)=((i+1:Nat):Int):=by rw [w64 (by omega) (by omega)];omega
  rw [e5]
  refine z11 (b.rs.length-(i+1)) ?_
  refine ⟨i+1,z7,by rw [hlast],by omega,rfl,?_⟩
  rw [hsn,<- List.append_assoc,hZ]
  exact hs.sub
end
def zjm (b:BatM) (k:Nat):BatM:=⟨b.base+k,b.pid,b.epoch,if b.pid>0 then b.seq+k else b.seq,b.kind,b.time,b.x,b.rs.drop k⟩
def z0q (off:Int) (b:BatM):Option BatM:=if z05 b≠0\/off>=z1r b then none else if z0i b=true\/off<=b.base then some b else some (zjm b (off-b.base).toNat)
def rsP (b:BatM):HP:=slc T.a2 4 b.x (b.rs.flatMap z04)
def z1j (bs:List BatM):HP:=HP.all (bs.map rsP)
section
variable {w:World} {l r:List HP}
theorem zqt (b:BatM) [hb:FocR l b.x 4 (b.rs.flatMap z04)] (hlen:b.rs.length<=1000000) (hs:Sat w l):Ret P F.a117 #[.agg (zv b).toArray] w λvs w'=>∃ z:Sl,vs=[.agg (zv (b.at z)).toArray]/\Sat w' (slc T.a2 4 z (b.rs.flatMap z04)::l) :=
 zn9 b.base b.pid b.epoch b.seq b.kind b.time b.x <| by
  delta z00m AE AF AH AJ AO An Ao Ar Av
  refine zn hs λa0 w' hs=>?_
  refine zq hs λa1 w' hs=>?_
  refine za hs ?_
  have hs:Sat w' (slc T.a2 4 ⟨none,0,0⟩ (([]:List RecM).flatMap z04)::_):=hs.slc_nil
  refine wp_app' (x:=⟨none,0,0⟩) (xs:=([]:List RecM)) (ys:=b.rs) (enc:=z04) hs (λz w' hs=>?_) (by simp only [List.length_nil];omega)
  rw [List.nil_append] at hs
  refine z07 hs λw' hs=>?_
  refine zk hs ?_
  refine zr hs λw' hs=>?_
  refine zk hs ?_
  refine ⟨rfl,z,rfl,?_⟩
  exact hs.sub
theorem z03z (b:BatM) (k:Nat) (hk:k<=b.rs.length) (hcap:b.x.len<=b.x.cap) (hv:z05 b=0) [hb:FocR l b.x 4 (b.rs.flatMap z04)] (hs:Sat w l):Ret P F.a129 #[.agg (zv b).toArray,.int .i64 (k:Int),.int .i64 (b.x.len:Nat)] w λvs w'=>∃ z:Sl,vs=[.agg (zv ((zjm b k).at z)).toArray]/\Sat w' (slc T.a2 4 z ((b.rs.drop k).flatMap z04)::l) :=
 znl b.base b.pid b.epoch b.seq b.kind b.time b.x _ _ <| by
  delta z00y AE AF AH AJ AK AO AP Ac Ai An Ao Aq Ar Av
  have hl:=hs.slen b.x (xs:=b.rs) (enc:=z04)
  obtain ⟨h64,-⟩:=z2v hv
  obtain ⟨-,-,⟨-,hba,hpi,-,hsq,-⟩,-,-⟩:=z16 b hv
  refine zn hs λa0 w' hs=>?_
  refine zq hs λa1 w' hs=>?_
  refine zk hs ?_
  refine zq hs λa9 w' hs=>?_
  refine zr hs λw' hs=>?_
  refine za hs ?_
  refine wp_must (by omega) ?_
  rw [Int.toNat_natCast,Int.toNat_natCast]
  have hf:FocR (pt a9 (.cells #[.int .i64 b.base,.int .i64 b.pid,.int .i64 b.epoch,.int .i64 b.seq,.int .i64 b.kind,.int .i64 b.time,.slice b.x.a b.x.len b.x.cap] T.a0)::pt a1 (.cells #[.int .i64 0,.int .i64 0,.int .i64 0,.int .i64 0,.int .i64 0,.int .i64 0,.slice none 0 0] T.a0)::pt a0 (.cells #[.int .i64 b.base,.int .i64 b.pid,.int .i64 b.epoch,.int .i64 b.seq,.int .i64 b.kind,.int .i64 b.time,.slice b.x.a b.x.len b.x.cap] T.a0)::l) ⟨z14 b.x.a 4 k b.x.cap,b.x.len-k,b.x.cap-k⟩ 4 ((b.rs.drop k).flatMap z04):=FocR.post hcap
  have hs:Sat w' (slc T.a2 4 ⟨none,0,0⟩ (([]:List RecM).flatMap z04)::_):=hs.slc_nil
  refine wp_app' (x:=⟨none,0,0⟩) (y:=⟨z14 b.x.a 4 k b.x.cap,b.x.len-k,b.x.cap-k⟩) (xs:=([]:List RecM)) (ys:=b.rs.drop k) (enc:=z04) hs (λz w' hs=>?_) (by simp only [List.length_nil,List.length_drop];omega)
  rw [List.nil_append] at hs
  refine z07 hs λw' hs=>?_
  refine za hs ?_
  rw [w64 (by omega) (by omega)]
  refine z07 hs λw' hs=>?_
  refine za hs ?_
  refine zf (λ_ w'=>Sat w' (pt a9 (.cells [.int .i64 (b.base+k),.int .i64 b.pid,.int .i64 b.epoch,.int .i64 (if b.pid>0 then b.seq+k else b.seq),.int .i64 b.kind,.int .i64 b.time,.slice z.a z.len z.cap].toArray T.a0)::slc T.a2 4 z ((b.rs.drop k).flatMap z04)::pt a1 (.cells #[.int .i64 0,.int .i64 0,.int .i64 0,.int .i64 0,.int .i64 0,.int .i64 0,.slice none 0 0] T.a0)::l)) ?_ ?_
  ·refine ze (λh=>?_) λh=>?_
   ·refine za hs ?_
    rw [w64 (by omega) (by omega)]
    refine z07 hs λw' hs=>?_
    refine zj ?_
    rw [if_pos h]
    exact hs.sub
   ·refine zj ?_
    rw [if_neg h]
    exact hs.sub
  clear hs
  rintro _ w2 hs
  refine zk hs ?_
  refine zr hs λw' hs=>?_
  refine zk hs ?_
  refine ⟨rfl,z,rfl,?_⟩
  exact hs.sub
theorem z032 (b:BatM) (off:Int) (ho : -9223372036854775808<=off/\off<9223372036854775808) (hcap:b.x.len<=b.x.cap) [hb:FocR l b.x 4 (b.rs.flatMap z04)] (hs:Sat w l):Ret P F.a121 #[.agg (zv b).toArray,.int .i64 off] w λvs w' =>
  (z0q off b=none/\vs=[.agg (zv zt4).toArray,.bool false]/\Sat w' l)\/(∃ (c:BatM) (z:Sl),z0q off b=some c/\vs=[.agg (zv (c.at z)).toArray,.bool true]/\Sat w' (slc T.a2 4 z (c.rs.flatMap z04)::l)) :=
 znd b.base b.pid b.epoch b.seq b.kind b.time b.x off <| by
  delta z00q AF AH AO AP AQ AY Ac Ag Ah Ai Aj Al Am An Ao Aq Ar Av Ba Bv
  have hl:=hs.slen b.x (xs:=b.rs) (enc:=z04)
  refine zn hs λa0 w' hs=>?_
  refine zq hs λa1 w' hs=>?_
  refine zf (λq w'=>q=(decide (z05 b≠0\/off>=z1r b),())/\Sat w' (pt a1 (.cells #[.int .i64 0,.int .i64 0,.int .i64 0,.int .i64 0,.int .i64 0,.int .i64 0,.slice none 0 0] T.a0)::pt a0 (.cells (cB b) T.a0)::l)) ?_ ?_
  ·refine zk hs ?_
   refine z8 (z92 b hs) λ_ w' hs=>?_
   obtain ⟨rfl,hs⟩:=hs
   refine zb ?_
   refine zk hs ?_
   refine ze (λh=>?_) λh=>?_
   ·exact zj ⟨by rw [decide_eq_true (.inl h)],hs⟩
   ·refine z8 (z90 b hs) λ_ w' hs=>?_
    obtain ⟨rfl,hs⟩:=hs
    refine zb ?_
    refine wp_lt ?_
    refine zj ⟨?_,hs⟩
    rw [decide_eq_decide.2 (show (z05 b≠0\/off>=z1r b)↔off>=z1r b from ⟨λhh=>hh.resolve_left h,.inr⟩)]
  rintro _ w2 ⟨rfl,hs⟩
  refine ze (λh=>?_) λh=>?_
  ·have h:z05 b≠0\/off>=z1r b:=by simpa using h
   refine zr hs λw' hs=>?_
   refine zk hs ?_
   refine ⟨rfl,.inl ⟨by unfold z0q;rw [if_pos h],rfl,hs.tail.tail⟩⟩
  have h:¬ (z05 b≠0\/off>=z1r b):=by simpa using h
  have hv:z05 b=0:=Decidable.byContradiction λhh=>h (.inl hh)
  have hno:off<z1r b:=by
   apply Decidable.byContradiction;intro hh;exact h (.inr (by omega))
  have hnx:z1r b=b.base+zo b:=by unfold z1r;rw [if_neg (by rw [hv];simp)]
  obtain ⟨h64,-⟩:=z2v hv
  obtain ⟨-,-,⟨-,hba,-⟩,-,-⟩:=z16 b hv
  refine zk hs ?_
  refine z8 (z6h b hs) λ_ w' hs=>?_
  obtain ⟨rfl,hs⟩:=hs
  refine zb ?_
  refine za hs ?_
  refine wp_lt ?_
  refine ze (λh2=>?_) λh2=>?_
  ·refine zk hs ?_
   refine z8 (zqt b (by omega) hs) λ_ w' hs=>?_
   obtain ⟨z,rfl,hs⟩:=hs
   refine ⟨(b.base,b.pid,b.epoch,b.seq,b.kind,b.time,z,()),rfl,trivial,zt1 _ _ _ _ _ _ _ ?_⟩
   refine zr hs λw' hs=>?_
   refine zk hs ?_
   refine ⟨rfl,.inr ⟨b,z,by unfold z0q;rw [if_neg h,if_pos h2],rfl,hs.sub⟩⟩
  ·have hm:z0i b=false:=by
    cases hm:z0i b with
    | false=>rfl
    | true=>exact absurd (.inl hm) h2
   have hob:¬ off<=b.base:=λhh=>h2 (.inr hh)
   have hsp:zo b=b.rs.length:=by unfold zo;rw [hm];simp
   refine zk hs ?_
   refine za hs ?_
   refine za hs ?_
   rw [w64 (by omega) (by omega)]
   have eo:off-b.base=(((off-b.base).toNat:Nat):Int):=by omega
   rw [eo]
   refine z8 (z03z b (off-b.base).toNat (by omega) hcap hv hs) λ_ w' hs=>?_
   obtain ⟨z,rfl,hs⟩:=hs
   refine ⟨(b.base+(off-b.base).toNat,b.pid,b.epoch,(if b.pid>0 then b.seq+(off-b.base).toNat else b.seq),b.kind,b.time,z,()),rfl,trivial,zt1 _ _ _ _ _ _ _ ?_⟩
   refine zr hs λw' hs=>?_
   refine zk hs ?_
   refine ⟨rfl,.inr ⟨zjm b (off-b.base).toNat,z,by unfold z0q;rw [if_neg h,if_neg h2],rfl,(show Sat w' (slc T.a2 4 z ((b.rs.drop (off-b.base).toNat).flatMap z04)::l) from hs.sub)⟩⟩
end
theorem zuw {a b:ByteArray} (h:a.data.toList=b.data.toList):a=b:=by
 cases a;cases b;exact congrArg ByteArray.mk (Array.ext' h)
theorem zab:∀ x:List UInt8,Op.bytesLess x x=false
 | []=>rfl
 | a::x=>by rw [Op.bytesLess,zab x];simp
theorem zg2:∀ {x y z:List UInt8},Op.bytesLess x y=true->Op.bytesLess y z=true->Op.bytesLess x z=true
 | [],_,[],_,h=>by cases ‹List UInt8› <;> simp [Op.bytesLess] at h
 | [],_,_::_,_,_=>rfl
 | _::_,[],_,h,_=>by simp [Op.bytesLess] at h
 | _::_,_::_,[],_,h=>by simp [Op.bytesLess] at h
 | a::x,b::y,c::z,h1,h2=>by
  simp only [Op.bytesLess,Bool.or_eq_true,decide_eq_true_eq,Bool.and_eq_true,beq_iff_eq] at h1 h2 ⊢
  rcases h1 with h1|⟨rfl,h1⟩
  ·rcases h2 with h2|⟨rfl,h2⟩
   ·exact .inl (UInt8.lt_trans h1 h2)
   ·exact .inl h1
  ·rcases h2 with h2|⟨rfl,h2⟩
   ·exact .inl h2
   ·exact .inr ⟨rfl,zg2 h1 h2⟩
theorem zg1:∀ (x y:List UInt8),Op.bytesLess x y=true\/x=y\/Op.bytesLess y x=true
 | [],[]=>.inr (.inl rfl)
 | [],_::_=>.inl rfl
 | _::_,[]=>.inr (.inr rfl)
 | a::x,b::y=>by
  simp only [Op.bytesLess,Bool.or_eq_true,decide_eq_true_eq,Bool.and_eq_true,beq_iff_eq,List.cons.injEq]
  rcases Nat.lt_trichotomy a.toNat b.toNat with h|h|h
  ·exact .inl (.inl (UInt8.lt_iff_toNat_lt.2 h))
  ·have:=UInt8.toNat_inj.1 h
   subst this
   rcases zg1 x y with h|rfl|h
   ·exact .inl (.inr ⟨rfl,h⟩)
   ·exact .inr (.inl ⟨rfl,rfl⟩)
   ·exact .inr (.inr (.inr ⟨rfl,h⟩))
  ·exact .inr (.inr (.inl (UInt8.lt_iff_toNat_lt.2 h)))
def ltS (a b:ByteArray):Bool:=Op.bytesLess (ByteArray.toList a) (ByteArray.toList b)
theorem z8q (a:ByteArray):ltS a a=false:=zab _
theorem z72 {a b c:ByteArray} (h1:ltS a b=true) (h2:ltS b c=true):ltS a c=true:=zg2 h1 h2
theorem zim (a b:ByteArray):ltS a b=true\/a=b\/ltS b a=true:=by
 rcases zg1 (ByteArray.toList a) (ByteArray.toList b) with h|h|h
 ·exact .inl h
 ·exact .inr (.inl (zca.1 h))
 ·exact .inr (.inr h)
theorem zvx {a b:ByteArray} (h:ltS a b=true):ltS b a=false:=by
 cases hb:ltS b a with
 | false=>rfl
 | true=>have:=z72 h hb;rw [z8q] at this;cases this
structure FileA where
 name:ByteArray
 b:List UInt8
 kept:Nat
structure DiskA where
 room:Nat
 left:Int
 gone:Bool
 fs:List FileA
def used (fs:List FileA):Nat:=(fs.map λf=>f.b.length).sum
def DiskA.free (A:DiskA):Nat:=A.room-used A.fs
def okC (c:UInt8):Bool:=(97<=c.toNat && c.toNat<=122) || (48<=c.toNat && c.toNat<=57) || c.toNat == 46 || c.toNat == 45
def z5a (s:ByteArray):Bool:=s.data.toList.all okC && (1<=s.size && s.size<=24)
def z1y (fs:List FileA) (n:ByteArray):Bool:=fs.any λf=>decide (f.name=n)
def z2e (A:DiskA):DiskA:=if A.left>0 then { A with left:=A.left-1,gone:=decide (A.left-1=0) } else A
def z1q (n:ByteArray) (g:FileA->FileA) (f:FileA):FileA:=if f.name=n then g f else f
def z43 (x:FileA):List FileA->List FileA
 | []=>[x]
 | f::r=>if ltS x.name f.name then x::f::r else f::z43 x r
def z3w (n:ByteArray) (fs:List FileA):List FileA:=fs.filter λf=>!decide (f.name=n)
def z08 (A:DiskA) (n:ByteArray) (bs:List UInt8):Int × DiskA :=
 if A.gone then (9,A) else if z5a n=false then (2,A) else if bs.length>A.free\/(z1y A.fs n=false/\A.fs.length>=128) then (5,A) else
  (0,z2e { A with fs:=if z1y A.fs n then A.fs.map (z1q n λf=>{ f with b:=f.b++bs }) else z43 ⟨n,bs,0⟩ A.fs })
def zb1 (ns:List ByteArray) (n:ByteArray):Bool:=ns.isEmpty || ns.any λm=>decide (m=n)
def z3z (ns:List ByteArray) (f:FileA):FileA:=if zb1 ns f.name then { f with kept:=f.b.length } else f
def z1s (A:DiskA) (ns:List ByteArray):Int × DiskA :=
 if A.gone then (9,A) else if ns.all (z1y A.fs)=false then (3,A) else (0,z2e { A with fs:=A.fs.map (z3z ns) })
def zkv (fs:List FileA) (n:ByteArray):Nat:=match fs.find? λf=>decide (f.name=n) with
 | some f=>f.b.length
 | none=>0
def cutA' (A:DiskA) (n:ByteArray) (k:Int):Int × DiskA :=
 if A.gone then (9,A) else if z1y A.fs n=false then (3,A) else if k<0\/k>zkv A.fs n then (2,A) else
  (0,z2e { A with fs:=A.fs.map (z1q n λf=>{ f with b:=f.b.take k.toNat,kept:=min f.kept k.toNat }) })
def z10 (A:DiskA) (n:ByteArray):Int × DiskA :=
 if A.gone then (9,A) else if z1y A.fs n=false then (3,A) else (0,z2e { A with fs:=z3w n A.fs })
structure okA (A:DiskA):Prop where
 room:A.room<=4194304
 used:used A.fs<=4194304
 many:A.fs.length<=128
 left : -1<=A.left/\A.left<=9223372036854775807
 sorted:A.fs.Pairwise λa b=>ltS a.name b.name=true
 kept:∀ f ∈ A.fs,f.kept<=f.b.length
 names:∀ f ∈ A.fs,f.name.size<=24
theorem z1h (f:FileA) (fs:List FileA):used (f::fs)=f.b.length+used fs:=by simp [used]
theorem z3q {a b:List FileA} (h:a.Perm b):used a=used b:=(h.map _).sum_nat
theorem z7z:∀ {fs:List FileA} {f:FileA},f ∈ fs->f.b.length<=used fs
 | g::r,f,h=>by
  rw [z1h]
  rcases List.mem_cons.1 h with rfl|h
  ·omega
  ·have:=z7z h;omega
theorem z2q {fs:List FileA} (h:fs.Pairwise λa b=>ltS a.name b.name=true):(fs.map (·.name)).Nodup:=by
 rw [List.Nodup,List.pairwise_map]
 exact h.imp λ{a b} hab e=>by rw [e,z8q] at hab;cases hab
theorem z5x {fs:List FileA} {n:ByteArray}:z1y fs n=true↔∃ f ∈ fs,f.name=n:=by simp [z1y]
theorem z5y {fs:List FileA} {n:ByteArray}:z1y fs n=false↔∀ f ∈ fs,f.name≠n:=by simp [z1y]
instance:ByE P T.a46 T.a52:=⟨by kernel_rfl,by kernel_rfl,by kernel_rfl⟩
instance:StT P T.a51:=⟨by kernel_rfl⟩
instance:KeyT P T.a51 ekS:=zxs (by kernel_rfl)
instance:MapT P T.a24 T.a51 (.pointer none):=⟨T.a28,by kernel_rfl,by kernel_rfl⟩
abbrev evF (b:Nat):Value:=.pointer (some ⟨b,0,none⟩)
structure FileM where
 at_:Nat
 x:Sl
 f:FileA
def z3j (t:FileM):HP:=HP.star (pt t.at_ (.cells #[t.x.v,.int .i64 t.f.kept] T.a9)) (slc T.a52 1 t.x (t.f.b.flatMap zi))
def dk (d:Nat) (A:DiskA):HP:=HP.ex λm:Nat=>HP.ex λFS:List FileM=>HP.and ((FS.map (·.f)).Perm A.fs/\okA A)
 (HP.star (pt d (.cells #[.int .i64 A.left,.bool A.gone,.int .i64 A.room,.int .i64 (used A.fs),.map (some m)] T.a8))
  (HP.star (z1c ekS evF m (FS.map λt=>(t.f.name,t.at_))) (HP.all (FS.map z3j))))
section
variable {w:World} {l r:List HP}
theorem Sat.all_nil (hs:Sat w l):Sat w (HP.all []::l) :=
 ⟨⟨λ_=>none,World.env' w⟩,World.ph w,⟨(λ_ _ h=>by cases h),rfl⟩,PH.sub_refl _,(λ_=>Or.inl rfl),trivial,hs⟩
theorem Sat.all_cons {a:HP} {L:List HP} (hs:Sat w (HP.all (a::L)::l)):Sat w (a::HP.all L::l):=by
 refine Sat.star (A:=a) (B:=HP.all L) (hs.imp λp h=>?_)
 obtain ⟨p1,p2,h1,h2,hd,hA,hl⟩:=h
 exact ⟨p1,p2,h1,h2,hd,hA,hl⟩
theorem Sat.all_put {a:HP} {L:List HP} (hs:Sat w (a::HP.all L::l)):Sat w (HP.all (a::L)::l):=by
 refine (Sat.star_mk (A:=a) (B:=HP.all L) hs).imp λp h=>?_
 obtain ⟨p1,p2,h1,h2,hd,hA,hl⟩:=h
 exact ⟨p1,p2,h1,h2,hd,hA,hl⟩
theorem Sat.all_perm {L L':List HP} (hp:L.Perm L') (hs:Sat w (HP.all L::l)):Sat w (HP.all L'::l):=hs.imp λp h=>za2 hp h
theorem z24 {d:Nat} {A:DiskA} (hs:Sat w (dk d A::l)):∃ (m:Nat) (FS:List FileM),(FS.map FileM.f).Perm A.fs/\okA A /\
  Sat w (pt d (.cells #[.int .i64 A.left,.bool A.gone,.int .i64 A.room,.int .i64 (used A.fs),.map (some m)] T.a8)::z1c ekS evF m (FS.map λt=>(t.f.name,t.at_))::HP.all (FS.map z3j)::l):=by
 obtain ⟨m,hs⟩:=hs.ex
 obtain ⟨FS,hs⟩:=hs.ex
 obtain ⟨⟨h1,h2⟩,hs⟩:=hs.and
 have hs:=hs.star
 have hs:=(hs.pick [1]).star
 exact ⟨m,FS,h1,h2,hs.pick [2,0,0]⟩
theorem zpv {d:Nat} {A:DiskA} {m:Nat} {FS:List FileM} (hp:(FS.map FileM.f).Perm A.fs) (hok:okA A)
  (hs:Sat w (pt d (.cells #[.int .i64 A.left,.bool A.gone,.int .i64 A.room,.int .i64 (used A.fs:Nat),.map (some m)] T.a8)::z1c ekS evF m (FS.map λt=>(t.f.name,t.at_))::HP.all (FS.map z3j)::l)):Sat w (dk d A::l):=by
 refine .ex_mk m (.ex_mk FS (.and_mk ⟨hp,hok⟩ (.star_mk ?_)))
 refine (Sat.star_mk (hs.pick [1,1])).pick [1]
theorem z26 {d:Nat} {A:DiskA} (m:Nat) {FS:List FileM} {r1 r2 r3 l':List HP} {u:Int} (hp:(FS.map FileM.f).Perm A.fs) (hok:okA A) (hs:Sat w l)
  [h1:FocB l d (.cells [.int .i64 A.left,.bool A.gone,.int .i64 A.room,.int .i64 u,.map (some m)].toArray T.a8) r1] [h2:FoM r1 m ekS evF (FS.map λt=>(t.f.name,t.at_)) r2] [h3:Foc r2 (HP.all (FS.map z3j)) r3] [h4:Sub r3 l']
  (hu:u=(used A.fs:Nat):=by rfl):Sat w (dk d A::l'):=by
 subst hu
 have h5:Sat w (dk d A::r3):=zpv hp hok (hs.perm (h1.perm.trans (.cons _ (h2.perm.trans (.cons _ h3.perm)))))
 exact h5.sub
theorem z70 {FS:List FileM} {t:FileM} (hs:Sat w l) [h:Foc l (HP.all (FS.map z3j)) r] (ht:t ∈ FS):∃ FS',FS.Perm (t::FS') /\
  Sat w (pt t.at_ (.cells #[t.x.v,.int .i64 t.f.kept] T.a9)::slc T.a52 1 t.x (t.f.b.flatMap zi)::HP.all (FS'.map z3j)::r):=by
 obtain ⟨s,u,rfl⟩:=List.append_of_mem ht
 have hp:(s++t::u).Perm (t::(s++u)):=List.perm_middle
 exact ⟨s++u,hp,(((hs.perm h.perm).all_perm (hp.map z3j)).all_cons).star⟩
theorem z6b {FS:List FileM} (t:FileM) {r1 r2 r3:List HP} (hs:Sat w l) [h1:FocB l t.at_ (.cells [.slice t.x.a t.x.len t.x.cap,.int .i64 t.f.kept].toArray T.a9) r1] [h2:FocS r1 t.x T.a52 1 (t.f.b.flatMap zi) r2] [h3:Foc r2 (HP.all (FS.map z3j)) r3] :
  Sat w (HP.all ((t::FS).map z3j)::r3) :=
 Sat.all_put (Sat.star_mk (A:=pt t.at_ (.cells #[t.x.v,.int .i64 t.f.kept] T.a9)) (B:=slc T.a52 1 t.x (t.f.b.flatMap zi)) (hs.perm (h1.perm.trans (.cons _ (h2.perm.trans (.cons _ h3.perm))))))
end
section
variable {w:World} {l r:List HP} {d:Nat} {A:DiskA}
theorem z05i (n:Nat) (hn:n<=4194304) (hs:Sat w l):Ret P F.a48 #[.int .i64 n] w λvs w'=>∃ d,vs=[.pointer (some ⟨d,0,none⟩),.int .i64 0]/\Sat w' (dk d ⟨n,-1,false,[]⟩::l) :=
 ztx n <| by
  delta z07a Ac Ad Ai An Av Az B1
  refine zy ?_
  refine zbv ekS evF hs λm w' hs=>?_
  refine zn hs λd w' hs=>?_
  refine ⟨rfl,d,rfl,?_⟩
  exact zpv (FS:=[]) (.refl _) ⟨hn,by simp [used],by simp,by simp,by simp,by simp,by simp⟩ ((hs.all_nil).pick [1,1,0])
theorem zql (c:UInt8):((!(decide ((c.toNat:Int)>=97) && decide ((c.toNat:Int)<=122)) && !(decide ((c.toNat:Int)>=48) && decide ((c.toNat:Int)<=57)) && (c.toNat:Int) != 46 && (c.toNat:Int) != 45)=true↔okC c=false):=by
 simp [okC];omega
theorem z05g (s:ByteArray) (hs:Sat w l):Ret P F.a47 #[.string s] w λvs w'=>vs=[.bool (z5a s)]/\Sat w' l :=
 ztw s <| by
  delta z079 AE AK AT Ac Ag Ai Al An Aq BN BO
  refine ze (λh=>?_) λh=>?_
  ·refine ⟨rfl,?_,hs⟩
   have:z5a s=false:=by simp [z5a];omega
   rw [this]
  refine zm9 hs λx w' hs=>?_
  have hl:=hs.slen x
  have hsz:s.data.toList.length=s.size:=by simp
  refine zf (λ_ w'=>s.data.toList.all okC=true/\Sat w' l) ?_ ?_
  ·refine z03 (λn v w=>∃ i:Nat,v=((i:Int),())/\i<=s.data.toList.length/\s.data.toList.length-i=n/\(s.data.toList.take i).all okC=true/\Sat w (slc T.a52 1 x (s.data.toList.flatMap zi)::l)) s.data.toList.length ⟨0,rfl,by omega,rfl,rfl,hs⟩ ?_
   clear hs
   rintro n _ w ⟨i,rfl,hi,hn,hall,hs⟩
   refine zm ?_
   refine ze (λhc=>?_) λhc=>?_
   ·have hil:i<s.data.toList.length:=by omega
    refine z22 hs i hil ?_
    refine wp_lt (wp_lt (wp_lt ?_))
    have htk:(s.data.toList.take (i+1)).all okC=okC s.data.toList[i]:=by
     rw [List.take_add_one,List.getElem?_eq_getElem hil,List.all_append,hall];simp
    refine z0r (λh3=>?_) λh3=>?_
    ·have h3:=(zql _).1 h3
     refine zh (zh ?_)
     refine ⟨rfl,?_,hs.tail⟩
     have:z5a s=false:=by
      have:s.data.toList.all okC=false:=by
       rw [<- List.take_append_drop (i+1) s.data.toList,List.all_append,htk,h3];rfl
      simp only [z5a,this,Bool.false_and]
     rw [this]
    ·have h3:okC s.data.toList[i]=true:=by
      cases hk:okC s.data.toList[i] with
      | true=>rfl
      | false=>have:=(zql _).2 hk;rw [this] at h3;cases h3
     refine z2z (us':=[.int .i64 ((i+1:Nat):Int)]) (by (try simp (disch:=omega) only [w64]);first|rfl|(congr;omega)) ?_
     refine z11 (s.data.toList.length-(i+1)) ?_
     exact ⟨i+1,rfl,by omega,rfl,by rw [htk,h3],hs⟩
   ·refine zh (zj ⟨?_,hs.tail⟩)
    rwa [List.take_of_length_le (by omega)] at hall
  ·rintro _ w' ⟨hall,hs⟩
   refine zm ?_
   refine ⟨rfl,?_,hs⟩
   have:z5a s=true:=by simp only [z5a,hall,Bool.true_and,Bool.and_eq_true,decide_eq_true_eq];omega
   rw [this]
theorem z08b [hf:Fo l dk d A r] (hs:Sat w l):Ret P F.a46 #[.pointer (some ⟨d,0,none⟩)] w λvs w'=>vs=[.int .i64 (if A.gone then 9 else 0)]/\Sat w' (dk d A::r) :=
 ztv _ <| by
  delta z078 AA Ac An Ba Br
  obtain ⟨m,FS,hp,hok,hs⟩:=z24 (hs.perm hf.perm)
  refine wp_lt (zy ?_ (by simp))
  (repeat (first|with_reducible (first|refine zm ?_|refine zg ?_|refine z0k ?_|refine za hs ?_|refine zk hs ?_|refine zd ?_|refine zx hs λ_ hs=>?_|refine zq hs λ_ _ hs=>?_|refine zn hs λ_ _ hs=>?_|refine z07 hs λ_ hs=>?_|refine zr hs λ_ hs=>?_)|(apply wp_must;(focus first|trivial|omega|assumption))|refine z19 ?_|refine wp_lt ?_))
  refine ze (λh=>?_) λh=>?_
  ·exact ⟨rfl,by rw [if_pos h],z26 m hp hok hs⟩
  ·exact ⟨rfl,by rw [if_neg h],z26 m hp hok hs⟩
theorem z048 {m:Nat} {n room u:Int} (hn:n<=9223372036854775807 /\ -1<=n) [hf:FocB l d (.cells #[.int .i64 n,.bool false,.int .i64 room,.int .i64 u,.map (some m)] T.a8) r] (hs:Sat w l) :
  Ret P F.a49 #[.pointer (some (Addr.add ⟨d,0,none⟩ 0))] w λvs w'=>vs=[] /\
   Sat w' (pt d (.cells #[.int .i64 (if n>0 then n-1 else n),.bool (if n>0 then decide (n-1=0) else false),.int .i64 room,.int .i64 u,.map (some m)] T.a8)::r) :=
 zty _ <| by
  delta z07b AA AJ AK AP Ac Ai An Aq
  have hs:=hs.focB d
  (repeat (first|with_reducible (first|refine zm ?_|refine zg ?_|refine z0k ?_|refine za hs ?_|refine zk hs ?_|refine zd ?_|refine zx hs λ_ hs=>?_|refine zq hs λ_ _ hs=>?_|refine zn hs λ_ _ hs=>?_|refine z07 hs λ_ hs=>?_|refine zr hs λ_ hs=>?_)|(apply wp_must;(focus first|trivial|omega|assumption))|refine z19 ?_|refine wp_lt ?_))
  refine zf (λ_ w'=>Sat w' (pt d (.cells #[.int .i64 (if n>0 then n-1 else n),.bool (if n>0 then decide (n-1=0) else false),.int .i64 room,.int .i64 u,.map (some m)] T.a8)::r)) ?_ ?_
  ·refine ze (λh=>?_) λh=>?_
   ·(repeat (first|with_reducible (first|refine zm ?_|refine zg ?_|refine z0k ?_|refine za hs ?_|refine zk hs ?_|refine zd ?_|refine zx hs λ_ hs=>?_|refine zq hs λ_ _ hs=>?_|refine zn hs λ_ _ hs=>?_|refine z07 hs λ_ hs=>?_|refine zr hs λ_ hs=>?_)|(apply wp_must;(focus first|trivial|omega|assumption))|refine z19 ?_|refine wp_lt ?_))
    refine zj ?_
    rw [if_pos h,if_pos h]
    rw [w64 (x:=n-1) (by omega) (by omega)] at hs
    exact hs
   ·refine zj ?_
    rw [if_neg h,if_neg h];exact hs
  ·rintro _ w' hs
   refine zm ?_
   exact ⟨rfl,rfl,hs⟩
theorem zxh (A:DiskA) (h:A.gone=false):z2e A=⟨A.room,if A.left>0 then A.left-1 else A.left,if A.left>0 then decide (A.left-1=0) else false,A.fs⟩:=by
 unfold z2e
 split
 ·rfl
 ·rw [<- h]
theorem z052 [hf:Fo l dk d A r] (hs:Sat w l):Ret P F.a36 #[.pointer (some ⟨d,0,none⟩)] w λvs w'=>vs=[.int .i64 (A.free:Nat)]/\Sat w' (dk d A::r) :=
 ztn _ <| by
  delta z070 AA AG AI AP Ac Af Ai An Aq
  obtain ⟨m,FS,hp,hok,hs⟩:=z24 (hs.perm hf.perm)
  refine zy ?_ (by simp)
  have h1:=hok.room
  have h2:=hok.used
  refine zx hs λw' hs=>?_
  refine zg ?_
  refine za hs ?_
  refine zg ?_
  refine za hs ?_
  refine z0p (y:=(A.free:Nat)) ?_ ?_
  ·have e:IntKind.wrap .i64 ((A.room:Int)-(used A.fs:Nat))=(A.room:Int)-(used A.fs:Nat):=zza
   rw [e]
   unfold DiskA.free
   split <;> omega
  exact zd ⟨rfl,rfl,z26 m hp hok hs⟩
theorem z054 [hf:Fo l dk d A r] (hs:Sat w l):Ret P F.a37 #[.pointer (some ⟨d,0,none⟩)] w λvs w'=>vs=[.bool A.gone]/\Sat w' (dk d A::r) :=
 zto _ <| by
  delta z071 AX Ag An Bq
  obtain ⟨m,FS,hp,hok,hs⟩:=z24 (hs.perm hf.perm)
  (repeat (first|with_reducible (first|refine zm ?_|refine zg ?_|refine z0k ?_|refine za hs ?_|refine zk hs ?_|refine zd ?_|refine zx hs λ_ hs=>?_|refine zq hs λ_ _ hs=>?_|refine zn hs λ_ _ hs=>?_|refine z07 hs λ_ hs=>?_|refine zr hs λ_ hs=>?_)|(apply wp_must;(focus first|trivial|omega|assumption))|refine z19 ?_|refine wp_lt ?_))
  exact ⟨rfl,by simp,z26 m hp hok hs⟩
end
theorem z9u {fs:List FileA} {n:ByteArray} (hs:(fs.map (·.name)).Nodup) {f:FileA} (hf:f ∈ fs) (hn:f.name=n):fs.find? (λf=>decide (f.name=n))=some f:=by
 subst hn
 induction fs with
 | nil=>cases hf
 | cons g r ih =>
  rw [List.map_cons,List.nodup_cons] at hs
  rcases List.mem_cons.1 hf with rfl|hf
  ·rw [List.find?_cons_of_pos (by simp)]
  ·rw [List.find?_cons_of_neg (by simp;exact λe=>hs.1 (List.mem_map.2 ⟨f,hf,e.symm⟩))]
   exact ih hs.2 hf
theorem zci {fs:List FileA} {n:ByteArray} (h:∀ f ∈ fs,f.name≠n):fs.find? (λf=>decide (f.name=n))=none:=List.find?_eq_none.2 λf hf=>by simpa using h f hf
theorem z03g {fs:List FileA} {n:ByteArray} (hs:(fs.map (·.name)).Nodup) {f:FileA} (hf:f ∈ fs) (hn:f.name=n):zkv fs n=f.b.length:=by rw [zkv,z9u hs hf hn]
section
variable {w:World} {l r:List HP} {d:Nat} {A:DiskA}
theorem z8o {FS:List FileM} (hp:(FS.map FileM.f).Perm A.fs) {n:ByteArray} {b:Nat} (h:(n,b) ∈ FS.map λt=>(t.f.name,t.at_)):∃ t ∈ FS,t.at_=b/\t.f.name=n/\t.f ∈ A.fs:=by
 obtain ⟨t,ht,he⟩:=List.mem_map.1 h
 simp only [Prod.mk.injEq] at he
 exact ⟨t,ht,he.2,he.1,hp.mem_iff.1 (List.mem_map.2 ⟨t,ht,rfl⟩)⟩
theorem z7f {FS:List FileM} (hp:(FS.map FileM.f).Perm A.fs) {n:ByteArray} (h:∀ b,(n,b) ∉ FS.map λt=>(t.f.name,t.at_)):∀ f ∈ A.fs,f.name≠n:=λf hf e=>by
 obtain ⟨t,ht,rfl⟩:=List.mem_map.1 (hp.mem_iff.2 hf)
 exact h t.at_ (List.mem_map.2 ⟨t,ht,by rw [e]⟩)
theorem apart {FS FS':List FileM} {t:FileM} (hp:(FS.map FileM.f).Perm A.fs) (hok:okA A) (h:FS.Perm (t::FS')) :
  A.fs.Perm (t.f::FS'.map FileM.f)/\(∀ f ∈ FS'.map FileM.f,f.name≠t.f.name)/\t.f ∈ A.fs:=by
 have h1:A.fs.Perm (t.f::FS'.map FileM.f):=hp.symm.trans (h.map FileM.f)
 have h2:((t.f::FS'.map FileM.f).map (·.name)).Nodup:=(h1.map _).nodup_iff.1 (z2q hok.sorted)
 rw [List.map_cons,List.nodup_cons] at h2
 exact ⟨h1,λf hf e=>h2.1 (List.mem_map.2 ⟨f,hf,e⟩),h1.mem_iff.2 (List.mem_cons_self ..)⟩
theorem z02o (x:Sl) (bs:List UInt8) (hb:bs.length<=100000000) [hf:FocR l x 1 (bs.flatMap zi)] (hs:Sat w l):Ret P F.a0 #[x.v] w λvs w'=>∃ z:Sl,vs=[z.v]/\Sat w' (slc T.a52 1 z (bs.flatMap zi)::l) :=
 zjf x <| by
  delta zf0 AE Ai An
  refine ze (λh=>?_) λh=>?_
  ·have:bs=[]:=by
    obtain ⟨hlen,h0|⟨b,off,arr,T',fr,ha,-⟩⟩:=hf.rd w hs
    ·rw [z3t,h0] at hlen;exact List.length_eq_zero_iff.1 (by omega)
    ·rw [h] at ha;cases ha
   subst this
   exact ⟨rfl,⟨none,0,0⟩,rfl,hs.slc_nil⟩
  ·refine z94 hs ([]:List UInt8) (enc:=zi) bs0 λb w' hs=>?_
   refine wp_app' hs (xs:=([]:List UInt8)) (ys:=bs) (enc:=zi) (λz w' hs=>?_) (by simp;omega)
   exact ⟨rfl,z,rfl,hs⟩
theorem zg9 (n:ByteArray) [hf:Fo l dk d A r] (hs:Sat w l):Ret P F.a39 #[.pointer (some ⟨d,0,none⟩),.string n] w λvs w' =>
  (∃ f ∈ A.fs,f.name=n/\∃ z:Sl,vs=[z.v,.int .i64 0]/\Sat w' (slc T.a52 1 z (f.b.flatMap zi)::dk d A::r))\/((∀ f ∈ A.fs,f.name≠n)/\vs=[.slice none 0 0,.int .i64 3]/\Sat w' (dk d A::r)) :=
 ztp _ n <| by
  delta z072 AA AO Ac Ai Ak An BG Bz
  obtain ⟨m,FS,hp,hok,hs⟩:=z24 (hs.perm hf.perm)
  refine zy ?_ (by simp)
  (repeat (first|with_reducible (first|refine zm ?_|refine zg ?_|refine z0k ?_|refine za hs ?_|refine zk hs ?_|refine zd ?_|refine zx hs λ_ hs=>?_|refine zq hs λ_ _ hs=>?_|refine zn hs λ_ _ hs=>?_|refine z07 hs λ_ hs=>?_|refine zr hs λ_ hs=>?_)|(apply wp_must;(focus first|trivial|omega|assumption))|refine z19 ?_|refine wp_lt ?_))
  refine z7a hs (λb hb=>?_) λhb=>?_
  ·obtain ⟨t,ht,rfl,rfl,hA⟩:=z8o hp hb
   obtain ⟨FS',hpm,hs⟩:=z70 hs ht
   refine zy ?_ (by simp)
   (repeat (first|with_reducible (first|refine zm ?_|refine zg ?_|refine z0k ?_|refine za hs ?_|refine zk hs ?_|refine zd ?_|refine zx hs λ_ hs=>?_|refine zq hs λ_ _ hs=>?_|refine zn hs λ_ _ hs=>?_|refine z07 hs λ_ hs=>?_|refine zr hs λ_ hs=>?_)|(apply wp_must;(focus first|trivial|omega|assumption))|refine z19 ?_|refine wp_lt ?_))
   have hlen:t.f.b.length<=4194304:=Nat.le_trans (z7z hA) hok.used
   refine z8 (z02o t.x t.f.b (by omega) hs) λ_ _ hs=>?_
   obtain ⟨z,rfl,hs⟩:=hs
   refine zb ?_
   (repeat (first|with_reducible (first|refine zm ?_|refine zg ?_|refine z0k ?_|refine za hs ?_|refine zk hs ?_|refine zd ?_|refine zx hs λ_ hs=>?_|refine zq hs λ_ _ hs=>?_|refine zn hs λ_ _ hs=>?_|refine z07 hs λ_ hs=>?_|refine zr hs λ_ hs=>?_)|(apply wp_must;(focus first|trivial|omega|assumption))|refine z19 ?_|refine wp_lt ?_))
   refine ⟨rfl,.inl ⟨t.f,hA,rfl,z,rfl,?_⟩⟩
   have hs:=(z6b t hs).all_perm (hpm.symm.map z3j)
   have hs:=z26 (d:=d) (A:=A) (l':=slc T.a52 1 z (t.f.b.flatMap zi)::r) m hp hok hs
   exact hs.sub
  ·refine z0c ?_ (by rfl)
   exact ⟨rfl,.inr ⟨z7f hp hb,rfl,z26 m hp hok hs⟩⟩
def z8t (fs:List FileA) (n:ByteArray):Nat × Nat:=match fs.find? λf=>decide (f.name=n) with
 | some f=>(f.b.length,f.kept)
 | none=>(0,0)
theorem z091 (n:ByteArray) [hf:Fo l dk d A r] (hs:Sat w l):Ret P F.a44 #[.pointer (some ⟨d,0,none⟩),.string n] w λvs w' =>
  ∃ x:Sl,vs=[.agg [x.v,.int .i64 (z8t A.fs n).2].toArray]/\x.len=(z8t A.fs n).1/\Sat w' (dk d A::r) :=
 ztt _ n <| by
  delta z076 AA AX Ac Ai An Ao Ar BB BG BI BJ Bz
  obtain ⟨m,FS,hp,hok,hs⟩:=z24 (hs.perm hf.perm)
  (repeat (first|with_reducible (first|refine zm ?_|refine zg ?_|refine z0k ?_|refine za hs ?_|refine zk hs ?_|refine zd ?_|refine zx hs λ_ hs=>?_|refine zq hs λ_ _ hs=>?_|refine zn hs λ_ _ hs=>?_|refine z07 hs λ_ hs=>?_|refine zr hs λ_ hs=>?_)|(apply wp_must;(focus first|trivial|omega|assumption))|refine z19 ?_|refine wp_lt ?_))
  refine z7a hs (λb hb=>?_) λhb=>?_
  ·obtain ⟨t,ht,rfl,rfl,hA⟩:=z8o hp hb
   refine zy ?_ (by simp)
   (repeat (first|with_reducible (first|refine zm ?_|refine zg ?_|refine z0k ?_|refine za hs ?_|refine zk hs ?_|refine zd ?_|refine zx hs λ_ hs=>?_|refine zq hs λ_ _ hs=>?_|refine zn hs λ_ _ hs=>?_|refine z07 hs λ_ hs=>?_|refine zr hs λ_ hs=>?_)|(apply wp_must;(focus first|trivial|omega|assumption))|refine z19 ?_|refine wp_lt ?_))
   refine z7a hs (λb2 hb2=>?_) λhb2=>absurd hb (hb2 _)
   obtain ⟨t2,ht2,rfl,hn2,hA2⟩:=z8o hp hb2
   obtain ⟨FS',hpm,hs⟩:=z70 hs ht2
   (repeat (first|with_reducible (first|refine zm ?_|refine zg ?_|refine z0k ?_|refine za hs ?_|refine zk hs ?_|refine zd ?_|refine zx hs λ_ hs=>?_|refine zq hs λ_ _ hs=>?_|refine zn hs λ_ _ hs=>?_|refine z07 hs λ_ hs=>?_|refine zr hs λ_ hs=>?_)|(apply wp_must;(focus first|trivial|omega|assumption))|refine z19 ?_|refine wp_lt ?_))
   refine ⟨rfl,t2.x,?_,?_,?_⟩
   ·rw [z8t,z9u (z2q hok.sorted) hA2 hn2]
   ·rw [z8t,z9u (z2q hok.sorted) hA2 hn2];exact hs.slen t2.x
   ·have hs:=(z6b t2 hs).all_perm (hpm.symm.map z3j)
    exact z26 m hp hok hs
  ·refine z0c ?_ (by simp)
   (repeat (first|with_reducible (first|refine zm ?_|refine zg ?_|refine z0k ?_|refine za hs ?_|refine zk hs ?_|refine zd ?_|refine zx hs λ_ hs=>?_|refine zq hs λ_ _ hs=>?_|refine zn hs λ_ _ hs=>?_|refine z07 hs λ_ hs=>?_|refine zr hs λ_ hs=>?_)|(apply wp_must;(focus first|trivial|omega|assumption))|refine z19 ?_|refine wp_lt ?_))
   refine ⟨rfl,⟨none,0,0⟩,?_,?_,z26 m hp hok hs⟩
   ·rw [z8t,zci (z7f hp hb)];rfl
   ·rw [z8t,zci (z7f hp hb)]
theorem z063 (n:ByteArray) [hf:Fo l dk d A r] (hs:Sat w l):Ret P F.a42 #[.pointer (some ⟨d,0,none⟩),.string n] w λvs w'=>vs=[.int .i64 (z8t A.fs n).1]/\Sat w' (dk d A::r) :=
 ztr _ n <| by
  delta z074 Ac Ad Af Al An
  refine z8 (z091 n hs) λ_ _ hs=>?_
  obtain ⟨x,rfl,hx,hs⟩:=hs
  refine zb ?_
  rw [hx]
  (repeat (first|with_reducible (first|refine zm ?_|refine zg ?_|refine z0k ?_|refine za hs ?_|refine zk hs ?_|refine zd ?_|refine zx hs λ_ hs=>?_|refine zq hs λ_ _ hs=>?_|refine zn hs λ_ _ hs=>?_|refine z07 hs λ_ hs=>?_|refine zr hs λ_ hs=>?_)|(apply wp_must;(focus first|trivial|omega|assumption))|refine z19 ?_|refine wp_lt ?_))
  exact ⟨rfl,rfl,hs⟩
end
theorem zrr {fs fs':List FileA} {f:FileA} (hp:fs.Perm (f::fs')) (hne:∀ g ∈ fs',g.name≠f.name):(z3w f.name fs).Perm fs':=by
 have h1:=hp.filter λg=>!decide (g.name=f.name)
 rw [List.filter_cons_of_neg (by simp)] at h1
 have h2:fs'.filter (λg=>!decide (g.name=f.name))=fs':=List.filter_eq_self.2 λg hg=>by simpa using hne g hg
 rw [h2] at h1
 exact h1
theorem zrq {fs:List FileA} {n:ByteArray} (h:∀ f ∈ fs,f.name≠n):z3w n fs=fs:=List.filter_eq_self.2 λg hg=>by simpa using h g hg
theorem z6p {fs fs':List FileA} {f:FileA} {g:FileA->FileA} (hp:fs.Perm (f::fs')) (hne:∀ g ∈ fs',g.name≠f.name):(fs.map (z1q f.name g)).Perm (g f::fs'):=by
 have h1:=hp.map (z1q f.name g)
 rw [List.map_cons] at h1
 have h2:fs'.map (z1q f.name g)=fs':=by
  conv=>rhs;rw [<- List.map_id fs']
  exact List.map_congr_left λx hx=>by rw [z1q,if_neg (hne x hx)];rfl
 rw [h2,z1q,if_pos rfl] at h1
 exact h1
theorem z66 {n:ByteArray} {g:FileA->FileA} (hg:∀ f,(g f).name=f.name) (f:FileA):(z1q n g f).name=f.name:=by
 unfold z1q;split
 ·exact hg f
 ·rfl
theorem z8v {fs:List FileA} {g:FileA->FileA} (hg:∀ f,(g f).name=f.name) (h:fs.Pairwise λa b=>ltS a.name b.name=true):(fs.map g).Pairwise λa b=>ltS a.name b.name=true:=by
 rw [List.pairwise_map]
 exact h.imp λ{a b} hab=>by rw [hg,hg];exact hab
theorem zlx {fs:List FileA} (n:ByteArray) (h:fs.Pairwise λa b=>ltS a.name b.name=true):(z3w n fs).Pairwise λa b=>ltS a.name b.name=true:=h.filter _
theorem zio {fs:List FileA} {n:ByteArray} {f:FileA}:f ∈ z3w n fs↔f ∈ fs/\f.name≠n:=by simp [z3w,List.mem_filter]
theorem z61 (x:FileA):∀ fs:List FileA,(z43 x fs).Perm (x::fs)
 | []=>.refl _
 | f::r=>by
  rw [z43];split
  ·exact .refl _
  ·exact (List.Perm.cons f (z61 x r)).trans (.swap _ _ _)
theorem zev {x f:FileA} {fs:List FileA}:f ∈ z43 x fs↔f=x\/f ∈ fs:=by rw [(z61 x fs).mem_iff,List.mem_cons]
theorem ze6 (x:FileA):∀ {fs:List FileA},(∀ f ∈ fs,f.name≠x.name)->(fs.Pairwise λa b=>ltS a.name b.name=true)->(z43 x fs).Pairwise λa b=>ltS a.name b.name=true
 | [],_,_=>by simp [z43]
 | f::r,hne,h=>by
  rw [List.pairwise_cons] at h
  rw [z43];split
  ·rename_i hlt
   rw [List.pairwise_cons]
   refine ⟨λg hg=>?_,by rw [List.pairwise_cons];exact h⟩
   rcases List.mem_cons.1 hg with rfl|hg
   ·exact hlt
   ·exact z72 hlt (h.1 g hg)
  ·rename_i hlt
   rw [List.pairwise_cons]
   refine ⟨λg hg=>?_,ze6 x (λg hg=>hne g (List.mem_cons_of_mem _ hg)) h.2⟩
   rcases zev.1 hg with rfl|hg
   ·rcases zim f.name g.name with h1|h1|h1
    ·exact h1
    ·exact absurd h1 (hne f (List.mem_cons_self ..))
    ·exact absurd h1 hlt
   ·exact h.1 g hg
theorem z9c {A:DiskA} (h:okA A):okA (z2e A):=by
 unfold z2e
 split
 ·exact ⟨h.room,h.used,h.many,by have:=h.left;show -1<=A.left-1/\A.left-1<=_;omega,h.sorted,h.kept,h.names⟩
 ·exact h
theorem z3e (A:DiskA):(z2e A).fs=A.fs:=by unfold z2e;split <;> rfl
theorem z8n (A:DiskA):(z2e A).room=A.room:=by unfold z2e;split <;> rfl
section
variable {w:World} {l r:List HP} {d:Nat} {A:DiskA}
theorem zbo {m:Nat} {FS:List FileM} {fs':List FileA} {room left u:Int} {r1 r2 r3 l':List HP} (hg:A.gone=false) (hok':okA { A with fs:=fs' }) (hp:(FS.map FileM.f).Perm fs') (hs:Sat w l)
  [h1:FocB l d (.cells [.int .i64 left,.bool false,.int .i64 room,.int .i64 u,.map (some m)].toArray T.a8) r1] [h2:FoM r1 m ekS evF (FS.map λt=>(t.f.name,t.at_)) r2] [h3:Foc r2 (HP.all (FS.map z3j)) r3] [h4:Sub r3 l']
  (hu:u=(used fs':Nat):=by rfl) (hl:left=A.left:=by rfl) (hr:room=A.room:=by rfl) :
  Ret P F.a49 #[.pointer (some (Addr.add ⟨d,0,none⟩ 0))] w λvs w'=>vs=[]/\Sat w' (dk d (z2e { A with fs:=fs' })::l'):=by
 subst hu hl hr
 have hl:=hok'.left
 refine Calls.mono (z048 (d:=d) (m:=m) ⟨hl.2,hl.1⟩ hs) λe w' ⟨vs,he,hv,hs⟩=>⟨vs,he,hv,?_⟩
 have hd:=zxh { A with fs:=fs' } hg
 rw [hd]
 have hok2:=z9c hok'
 rw [hd] at hok2
 exact z26 m (A:=⟨A.room,if A.left>0 then A.left-1 else A.left,if A.left>0 then decide (A.left-1=0) else false,fs'⟩) hp hok2 hs
theorem z04w (n:ByteArray) (m:Nat) {FS:List FileM} (hp:(FS.map FileM.f).Perm A.fs) (hok:okA A)
  (hs:Sat w (pt d (.cells #[.int .i64 A.left,.bool A.gone,.int .i64 A.room,.int .i64 (used A.fs),.map (some m)] T.a8)::z1c ekS evF m (FS.map λt=>(t.f.name,t.at_))::HP.all (FS.map z3j)::r)) :
  Ret P F.a45 #[.pointer (some ⟨d,0,none⟩),.string n] w λvs w'=>vs=[]/\∃ FS':List FileM,(FS'.map FileM.f).Perm (z3w n A.fs)/\(∀ t ∈ FS',t ∈ FS/\t.f.name≠n)/\(∀ t ∈ FS,t.f.name≠n->t ∈ FS') /\
   Sat w' (pt d (.cells #[.int .i64 A.left,.bool A.gone,.int .i64 A.room,.int .i64 (used (z3w n A.fs)),.map (some m)] T.a8)::z1c ekS evF m (FS'.map λt=>(t.f.name,t.at_))::HP.all (FS'.map z3j)::r) :=
 ztu _ n <| by
  delta z077 AA AG AI AJ AK AO AP Ac Ai Al An Aq B6 BG Bz
  (repeat (first|with_reducible (first|refine zm ?_|refine zg ?_|refine z0k ?_|refine za hs ?_|refine zk hs ?_|refine zd ?_|refine zx hs λ_ hs=>?_|refine zq hs λ_ _ hs=>?_|refine zn hs λ_ _ hs=>?_|refine z07 hs λ_ hs=>?_|refine zr hs λ_ hs=>?_)|(apply wp_must;(focus first|trivial|omega|assumption))|refine z19 ?_|refine wp_lt ?_))
  refine z7a hs (λb hb=>?_) λhb=>?_
  ·obtain ⟨t,ht,rfl,rfl,hA⟩:=z8o hp hb
   obtain ⟨FS',hpm,hs⟩:=z70 hs ht
   obtain ⟨h1,h2,-⟩:=apart hp hok hpm
   have hd:=zrr h1 h2
   have hu:used A.fs=t.f.b.length+used (z3w t.f.name A.fs):=by rw [z3q h1,z1h,z3q hd]
   have h3:=hok.used
   refine z50 ?_
   refine z0c ?_ (by simp)
   refine zx hs λw' hs=>?_
   refine zg ?_
   refine za hs ?_
   refine zg ?_
   refine za hs ?_
   rw [hs.slen t.x (xs:=t.f.b) (enc:=zi),zza (y:=(used (z3w t.f.name A.fs):Nat))]
   (repeat (first|with_reducible (first|refine zm ?_|refine zg ?_|refine z0k ?_|refine za hs ?_|refine zk hs ?_|refine zd ?_|refine zx hs λ_ hs=>?_|refine zq hs λ_ _ hs=>?_|refine zn hs λ_ _ hs=>?_|refine z07 hs λ_ hs=>?_|refine zr hs λ_ hs=>?_)|(apply wp_must;(focus first|trivial|omega|assumption))|refine z19 ?_|refine wp_lt ?_))
   refine zrb hs (FS'.map λt=>(t.f.name,t.at_)) (.inl ⟨t.at_,hpm.map _⟩) λw' hs=>?_
   refine z4s ?_
   refine ⟨rfl,rfl,FS',hd.symm,λt' ht'=>⟨hpm.mem_iff.2 (List.mem_cons_of_mem _ ht'),h2 _ (List.mem_map.2 ⟨t',ht',rfl⟩)⟩,λt' ht' hne=>?_,hs.sub⟩
   rcases List.mem_cons.1 (hpm.mem_iff.1 ht') with rfl|h
   ·exact absurd rfl hne
   ·exact h
  ·have hn:=z7f hp hb
   refine z50 ?_
   refine zy ?_ (by simp)
   refine z4s ?_
   rw [zrq hn]
   exact ⟨rfl,rfl,FS,hp,λt ht=>⟨ht,hn _ (hp.mem_iff.1 (List.mem_map.2 ⟨t,ht,rfl⟩))⟩,λt ht _=>ht,hs⟩
theorem zy8 {A:DiskA} (h:okA A) (n:ByteArray):okA { A with fs:=z3w n A.fs }:=by
 have hle:used (z3w n A.fs)<=used A.fs:=by
  have:∀ fs:List FileA,used (z3w n fs)<=used fs:=λfs=>by
   induction fs with
   | nil=>exact Nat.le_refl _
   | cons f r ih =>
    unfold z3w at *
    rw [z1h,List.filter_cons]
    split
    ·rw [z1h];omega
    ·omega
  exact this _
 exact ⟨h.room,Nat.le_trans hle h.used,Nat.le_trans (List.length_filter_le _ _) h.many,h.left,zlx n h.sorted,λf hf=>h.kept f (zio.1 hf).1,λf hf=>h.names f (zio.1 hf).1⟩
theorem zg3 {k:Prog} {Q:List Value->World->Prop} (hs:Sat w l) [hf:Fo l dk d A r] (h1:A.gone=true->∀ w',Sat w' (dk d A::r)->Q [.int .i64 9] w') (h0:A.gone=false->∀ w',Sat w' (dk d A::r)->k.wp P tt w' λe vs w=>e=0/\Q vs w) :
  (Prog.call F.a46 [.pointer (some ⟨d,0,none⟩)] (sI .i64) (u1 λ(n0:Int)=>.lt (.int .i64) (n0) λ(n1:Int)=>.ite (n1 != 0) (.lt (.int .i64) (n1) λ(n2:Int)=>.done 0 [.int .i64 n2]) k)).wp P tt w λe vs w=>e=0/\Q vs w:=by
 refine z8 (z08b hs) λ_ _ hs=>?_
 obtain ⟨rfl,hs⟩:=hs
 refine zb ?_
 refine wp_lt ?_
 by_cases hg:A.gone=true
 ·rw [if_pos hg]
  refine z0c ?_ (by decide)
  exact wp_lt ⟨rfl,h1 hg _ hs⟩
 ·rw [if_neg hg]
  refine zy ?_ (by decide)
  exact h0 (by simpa using hg) _ hs
theorem zbk (n:ByteArray) [hf:Fo l dk d A r] (hs:Sat w l):Ret P F.a40 #[.pointer (some ⟨d,0,none⟩),.string n] w λvs w'=>vs=[.int .i64 (z10 A n).1]/\Sat w' (dk d (z10 A n).2::r) :=
 ztq _ n <| by
  delta z073 AA AU Ac Ad Af Ai Aj An BG BH Bz;unfold z10
  refine zg3 hs (λhg w' hs=>?_) λhg w' hs=>?_
  ·rw [if_pos hg];exact ⟨rfl,hs⟩
  rw [if_neg (by rw [hg];simp)]
  obtain ⟨m,FS,hp,hok,hs⟩:=z24 hs
  (repeat (first|with_reducible (first|refine zm ?_|refine zg ?_|refine z0k ?_|refine za hs ?_|refine zk hs ?_|refine zd ?_|refine zx hs λ_ hs=>?_|refine zq hs λ_ _ hs=>?_|refine zn hs λ_ _ hs=>?_|refine z07 hs λ_ hs=>?_|refine zr hs λ_ hs=>?_)|(apply wp_must;(focus first|trivial|omega|assumption))|refine z19 ?_|refine wp_lt ?_))
  refine z7a hs (λb hb=>?_) λhb=>?_
  ·obtain ⟨t,ht,rfl,rfl,hA⟩:=z8o hp hb
   refine zy ?_ (by simp)
   rw [if_neg (by rw [z5x.2 ⟨_,hA,rfl⟩];simp)]
   refine z8 (z04w t.f.name m hp hok hs) λ_ _ hs=>?_
   obtain ⟨rfl,FS',hp',-,-,hs⟩:=hs
   refine zb ?_
   (repeat (first|with_reducible (first|refine zm ?_|refine zg ?_|refine z0k ?_|refine za hs ?_|refine zk hs ?_|refine zd ?_|refine zx hs λ_ hs=>?_|refine zq hs λ_ _ hs=>?_|refine zn hs λ_ _ hs=>?_|refine z07 hs λ_ hs=>?_|refine zr hs λ_ hs=>?_)|(apply wp_must;(focus first|trivial|omega|assumption))|refine z19 ?_|refine wp_lt ?_))
   rw [hg] at hs
   refine z8 (zbo (l':=r) hg (zy8 hok t.f.name) hp' hs) λ_ _ hs=>?_
   obtain ⟨rfl,hs⟩:=hs
   refine zb ?_
   (repeat (first|with_reducible (first|refine zm ?_|refine zg ?_|refine z0k ?_|refine za hs ?_|refine zk hs ?_|refine zd ?_|refine zx hs λ_ hs=>?_|refine zq hs λ_ _ hs=>?_|refine zn hs λ_ _ hs=>?_|refine z07 hs λ_ hs=>?_|refine zr hs λ_ hs=>?_)|(apply wp_must;(focus first|trivial|omega|assumption))|refine z19 ?_|refine wp_lt ?_))
   exact ⟨rfl,rfl,hs⟩
  ·refine z0c ?_ (by rfl)
   rw [if_pos (z5y.2 (z7f hp hb))]
   exact ⟨rfl,rfl,z26 m hp hok hs⟩
theorem zbr {fs fs':List FileA} {f:FileA} {g:FileA->FileA} (hp:fs.Perm (f::fs')) (hne:∀ g ∈ fs',g.name≠f.name):used (fs.map (z1q f.name g))=(g f).b.length+used fs':=by
 rw [z3q (z6p hp hne),z1h]
theorem z083 (n:ByteArray) (k:Int) [hf:Fo l dk d A r] (hs:Sat w l):Ret P F.a35 #[.pointer (some ⟨d,0,none⟩),.string n,.int .i64 k] w λvs w'=>vs=[.int .i64 (cutA' A n k).1]/\Sat w' (dk d (cutA' A n k).2::r) :=
 ztm _ n k <| by
  delta z06z AA AG AI AJ AO AP AU AX Ac Ad Af Ai Aj Al An Aq BG BH Ba Bw Bz;unfold cutA'
  refine zg3 hs (λhg w' hs=>?_) λhg w' hs=>?_
  ·rw [if_pos hg];exact ⟨rfl,hs⟩
  rw [if_neg (by rw [hg];simp)]
  obtain ⟨m,FS,hp,hok,hs⟩:=z24 hs
  (repeat (first|with_reducible (first|refine zm ?_|refine zg ?_|refine z0k ?_|refine za hs ?_|refine zk hs ?_|refine zd ?_|refine zx hs λ_ hs=>?_|refine zq hs λ_ _ hs=>?_|refine zn hs λ_ _ hs=>?_|refine z07 hs λ_ hs=>?_|refine zr hs λ_ hs=>?_)|(apply wp_must;(focus first|trivial|omega|assumption))|refine z19 ?_|refine wp_lt ?_))
  refine z7a hs (λb hb=>?_) λhb=>?_
  ·obtain ⟨t,ht,rfl,rfl,hA⟩:=z8o hp hb
   refine wp_lt ?_
   refine zy ?_ (by simp)
   rw [if_neg (by rw [z5x.2 ⟨_,hA,rfl⟩];simp),z03g (z2q hok.sorted) hA rfl]
   obtain ⟨FS',hpm,hs⟩:=z70 hs ht
   obtain ⟨h1,h2,-⟩:=apart hp hok hpm
   have hlen:=hs.slen t.x (xs:=t.f.b) (enc:=zi)
   have hcap:=(hs.focS t.x).slc_cap
   (repeat (first|with_reducible (first|refine zm ?_|refine zg ?_|refine z0k ?_|refine za hs ?_|refine zk hs ?_|refine zd ?_|refine zx hs λ_ hs=>?_|refine zq hs λ_ _ hs=>?_|refine zn hs λ_ _ hs=>?_|refine z07 hs λ_ hs=>?_|refine zr hs λ_ hs=>?_)|(apply wp_must;(focus first|trivial|omega|assumption))|refine z19 ?_|refine wp_lt ?_))
   refine ze (λh=>?_) λh=>?_
   ·rw [if_pos (by omega)]
    have hs:=(z6b t hs).all_perm (hpm.symm.map z3j)
    exact ⟨rfl,rfl,z26 m hp hok hs⟩
   ·rw [if_neg (by omega)]
    obtain ⟨k,rfl⟩:∃ j:Nat,k=j:=⟨k.toNat,by omega⟩
    rw [Int.toNat_natCast]
    have hk:k<=t.f.b.length:=by omega
    have hu0:used A.fs=t.f.b.length+used (FS'.map FileM.f):=by rw [z3q h1,z1h]
    have hu1:=zbr (g:=λf=>{ f with b:=f.b.take k,kept:=min f.kept k }) h1 h2
    have hu2:used (A.fs.map (z1q t.f.name λf=>{ f with b:=f.b.take k,kept:=min f.kept k }))=k+used (FS'.map FileM.f):=by
     rw [hu1];show (t.f.b.take k).length+_=_;rw [List.length_take,Nat.min_eq_left hk]
    have hou:=hok.used
    refine zx hs λw' hs=>?_
    refine zg ?_
    refine za hs ?_
    refine zg ?_
    refine za hs ?_
    have e1:IntKind.wrap .i64 ((used A.fs:Nat)-IntKind.wrap .i64 (((t.x.len:Nat):Int)-(k:Int)))=(used (A.fs.map (z1q t.f.name λf=>{ f with b:=f.b.take k,kept:=min f.kept k })):Nat):=by
     rw [w64 (x:=((t.x.len:Nat):Int)-(k:Int)) (by omega) (by omega),w64 (by omega) (by omega)];omega
    rw [e1]
    (repeat (first|with_reducible (first|refine zm ?_|refine zg ?_|refine z0k ?_|refine za hs ?_|refine zk hs ?_|refine zd ?_|refine zx hs λ_ hs=>?_|refine zq hs λ_ _ hs=>?_|refine zn hs λ_ _ hs=>?_|refine z07 hs λ_ hs=>?_|refine zr hs λ_ hs=>?_)|(apply wp_must;(focus first|trivial|omega|assumption))|refine z19 ?_|refine wp_lt ?_))
    have hs:=(hs.focS t.x).slc_cut (n:=k) (by omega)
    rw [z8f] at hs
    have e2:(if (k:Int)<((t.f.kept:Nat):Int) then (k:Int) else ((t.f.kept:Nat):Int))=((min t.f.kept k:Nat):Int):=by split <;> omega
    rw [e2] at hs
    have hs:=z6b (FS:=FS') ⟨t.at_,⟨t.x.a,k,k⟩,⟨t.f.name,t.f.b.take k,min t.f.kept k⟩⟩ hs
    have hp':(((⟨t.at_,⟨t.x.a,k,k⟩,⟨t.f.name,t.f.b.take k,min t.f.kept k⟩⟩:FileM)::FS').map FileM.f).Perm (A.fs.map (z1q t.f.name λf=>{ f with b:=f.b.take k,kept:=min f.kept k })) :=
     (z6p (g:=λf=>{ f with b:=f.b.take k,kept:=min f.kept k }) h1 h2).symm
    have hok':okA { A with fs:=A.fs.map (z1q t.f.name λf=>{ f with b:=f.b.take k,kept:=min f.kept k }) }:=by
     refine ⟨hok.room,by show used (A.fs.map _)<=_;omega,by show (A.fs.map _).length<=_;rw [List.length_map];exact hok.many,hok.left,z8v (z66 λ_=>rfl) hok.sorted,λf hf=>?_,λf hf=>?_⟩
     rotate_left
     ·obtain ⟨g,hg,rfl⟩:=List.mem_map.1 hf
      rw [z66 (by intro _;rfl)];exact hok.names g hg
     obtain ⟨g,hg,rfl⟩:=List.mem_map.1 hf
     have:=hok.kept g hg
     unfold z1q
     split
     ·show min g.kept k<=(g.b.take k).length;rw [List.length_take];omega
     ·exact this
    have hs:Sat _ (z1c ekS evF m (((⟨t.at_,⟨t.x.a,k,k⟩,⟨t.f.name,t.f.b.take k,min t.f.kept k⟩⟩:FileM)::FS').map λt=>(t.f.name,t.at_))::_):=(hs.pick [2]).mapPerm (hpm.map λt=>(t.f.name,t.at_))
    rw [hg] at hs
    refine z8 (zbo (l':=r) hg hok' hp' hs) λ_ _ hs=>?_
    obtain ⟨rfl,hs⟩:=hs
    refine zb ?_
    (repeat (first|with_reducible (first|refine zm ?_|refine zg ?_|refine z0k ?_|refine za hs ?_|refine zk hs ?_|refine zd ?_|refine zx hs λ_ hs=>?_|refine zq hs λ_ _ hs=>?_|refine zn hs λ_ _ hs=>?_|refine z07 hs λ_ hs=>?_|refine zr hs λ_ hs=>?_)|(apply wp_must;(focus first|trivial|omega|assumption))|refine z19 ?_|refine wp_lt ?_))
    exact ⟨rfl,rfl,hs⟩
  ·refine wp_lt ?_
   refine z0c ?_ (by rfl)
   rw [if_pos (z5y.2 (z7f hp hb))]
   exact ⟨rfl,rfl,z26 m hp hok hs⟩
end
section
variable {w:World} {l r:List HP} {d:Nat} {A:DiskA}
theorem zse {s:ByteArray} (h:z5a s=true):s.size<=24:=by
 simp only [z5a,Bool.and_eq_true,decide_eq_true_eq] at h;exact h.2.2
theorem zv8 (n:ByteArray) (fs:List FileA):(z3w n fs).length<=fs.length:=List.length_filter_le _ _
end
def z5z (n:Nat):UInt8:=if n<10 then UInt8.ofNat (48+n) else UInt8.ofNat (87+n)
def z60 (c:UInt8):Option Nat:=if 48<=c.toNat/\c.toNat<=57 then some (c.toNat-48) else if 97<=c.toNat/\c.toNat<=102 then some (c.toNat-87) else none
theorem z057 {n:Nat} (h:n<16):z60 (z5z n)=some n:=by
 unfold z5z z60
 split
 ·rw [UInt8.toNat_ofNat',if_pos (by omega)]
  congr 1;omega
 ·rw [UInt8.toNat_ofNat',if_neg (by omega),if_pos (by omega)]
  congr 1;omega
theorem z056 {c:UInt8} {n:Nat} (h:z60 c=some n):z5z n=c/\n<16:=by
 unfold z60 at h
 unfold z5z
 split at h
 ·simp only [Option.some.injEq] at h
  subst h
  rw [if_pos (by omega)]
  exact ⟨UInt8.toNat_inj.1 (by rw [UInt8.toNat_ofNat'];omega),by omega⟩
 ·split at h
  ·simp only [Option.some.injEq] at h
   subst h
   rw [if_neg (by omega)]
   exact ⟨UInt8.toNat_inj.1 (by rw [UInt8.toNat_ofNat'];omega),by omega⟩
  ·cases h
def z2x:Nat->Nat->List UInt8
 | 0,_=>[]
 | k+1,n=>z2x k (n / 16)++[z5z (n % 16)]
def z3l (x:Nat):List UInt8->Option Nat
 | []=>some x
 | c::r=>match z60 c with
  | none=>none
  | some d=>z3l (16*x+d) r
theorem z6v:∀ (k n:Nat),(z2x k n).length=k
 | 0,_=>rfl
 | k+1,n=>by unfold z2x;rw [List.length_append,z6v k];rfl
theorem zem (x:Nat) (a b:List UInt8):z3l x (a++b)=(z3l x a).bind λy=>z3l y b:=by
 induction a generalizing x with
 | nil=>rfl
 | cons c r ih =>
  rw [List.cons_append]
  cases hd:z60 c with
  | none=>simp only [z3l,hd];rfl
  | some d=>simp only [z3l,hd];exact ih _
theorem zfy:∀ (k n x:Nat),z3l x (z2x k n)=some (x*16 ^ k+n % 16 ^ k)
 | 0,n,x=>by simp [z2x,z3l,Nat.mod_one]
 | k+1,n,x=>by
  unfold z2x
  rw [zem,zfy k]
  show z3l _ [z5z (n % 16)]=_
  unfold z3l
  rw [z057 (Nat.mod_lt _ (by omega))]
  show some _=some _
  congr 1
  have h1:n % 16 ^ (k+1)=16*(n / 16 % 16 ^ k)+n % 16:=by
   rw [Nat.pow_succ,Nat.mul_comm (16 ^ k) 16,Nat.mod_mul];omega
  have h2:x*16 ^ (k+1)=16*(x*16 ^ k):=by rw [Nat.pow_succ];ac_rfl
  omega
def zu:List UInt8:=[46,108,111,103]
def z7s:List UInt8:=[46,110,101,119]
def zl (pre:ByteArray) (base:Int) (x:List UInt8):ByteArray:=⟨(bl pre++(45::(z2x 11 base.toNat++x))).toArray⟩
def z1d (pre n:ByteArray) (x:List UInt8):Option Nat :=
 if (bl n).length=(bl pre).length+1+11+x.length/\(bl n).drop ((bl pre).length+1+11)=x then z3l 0 (((bl n).drop ((bl pre).length+1)).take 11) else none
def z15 (pre:ByteArray):ByteArray:=⟨(bl pre++[45]).toArray⟩
def zkx (pre n:ByteArray) (x:List UInt8):Option Nat:=if (bl (z15 pre)).isPrefixOf (bl n) then z1d pre n x else none
theorem z7m (pre:ByteArray) (base:Int) (x:List UInt8):bl (zl pre base x)=bl pre++(45::(z2x 11 base.toNat++x)):=zfl _
theorem zgw (pre:ByteArray):bl (z15 pre)=bl pre++[45]:=zfl _
theorem z4h (pre:ByteArray) (base:Int) (x:List UInt8):(bl (z15 pre)).isPrefixOf (bl (zl pre base x))=true:=by
 rw [z7m,zgw,List.isPrefixOf_iff_prefix]
 exact ⟨z2x 11 base.toNat++x,by simp⟩
theorem zdr (pre:ByteArray) {base:Int} (h:0<=base/\base<17592186044416) (x:List UInt8):z1d pre (zl pre base x) x=some base.toNat:=by
 have hl:=z6v 11 base.toNat
 have e1:(bl (zl pre base x)).drop ((bl pre).length+1)=z2x 11 base.toNat++x:=by
  rw [z7m,<- List.drop_drop,List.drop_left]
  rfl
 have e2:(bl (zl pre base x)).drop ((bl pre).length+1+11)=x:=by
  rw [<- List.drop_drop,e1]
  exact List.drop_left' hl
 unfold z1d
 rw [e1,e2,if_pos ⟨by rw [z7m];simp [hl];omega,rfl⟩,List.take_left' hl,zfy,Nat.zero_mul,Nat.zero_add,Nat.mod_eq_of_lt (by omega)]
theorem zhw {pre n:ByteArray} {x y:List UInt8} {v:Nat} (h:z1d pre n x=some v) (hxy:x≠y):z1d pre n y=none:=by
 unfold z1d at h ⊢
 split at h
 ·rename_i h1
  rw [if_neg]
  rintro ⟨h2,h3⟩
  exact hxy (h1.2.symm.trans h3)
 ·cases h
theorem zbf (pre:ByteArray) {base:Int} (h:0<=base/\base<17592186044416) (x:List UInt8):zkx pre (zl pre base x) x=some base.toNat:=by
 unfold zkx
 rw [if_pos (z4h _ _ _),zdr pre h]
theorem zy0 {pre n:ByteArray} {x y:List UInt8} {v:Nat} (h:zkx pre n x=some v) (hxy:x≠y):zkx pre n y=none:=by
 unfold zkx at h ⊢
 split at h
 ·rename_i hp;rw [if_pos hp];exact zhw h hxy
 ·cases h
theorem zw1 {pre:ByteArray} {a b:Int} {x y:List UInt8} (ha:0<=a/\a<17592186044416) (hb:0<=b/\b<17592186044416) (h:zl pre a x=zl pre b y):a=b/\x=y:=by
 have h1:=zbf pre ha x
 rw [h] at h1
 by_cases hxy:x=y
 ·subst hxy
  rw [zbf pre hb] at h1
  simp only [Option.some.injEq] at h1
  exact ⟨by omega,rfl⟩
 ·rw [zy0 (zbf pre hb y) (λe=>hxy e.symm)] at h1
  cases h1
def z3o (pre:ByteArray):Bool:=decide (1<=pre.size/\pre.size<=8) && (bl pre).all λc=>(97<=c.toNat && c.toNat<=122) || (48<=c.toNat && c.toNat<=57)
theorem zxg {p q n:ByteArray} (hp:z3o p=true) (hq:z3o q=true) (h1:(bl (z15 p)).isPrefixOf (bl n)=true) (h2:(bl (z15 q)).isPrefixOf (bl n)=true):p=q:=by
 have key:∀ (a b:List UInt8),(∀ c ∈ a,c≠45)->(∀ c ∈ b,c≠45)->∀ s t:List UInt8,a++45::s=b++45::t->a=b:=by
  intro a
  induction a with
  | nil =>
   intro b _ hb s t h
   cases b with
   | nil=>rfl
   | cons c cs=>simp at h;exact absurd h.1.symm (hb c (List.mem_cons_self ..))
  | cons c cs ih =>
   intro b ha hb s t h
   cases b with
   | nil=>simp at h;exact absurd h.1 (ha c (List.mem_cons_self ..))
   | cons d ds =>
    simp at h
    rw [h.1,ih ds (λx hx=>ha x (List.mem_cons_of_mem _ hx)) (λx hx=>hb x (List.mem_cons_of_mem _ hx)) s t h.2]
 have no:∀ {p:ByteArray},z3o p=true->∀ c ∈ bl p,c≠45:=λ{p} hp c hc e=>by
  unfold z3o at hp
  rw [Bool.and_eq_true,List.all_eq_true] at hp
  have:=hp.2 c hc
  subst e
  revert this
  decide
 rw [List.isPrefixOf_iff_prefix,zgw] at h1 h2
 obtain ⟨s,hs⟩:=h1
 obtain ⟨t,ht⟩:=h2
 refine zc7 (key _ _ (no hp) (no hq) s t ?_)
 rw [<- ht] at hs
 simpa using hs
theorem zet:∀ (a x y:List UInt8),Op.bytesLess (a++x) (a++y)=Op.bytesLess x y
 | [],x,y=>rfl
 | c::a,x,y=>by
  rw [List.cons_append,List.cons_append,Op.bytesLess,zet a]
  simp
theorem zcs:∀ (a b x y:List UInt8),a.length=b.length->(Op.bytesLess (a++x) (b++y)=true↔Op.bytesLess a b=true\/(a=b/\Op.bytesLess x y=true))
 | [],[],x,y,_=>by simp [Op.bytesLess]
 | c::a,d::b,x,y,h=>by
  rw [List.cons_append,List.cons_append,Op.bytesLess,Op.bytesLess]
  have ih:=zcs a b x y (by simpa using h)
  simp only [Bool.or_eq_true,decide_eq_true_eq,Bool.and_eq_true,beq_iff_eq,List.cons.injEq]
  rw [ih]
  constructor
  ·rintro (h|⟨h,h2|⟨h2,h3⟩⟩)
   ·exact .inl (.inl h)
   ·exact .inl (.inr ⟨h,h2⟩)
   ·exact .inr ⟨⟨h,h2⟩,h3⟩
  ·rintro ((h|⟨h,h2⟩)|⟨⟨h,h2⟩,h3⟩)
   ·exact .inl h
   ·exact .inr ⟨h,.inl h2⟩
   ·exact .inr ⟨h,.inr ⟨h2,h3⟩⟩
theorem z035 {a b:Nat} (ha:a<16) (hb:b<16):(z5z a<z5z b)↔a<b:=by
 rw [UInt8.lt_iff_toNat_lt]
 unfold z5z
 split <;> split <;> rw [UInt8.toNat_ofNat',UInt8.toNat_ofNat'] <;> omega
theorem zii:∀ (k a b:Nat),a<16 ^ k->b<16 ^ k->(Op.bytesLess (z2x k a) (z2x k b)=true↔a<b)
 | 0,a,b,ha,hb=>by simp at ha hb;subst ha hb;simp [z2x,Op.bytesLess]
 | k+1,a,b,ha,hb=>by
  have h1:a / 16<16 ^ k:=by rw [Nat.pow_succ] at ha;omega
  have h2:b / 16<16 ^ k:=by rw [Nat.pow_succ] at hb;omega
  unfold z2x
  rw [zcs _ _ _ _ (by rw [z6v,z6v]),zii k _ _ h1 h2]
  have h3:Op.bytesLess [z5z (a % 16)] [z5z (b % 16)]=true↔a % 16<b % 16:=by
   simp only [Op.bytesLess,Bool.or_eq_true,decide_eq_true_eq,Bool.and_eq_true,Bool.false_eq_true,and_false,or_false]
   exact z035 (Nat.mod_lt _ (by omega)) (Nat.mod_lt _ (by omega))
  rw [h3]
  have h4:z2x k (a / 16)=z2x k (b / 16)->a / 16=b / 16:=λh=>by
   have e1:=zfy k (a / 16) 0
   rw [h,zfy] at e1
   simp only [Option.some.injEq] at e1
   rw [Nat.mod_eq_of_lt h1,Nat.mod_eq_of_lt h2] at e1
   omega
  constructor
  ·rintro (h|⟨h,h5⟩)
   ·omega
   ·have:=h4 h;omega
  ·intro h
   by_cases h5:a / 16=b / 16
   ·right;exact ⟨by rw [h5],by omega⟩
   ·left;omega
theorem zvy (pre:ByteArray) {a b:Int} (ha:0<=a/\a<17592186044416) (hb:0<=b/\b<17592186044416) (x:List UInt8):ltS (zl pre a x) (zl pre b x)=true↔a<b:=by
 have e:∀ s:ByteArray,ByteArray.toList s=bl s:=λs=>by rw [ByteArray.toList_eq]
 unfold ltS
 rw [e,e,z7m,z7m,zet]
 have e2:∀ y z:List UInt8,Op.bytesLess (45::y) (45::z)=Op.bytesLess y z:=zet [45]
 rw [e2,zcs _ _ _ _ (by rw [z6v,z6v]),zii 11 _ _ (by omega) (by omega),zab]
 constructor
 ·rintro (h|⟨-,h⟩)
  ·omega
  ·cases h
 ·intro h;left;omega
end Go.Dec
namespace Go.Proofs.YtgpcickgjngglaaGreat
open Go.RowKit Go.Maps Go.Sort Go.Proofs
set_option maxRecDepth 100000 in
set_option maxHeartbeats 1000000 in
theorem zxt {H:Type} (F:Fence) (n:Nat) (h10:F.fn 324) (hro:F.round=none) (hn:1<=n) (l Bm b nn:Nat) (D0:DataW H) {R:Value->Option (DataW H × List MemPlace)} (J Jx:List (List UInt8)->World->Prop)
  (hY:∀ pre x W,J pre W->pre.length<Maps.size D0->YieldAt F (n-1) Tryz.prog l #[encStr x] W λe W'=>(e=.returned (.bool true)/\J (pre++[x]) W'/\KeepsWalks W W')\/(e=.returned (.bool false)/\Jx (pre++[x]) W'))
  (W:World) (hJ:AbidesFrom W.heap.size J) (hm:W.cell? ⟨Bm,0,none⟩=some (.map (some b))) (hown:W.ownsMap Tryz.prog 9 R b nn D0) (h0:J [] W) :
  CallsIn F n Tryz.prog 324 #[.func (.yield l) #[] #[],.pointer (some ⟨Bm,0,none⟩)] W λe W'=>(∃ v,e=.returned v)/\((∃ ss:List (List UInt8),ss.Perm (strKeys D0)/\J ss W')\/(∃ pre,True/\Jx pre W')):=by
 refine callsIn_of_wp Tryz.func324 rfl h10 ?_ hro
 simp only [Tryz.ntmps324,List.size_toArray,List.length_cons,List.length_nil,Nat.reduceAdd,Nat.reduceSub,Array.replicate_succ,Array.replicate_zero,List.push_toArray,List.append_toArray,List.nil_append,List.cons_append]
 gi_wp2_with (first
  | (gi_at_range;refine wpListIn_range_own _ rfl _ 139 rfl 9 277 (string_keyed Tryz.underlying9) Tryz.underlying139 _ b nn _ rfl hown ?_;intro w0 hrg0 hg0 hs0)
  | gi_in)
 go_frame
 gi_loopw [3] (λ_ wr=>∃ (left:Lit->Bool) (cnt:Nat) (ss:List (List UInt8)),wr.ranges Tryz.prog 9 R b W.heap.size nn D0 left cnt/\ss.length+cnt<=Maps.size D0/\Collected D0 left ss/\J ss wr)
  (λ_ wr=>wr.rangeLeft b W.heap.size)
 case atStart =>
  exact ⟨_,_,[],hrg0,by simp,Collected.start D0,hJ [] W w0 none h0 hg0 (λr e=>by cases e)⟩
 case round =>
  obtain ⟨left,cnt,ss,hrg,hcs,hC,hJs⟩:=hrel
  gi_wp2_with (first
   | (gi_at_next;refine wpListIn_next_ranges _ rfl _ rfl 9 (string_keyed Tryz.underlying9) R encStr id (λkey kl hk=>by obtain ⟨x,hx,_⟩:=Maps.keyOf_str Tryz.underlying9 hk;exact ⟨x,hx⟩) (λv _ _=>⟨v,rfl⟩) b W.heap.size nn _ _ _ rfl hrg ?_ ?_)
   | gi_in)
  ·intro hc0 hl0
   gi_wp2
   go_end0
   exact ⟨⟨_,rfl⟩,.inl ⟨ss,hC.perm hown (string_keyed Tryz.underlying9) Tryz.underlying9 hl0,hJs⟩⟩
  ·intro x c kl yd yp w2 cnt2 hkey hlk hv hat hrg2 hlt hg2 hs2 hen
   obtain ⟨x',ex,rfl,_⟩:=Maps.keyOf_str Tryz.underlying9 hkey
   obtain rfl:x=x':=encStr_inj ex
   have hJ2:J ss w2:=hJ ss wr w2 (some W.heap.size) hJs hg2 (λr e=>by cases e;exact ⟨Nat.le_refl _,hrg.iter_walk⟩)
   obtain ⟨fn,tmps,assign,body,hy,hR⟩:=hY ss x w2 hJ2 (by omega)
   clear hs2
   gi_wp2
   refine hR.mono ?_
   rintro e W3 (⟨rfl,hJ3,hk3⟩|⟨rfl,hJx3⟩)
   ·gi_wp2
    have hrg3:=hrg2.of_walks hk3
    go_roundw
    case rel=>exact ⟨_,cnt2,ss++[x],hrg3,by simp;omega,hC.step hlk hat,hJ3⟩
    case measure=>rw [hrg3.left_eq,hrg.left_eq];exact hlt
   ·gi_wp2
    refine bodyPost_ret (results_none rfl _ _ _) rfl ?_
    exact ⟨⟨_,rfl⟩,.inr ⟨ss++[x],trivial,hJx3⟩⟩
theorem z03c (mb:Option Nat) (w:World) :
  Calls Tryz.prog 292 #[.map mb] w λe w'=>e=.returned (.func (.func 324) #[] #[.pointer (some ⟨w.heap.size,0,none⟩)])/\w'=w.alloc (.cells #[.map mb] 139):=by
 refine Calls.mono (Dec.zf97_calls mb (w:=w) (R:=λvs w'=>vs=[.func (.func 324) #[] #[.pointer (some ⟨w.heap.size,0,none⟩)]]/\w'=w.alloc (.cells #[.map mb] 139)) ?_) λe w' ⟨vs,he,hv,hw⟩=>⟨by rw [he,hv];rfl,hw⟩
 unfold Dec.zf97
 refine ⟨(⟨w.heap.size,0,none⟩,()),w.alloc (.cells #[.map mb] 139),?_,trivial,?_⟩
 ·simp only [Instr.box,Sem.run_bind,Dec.run_newVar,Result.andThen_ok,Sem.run_pure];rfl
 ·exact ⟨rfl,rfl,rfl⟩
def preF (p s:ByteArray):Bool:=p.toList.isPrefixOf s.toList
theorem z05t (s p:ByteArray):(decide (((ByteArray.size s:Nat):Int)>=((ByteArray.size p:Nat):Int)) && ByteArray.toList (ByteArray.extract s 0 (Int.toNat (((ByteArray.size p:Nat):Int)))) == ByteArray.toList p)=preF p s:=by
 unfold preF
 rw [Int.toNat_natCast,ByteArray.toList_eq,ByteArray.toList_eq,ByteArray.toList_eq]
 have e1:(ByteArray.extract s 0 p.size).data.toList=s.data.toList.take p.size:=by simp [ByteArray.data_extract]
 have e2:p.size=p.data.toList.length:=by simp
 rw [e1,Bool.eq_iff_iff,Bool.and_eq_true,decide_eq_true_eq,beq_iff_eq,List.isPrefixOf_iff_prefix]
 constructor
 ·rintro ⟨-,h⟩
  rw [<- h];exact List.take_prefix _ _
 ·intro h
  have hl:=h.length_le
  refine ⟨?_,?_⟩
  ·have:s.size=s.data.toList.length:=by simp
   omega
  ·rw [e2];exact (List.prefix_iff_eq_take.1 h).symm
theorem zym (s p:ByteArray) (w:World):Calls Tryz.prog 293 #[.string s,.string p] w λe w'=>e=.returned (.bool (preF p s))/\w'=w:=by
 refine Calls.mono (Dec.zf221_calls s p (w:=w) (R:=λvs w'=>vs=[.bool (preF p s)]/\w'=w) ?_) λe w' ⟨vs,he,hv,hw⟩=>⟨by rw [he,hv];rfl,hw⟩
 unfold Dec.zf221
 refine Dec.wp_callS (preF p s,()) (Dec.zf64_calls s p (R:=λvs w'=>vs=[.bool (preF p s)]/\w'=w) ?_) rfl λw' hw=>⟨trivial,?_⟩
 ·unfold Dec.zf64
  refine Dec.wp_must (λh=>?_) (Dec.wp_lt ⟨rfl,by rw [z05t],rfl⟩)
  have h:=of_decide_eq_true h
  omega
 ·exact Dec.wp_lt ⟨rfl,rfl,hw⟩
end Go.Proofs.YtgpcickgjngglaaGreat
namespace Go.Proofs.YtgpcickgjngglaaGreat
open Go.RowKit Go.Maps Go.Sort Go.Proofs Go.Shelf
attribute [local go_sem] Oper.semAt_some
def z4y (p:ByteArray) (ss:List (List UInt8)):List (List UInt8):=ss.filter λx=>preF p ⟨x.toArray⟩
theorem z03q (p:ByteArray) (pre:List (List UInt8)) {x:List UInt8} (h:preF p ⟨x.toArray⟩=true):z4y p (pre++[x])=z4y p pre++[x]:=by simp [z4y,h]
theorem zyk (p:ByteArray) (pre:List (List UInt8)) {x:List UInt8} (h:¬ preF p ⟨x.toArray⟩=true):z4y p (pre++[x])=z4y p pre:=by simp [z4y,h]
theorem z086:(Tryz.prog.info? 9).map (λi=>(i.zero,i.size,i.bytes))=some (some (.string ByteArray.empty),1,16):=by kernel_rfl
set_option maxRecDepth 100000 in
set_option maxHeartbeats 2000000 in
theorem zy3      {H : Type} (n : Nat) (hn : 3 ≤ n) (d b nn : Nat) (p : ByteArray) (w : World) (D0 : DataW H) {R : Value → Option (DataW H × List MemPlace)} (hown : w.ownsMap Tryz.prog 9 R b nn D0) (hd : d < w.heap.size)
    (hc : w.cell? ⟨d, 4, none⟩ = some (.map (some b))) (hmax : Maps.size D0 ≤ 1000) (fin : Value → World → Prop)
    (hsort : ∀ (D : Nat) (ss : List (List UInt8)) (v : Value) (W : World), w.heap.size + 2 ≤ D → ss.Perm (strKeys D0) → Boxed W (w.heap.size + 1) 108 v → W.ownsRow (w.heap.size + 1) 9 1 v (z4y  p ss).length ((z4y  p ss).map encStr) → Below w.heap.size w W →
      W.heap[D]? = some (.deferred (some [])) → CallsIn Fence.wide (n - 1) Tryz.prog 294 #[v] W fun e W' => e = .returned (.tuple #[]) ∧ W'.cell? ⟨w.heap.size + 1, 0, none⟩ = some v ∧ W'.heap[D]? = some (.deferred (some [])) ∧ fin v (W'.putObj D (.deferred none))) :
    CallsIn Fence.wide n Tryz.prog 241 #[.pointer (some ⟨d, 0, none⟩), .string p] w fun e W' => ∃ v, e = .returned v ∧ fin v W' := by
  have h1 : 1 ≤ n := by omega
  obtain ⟨i0, hi, hz0, hz1, hz2⟩ := info_parts z086 
  have hbl := hown.lt
  have hc2 : ((w.alloc (.cells #[.string p] 9)).alloc (.cells #[.slice none 0 0] 108)).cell? ⟨d, 4, none⟩ = some (.map (some b)) := by
    rw [World.cell?_alloc_past _ _ _ (by simp; omega), World.cell?_alloc_past _ _ _ hd]; exact hc
  refine callsIn_of_wp_marks Tryz.func241 rfl trivial ?_ rfl
  simp only [Tryz.ntmps241, List.size_toArray, List.length_cons, List.length_nil, Nat.reduceAdd, Nat.reduceSub, Array.replicate_succ, Array.replicate_zero, List.push_toArray, List.append_toArray, List.nil_append, List.cons_append]
  gi_wp2_with (refine ⟨trivial, ?_⟩; gi_at_call 292; refine (callsIn_wide.2 (z03c    _ _)).mono ?_; rintro e w' ⟨rfl, rfl⟩)
  have bP := Boxed.new w 9 (.string p)
  have bO := Boxed.new (w.alloc (.cells #[.string p] 9)) 108 (.slice none 0 0)
  have bM := Boxed.new ((w.alloc (.cells #[.string p] 9)).alloc (.cells #[.slice none 0 0] 108)) 139 (.map (some b))
  rw [World.size_alloc] at bO bM
  rw [World.size_alloc] at bM
  have hB0 : Below w.heap.size w (((w.alloc (.cells #[.string p] 9)).alloc (.cells #[.slice none 0 0] 108)).alloc (.cells #[.map (some b)] 139)) := (((Below.refl _ w).alloc (Nat.le_refl _) _).alloc (by simp) _).alloc (by simp; omega) _
  have hown0 : (((w.alloc (.cells #[.string p] 9)).alloc (.cells #[.slice none 0 0] 108)).alloc (.cells #[.map (some b)] 139)).ownsMap Tryz.prog 9 R b nn D0 := by
    obtain ⟨es, clock, hb, Ft, hs, hD⟩ := hown
    exact ⟨es, clock, (hB0.block b hbl).trans hb, Ft, hs, hD⟩
  have hseq : SeqStops Fence.wide (n - 1) Tryz.prog 324 #[.pointer (some ⟨w.heap.size + 1 + 1, 0, none⟩)] encStr (fun ss => ss.Perm (strKeys D0)) (fun _ => True) (Maps.size D0) (((w.alloc (.cells #[.string p] 9)).alloc (.cells #[.slice none 0 0] 108)).alloc (.cells #[.map (some b)] 139)) := fun l J Jx W hW hJ hJx hY h0 => by
    have hown' : W.ownsMap Tryz.prog 9 R b nn D0 := by
      obtain ⟨es, clock, hb, Ft, hs, hD⟩ := hown0
      exact ⟨es, clock, (hW.block b (by simp; omega)).trans hb, Ft, hs, hD⟩
    exact zxt      Fence.wide (n - 1) trivial rfl (by omega) l (w.heap.size + 1 + 1) b nn D0 J Jx hY W hJ ((hW.cell (p := ⟨w.heap.size + 1 + 1, 0, none⟩) (by simp)).trans bM.cell) hown' h0
  refine wpIn_rangeFunc_ownG rfl h1 (gf := 324) (lb := #[.pointer (some ⟨w.heap.size + 1 + 1, 0, none⟩)]) rfl trivial (enters_of Tryz.func324 (by kernel_rfl) rfl)
    (encs := fun x => #[encStr x]) (Kp := KeepsWalks) (S := fun ss => ss.Perm (strKeys D0)) (Sp := fun _ => True) (N := Maps.size D0) hseq walksK_t (fun W l o o' _ h _ hw => KeepsWalks.putObj _ h hw) (Below.refl _ _) (fun _ => rfl)
    (fun pre W => ((∃ v, Boxed W (w.heap.size + 1) 108 v ∧ W.ownsRow (w.heap.size + 1) 9 1 v (z4y  p pre).length ((z4y  p pre).map encStr) ∧ True) ∧ Boxed W w.heap.size 9 (.string p)) ∧ Below w.heap.size w W)
    (fun _ _ _ => False)
    (OwnFrom.and (OwnFrom.and (Own.from (holdsRow_own (w.heap.size + 1) (w.heap.size + 1) 108 9 1 (fun pre => (z4y  p pre).length) (fun pre => (z4y  p pre).map encStr) (fun _ _ => True)) _) (Own.from (boxed_own w.heap.size 9 (fun _ => .string p)) _)) (ownFrom_below (Nat.le_refl _) (by simp; omega)))
    (fun _ _ _ _ _ hs _ _ => hs)
    ⟨⟨⟨_, bO.alloc _, World.ownsRow_nil _ _ _ _, trivial⟩, (bP.alloc _).alloc _⟩, hB0⟩
    (fun x => { tmps := #[Value.pointer (some { block := d, off := 0 }), Value.string p, undef,
                Value.pointer (some { block := w.heap.size, off := 0 }), Value.slice none 0 0,
                Value.pointer (some { block := w.heap.size + 1, off := 0 }), encStr x,
                Value.pointer (some { block := d, off := 0 }), Value.bool false,
                Value.pointer (some { block := d, off := 0 }), Value.pointer (some { block := d, off := 0 }),
                Value.pointer (some { block := d, off := 4 }), Value.map (some b), .func (.func 324) #[] #[.pointer (some ⟨w.heap.size + 1 + 1, 0, none⟩)], encStr x, undef, undef, undef, undef, undef,
                undef, undef, undef, undef, undef], defers := [] }) ?assign ?body ?done ?stop
  case assign =>
    intro l x W K hK
    gi_wp2
    exact hK
  case body =>
    rintro l pre x W ⟨⟨⟨v, hv, hrow, -⟩, hbp⟩, hB⟩ hlt
    have hcv := hv.cell
    have hcp := hbp.cell
    have hpl : (z4y  p pre).length ≤ pre.length := List.length_filter_le _ _
    have hml : 1000 ≤ maxLen := by decide
    have hvl := hv.lt
    gi_wp2_with (first
      | (refine ⟨trivial, fun _ => by omega, ?_⟩; gi_at_call 293; refine (CallsIn.inRound l (callsIn_wide.2 (zym      ⟨x.toArray⟩ p W))).mono ?_; rintro e w' ⟨rfl, he⟩; have he := he.symm; subst he)
      | (gi_at_builtin; refine wpListIn_append_own _ rfl _ _ 108 rfl (w.heap.size + 1) 9 i0 (.string ByteArray.empty) 1 16 Tryz.underlying108 hi hz0 hz1 hz2 rfl (by decide) _ _ _ rfl (hrow.alloc _) ⟨W.heap.size, 0, none⟩ 1 1 [encStr x] rfl rfl (cell_one_new _ _ _) (by simp [Value.oneCell', encStr]) (by omega) (by omega) (by simp; omega) ?_; intro v' w1 hown' hgrow _; obtain ⟨g', cap', rfl⟩ := ownsRow_succ hown'; obtain ⟨hv1, hv2, hr2, hk2, hb2⟩ := hv.appended (by decide) hrow (by omega) (by omega) hown' hgrow; have hc1 := hv1.cell; have hf1 := hv1.frozen))
    · have hx : preF p ⟨x.toArray⟩ = true := by assumption
      exact ⟨hk2.from _, hk2.walks, ⟨⟨⟨_, hv2, by rw [z03q    p pre hx]; simpa using hr2, trivial⟩, (hb2.block w.heap.size (by omega)).trans hbp⟩, hB.trans (hb2.mono (by omega))⟩⟩
    · have hx : ¬ preF p ⟨x.toArray⟩ = true := by rename_i hx; rw [hx]; simp
      exact ⟨KeepsFrom.refl _ _, (KeepsOthers.refl _).walks, ⟨⟨⟨v, hv, by rw [zyk      p pre hx]; exact hrow, trivial⟩, hbp⟩, hB⟩⟩
  case done =>
    rintro D ys W hD hS ⟨⟨⟨v, hv, hrow, -⟩, hbp⟩, hB⟩ hK
    have hcv := hv.cell
    have hvl := hv.lt
    have hD2 : w.heap.size + 2 ≤ D := by simp at hD; omega
    gi_wp2_with (refine ⟨trivial, ?_⟩; gi_at_call 294; refine (hsort D ys v W hD2 hS hv hrow hB hK).mono ?_; rintro e w' ⟨rfl, hc1, hK1, hfin⟩)
    refine ⟨by simp, .inl ⟨_, _, rfl, run_takeDeferred hK1, ?_⟩⟩
    exact ⟨_, results_tmp rfl _ _ _, v, rfl, hfin⟩
  case stop =>
    rintro D c pre W _ _ h _
    exact h.elim
end Go.Proofs.YtgpcickgjngglaaGreat
namespace Go.Dec
open Go.Shelf Go.Proofs
def z095:Ren:=⟨fun|190=>294|125=>166|258=>326|128=>238|129=>239|302=>352|303=>353|304=>354|305=>355|306=>356|307=>357|308=>358|309=>359|310=>360|333=>370|329=>287|330=>288|334=>371|335=>372|336=>373|344=>384|n=>n,fun|31=>108|9=>9|3=>3|46=>237|0=>0|51=>342|53=>157|4=>4|183=>335|182=>334|131=>249|5=>5|218=>391|222=>394|228=>426|229=>427|n=>n,λn=>n⟩
theorem zzw:Lays.n190 P z095 where
 mixed:=by kernel_rfl
 f125:=Tryz.func166.trans (congrArg some (by kernel_rfl))
 f128:=Tryz.func238.trans (congrArg some (by kernel_rfl))
 f129:=Tryz.func239.trans (congrArg some (by kernel_rfl))
 f190:=Tryz.func294.trans (congrArg some (by kernel_rfl))
 f258:=Tryz.func326.trans (congrArg some (by kernel_rfl))
 f302:=Tryz.func352.trans (congrArg some (by kernel_rfl))
 f303:=Tryz.func353.trans (congrArg some (by kernel_rfl))
 f304:=Tryz.func354.trans (congrArg some (by kernel_rfl))
 f305:=Tryz.func355.trans (congrArg some (by kernel_rfl))
 f306:=Tryz.func356.trans (congrArg some (by kernel_rfl))
 f307:=Tryz.func357.trans (congrArg some (by kernel_rfl))
 f308:=Tryz.func358.trans (congrArg some (by kernel_rfl))
 f309:=Tryz.func359.trans (congrArg some (by kernel_rfl))
 f310:=Tryz.func360.trans (congrArg some (by kernel_rfl))
 f329:=Tryz.func287.trans (congrArg some (by kernel_rfl))
 f330:=Tryz.func288.trans (congrArg some (by kernel_rfl))
 f333:=Tryz.func370.trans (congrArg some (by kernel_rfl))
 f334:=Tryz.func371.trans (congrArg some (by kernel_rfl))
 f335:=Tryz.func372.trans (congrArg some (by kernel_rfl))
 f336:=Tryz.func373.trans (congrArg some (by kernel_rfl))
 f344:=Tryz.func384.trans (congrArg some (by kernel_rfl))
 t0:=Tryz.underlying0
 a0:=Tryz.isAgg0
 z0:=Tryz.sizeOf0
 v0:=Tryz.zeroValue0
 t3:=Tryz.underlying3
 a3:=Tryz.isAgg3
 z3:=Tryz.sizeOf3
 v3:=Tryz.zeroValue3
 t4:=Tryz.underlying4
 a4:=Tryz.isAgg4
 z4:=Tryz.sizeOf4
 v4:=Tryz.zeroValue4
 t5:=Tryz.underlying5
 a5:=Tryz.isAgg5
 z5:=Tryz.sizeOf5
 v5:=Tryz.zeroValue5
 t9:=Tryz.underlying9
 a9:=Tryz.isAgg9
 z9:=Tryz.sizeOf9
 v9:=Tryz.zeroValue9
 t31:=Tryz.underlying108
 a31:=Tryz.isAgg108
 z31:=Tryz.sizeOf108
 v31:=Tryz.zeroValue108
 t46:=Tryz.underlying237
 a46:=Tryz.isAgg237
 z46:=Tryz.sizeOf237
 v46:=Tryz.zeroValue237
 t51:=Tryz.underlying342
 a51:=Tryz.isAgg342
 z51:=Tryz.sizeOf342
 v51:=Tryz.zeroValue342
 t53:=Tryz.underlying157
 a53:=Tryz.isAgg157
 z53:=Tryz.sizeOf157
 v53:=Tryz.zeroValue157
 t131:=Tryz.underlying249
 a131:=Tryz.isAgg249
 z131:=Tryz.sizeOf249
 v131:=Tryz.zeroValue249
 t182:=Tryz.underlying334
 a182:=Tryz.isAgg334
 z182:=Tryz.sizeOf334
 v182:=Tryz.zeroValue334
 t183:=Tryz.underlying335
 a183:=Tryz.isAgg335
 z183:=Tryz.sizeOf335
 v183:=Tryz.zeroValue335
 t218:=Tryz.underlying391
 a218:=Tryz.isAgg391
 z218:=Tryz.sizeOf391
 v218:=Tryz.zeroValue391
 t222:=Tryz.underlying394
 a222:=Tryz.isAgg394
 z222:=Tryz.sizeOf394
 v222:=Tryz.zeroValue394
 t228:=Tryz.underlying426
 a228:=Tryz.isAgg426
 z228:=Tryz.sizeOf426
 v228:=Tryz.zeroValue426
 t229:=Tryz.underlying427
 a229:=Tryz.isAgg427
 z229:=Tryz.sizeOf427
 v229:=Tryz.zeroValue427
theorem zqb:∀ x y:List UInt8,Op.bytesLess x y=true↔x<y
 | [],[]=>by simp [Op.bytesLess]
 | [],y::ys=>by simp [Op.bytesLess]
 | x::xs,[]=>by simp [Op.bytesLess]
 | x::xs,y::ys=>by
  rw [Op.bytesLess,List.cons_lt_cons_iff,<- zqb xs ys]
  simp
def toK (s:ByteArray):List UInt8:=s.data.toList
def ofK (x:List UInt8):ByteArray:=⟨x.toArray⟩
theorem z05l (s:ByteArray):ofK (toK s)=s:=by unfold ofK toK;simp
theorem zkw (s:ByteArray):ByteArray.toList s=toK s:=ByteArray.toList_eq s
theorem z02t (s:ByteArray):encStr (toK s)=.string s:=by unfold encStr toK;simp
section
variable {w:World} {l:List HP}
theorem zyx {w':World} {os:Array Obj} (h:Sat w l) (he:w'.heap=w.heap++os) (h2:w'.os=w.os) (h3:w'.output=w.output):Sat w' l:=by
 refine z9f ⟨λb o hb=>?_,?_⟩ h
 ·have hb:w.heap[b]? = some o:=hb
  show w'.heap[b]? = some o
  rw [he,Array.getElem?_append_left (Array.getElem?_eq_some_iff.1 hb).1]
  exact hb
 ·show World.env' w=World.env' w'
  unfold World.env';rw [h2,h3]
theorem zjh (x:Sl) (xs:List ByteArray) (h63:xs.length<4611686018427387904) (hs:Sat w (slc T.a51 1 x (xs.flatMap z27)::l)) :
  Ret P F.a171 #[x.v] w λvs w'=>vs=[]/\∃ ys:List ByteArray,ys.Perm xs/\ys.Pairwise (λa b=>Op.bytesLess (ByteArray.toList b) (ByteArray.toList a)=false)/\Sat w' (slc T.a51 1 x (ys.flatMap z27)::l):=by
 have hl:x.len=xs.length:=hs.rd.len (enc:=z27) (λ_=>rfl) (by decide)
 obtain ⟨xa,xl,xc⟩:=x
 simp only at hl
 subst hl
 by_cases h0:xs.length=0
 ·have e:xs=[]:=List.length_eq_zero_iff.1 h0
  subst e
  refine Calls.mono (Any.slices_Sort_string_none zzw xa xc w) λe w' h=>?_
  obtain ⟨he,hw⟩:=h
  subst hw
  exact ⟨[],he,rfl,[],.refl _,.nil,hs⟩
 have hnd:=hs
 obtain ⟨p1,p2,h1,h2,hd,hA,hl⟩:=hnd
 rcases hA with ⟨ha,hl0,hc0,-⟩|⟨b,off,arr,fr,ha,hb,hlen,hle,hsz,hcs,hf⟩
 ·exact absurd hl0 h0
 have ha:xa=some ⟨b,off,none⟩:=ha
 subst ha
 have hle:xs.length<=xc:=hle
 have hsz:off+xc*1<=arr.size:=hsz
 have hP:Sat w (pt b (.cells arr T.a51 fr)::l):=⟨p1,p2,h1,h2,hd,hb,hl⟩
 have z59:=hP.get
 have hblt:b<w.heap.size:=(Array.getElem?_eq_some_iff.1 z59).1
 have henc:∀ (zs:List ByteArray) (i:Nat),(zs.flatMap z27)[i]? = (zs[i]?).map λs=>.string s:=λzs i=>by
  have:zs.flatMap z27=zs.map λs=>Value.string s:=by
   induction zs with
   | nil=>rfl
   | cons z zs ih=>rw [List.flatMap_cons,List.map_cons,ih];rfl
  rw [this,List.getElem?_map]
 have hH:Go.Sort.Holds encStr w b off (xs.map toK).toArray:=λj hj=>by
  have hj:j<xs.length:=by simpa using hj
  have h3:=hcs j (by rw [hlen];show j<xs.length*1;omega)
  rw [henc,List.getElem?_eq_getElem hj] at h3
  have h4:((xs.map toK).toArray)[j]! = toK xs[j]:=by
   rw [getElem!_pos _ j (by simpa using hj)];simp
  refine ⟨?_,?_⟩
  ·rw [h4,z02t]
   unfold World.cell?
   rw [z59]
   exact h3
  ·rw [zcl,z59]
   have:=hf (off+j) (by omega) (by show off+j<off+xc*1;omega)
   simp only [zry]
   rw [Bool.and_eq_false_iff]
   by_cases hq:fr.1<=off+j
   ·right;exact decide_eq_false λh=>this ⟨hq,h⟩
   ·left;exact decide_eq_false hq
 have hll:(xs.map toK).length=xs.length:=List.length_map ..
 have hc:=Any.slices_Sort_string zzw b off xc (xs.map toK) w hH hblt (by rw [hll];exact h63)
 rw [hll] at hc
 refine Calls.mono hc λe w' h=>?_
 obtain ⟨he,n,os,hw⟩:=h
 generalize hmq:(xs.map toK).mergeSort (λx y=>decide (x<=y))=ms at hw
 have hperm:ms.Perm (xs.map toK):=by rw [<- hmq];exact List.mergeSort_perm _ _
 have hpw:ms.Pairwise λx y=>decide (x<=y)=true:=by
  rw [<- hmq]
  refine List.pairwise_mergeSort (λa b c h1 h2=>?_) (λa b=>?_) _
  ·simp only [decide_eq_true_eq] at *;exact List.le_trans h1 h2
  ·simp only [Bool.or_eq_true,decide_eq_true_eq];exact List.le_total a b
 have hml:ms.length=xs.length:=by rw [hperm.length_eq,hll]
 have hofK:(xs.map toK).map ofK=xs:=by
  rw [List.map_map]
  conv=>rhs;rw [<- List.map_id xs]
  exact List.map_congr_left λs _=>z05l s
 refine ⟨[],he,rfl,ms.map ofK,?_,?_,?_⟩
 ·have:=hperm.map ofK
  rwa [hofK] at this
 ·rw [List.pairwise_map]
  refine hpw.imp λ{a c} h=>?_
  have h:a<=c:=of_decide_eq_true h
  rw [zkw,zkw]
  have e:∀ z,toK (ofK z)=z:=λz=>by unfold toK ofK;simp
  rw [e,e]
  cases hq:Op.bytesLess c a with
  | false=>rfl
  | true=>exact absurd h (List.not_le.2 ((zqb c a).1 hq))
 ·have hset:=hP.set (o':=.cells (Go.Sort.putCells encStr off ms.toArray arr) T.a51 fr)
  have hheap:w'.heap=(z30 w b (.cells (Go.Sort.putCells encStr off ms.toArray arr) T.a51 fr)).heap++os:=by
   rw [hw]
   show (w.heap.modify b (Go.Sort.onCells _))++os=w.heap.setIfInBounds b _++os
   congr 1
   apply Array.ext_getElem?
   intro i
   rw [Array.getElem?_modify,Array.getElem?_setIfInBounds]
   by_cases hib:b=i
   ·subst hib
    rw [if_pos rfl,if_pos rfl,z59,if_pos hblt]
    rfl
   ·rw [if_neg hib,if_neg hib]
  have hs2:=zyx hset hheap (by rw [hw];rfl) (by rw [hw];rfl)
  refine hs2.imp λq hq=>.inr ⟨b,off,_,fr,rfl,hq,?_,hle,?_,λi hi=>?_,hf⟩
  ·show ((ms.map ofK).flatMap z27).length=xs.length*1
   have:∀ zs:List ByteArray,(zs.flatMap z27).length=zs.length:=λzs=>by
    induction zs with
    | nil=>rfl
    | cons z zs ih=>rw [List.flatMap_cons,List.length_append,ih];simp [z27];omega
   rw [this,List.length_map,hml];omega
  ·show off+xc*1<=(Go.Sort.putCells encStr off ms.toArray arr).size
   unfold Go.Sort.putCells
   rw [Array.size_mapIdx];exact hsz
  ·have him:i<ms.length:=by
    have:∀ zs:List ByteArray,(zs.flatMap z27).length=zs.length:=λzs=>by
     induction zs with
     | nil=>rfl
     | cons z zs ih=>rw [List.flatMap_cons,List.length_append,ih];simp [z27];omega
    rw [this,List.length_map] at hi;exact hi
   rw [henc,List.getElem?_map,List.getElem?_eq_getElem him]
   unfold Go.Sort.putCells
   rw [Array.getElem?_mapIdx]
   have ha2:off+i<arr.size:=by omega
   rw [Array.getElem?_eq_getElem ha2]
   simp only [Option.map_some]
   rw [if_pos ⟨by omega,by rw [List.size_toArray];omega⟩]
   congr 1
   rw [Nat.add_sub_cancel_left,getElem!_pos _ i (by simpa using him)]
   simp [encStr,ofK]
end
open Go.Proofs Go.Proofs.YtgpcickgjngglaaGreat
def z0y (p:ByteArray) (fs:List FileA):List ByteArray:=(fs.map (·.name)).filter (preF p)
def zde (W:World) (X:Nat->Bool):PH:=⟨λb=>if X b then W.heap[b]? else none,World.env' W⟩
section
variable {w W:World} {l:List HP} {X:Nat->Bool}
theorem zyw (hs:Sat w l) (hB:RowKit.Below w.heap.size w W):z6y l (zde W λb=>decide (b<w.heap.size)):=by
 refine z9f ⟨λb o h=>?_,?_⟩ hs
 ·have h:w.heap[b]? = some o:=h
  have hlt:b<w.heap.size:=(Array.getElem?_eq_some_iff.1 h).1
  show (if decide (b<w.heap.size)=true then W.heap[b]? else none)=some o
  rw [if_pos (decide_eq_true hlt),hB.block b hlt,h]
 ·show World.env' w=World.env' W
  unfold World.env'
  rw [hB.os,hB.output]
theorem zez {b:Nat} {o:Obj} (hs:z6y l (zde W X)) (hX:X b=false) (hb:W.heap[b]? = some o):z6y (pt b o::l) (zde W λc=>X c || decide (c=b)):=by
 refine ⟨⟨λc=>if c=b then some o else none,World.env' W⟩,zde W X,⟨λc u h=>?_,rfl⟩,⟨λc u h=>?_,rfl⟩,λc=>?_,by simp [pt],hs⟩
 ·simp only at h
  split at h
  ·rename_i hc;subst hc
   obtain rfl:=Option.some.inj h
   show (if (X c || decide (c=c))=true then W.heap[c]? else none)=some o
   rw [if_pos (by simp),hb]
  ·cases h
 ·have h:(if X c=true then W.heap[c]? else none)=some u:=h
  split at h
  ·rename_i hc
   show (if (X c || decide (c=b))=true then W.heap[c]? else none)=some u
   rw [if_pos (by rw [hc];rfl),h]
  ·cases h
 ·by_cases hc:c=b
  ·subst hc;right
   show (if X c=true then W.heap[c]? else none)=none
   rw [if_neg (by rw [hX];simp)]
  ·left;simp [hc]
theorem zj1 (hs:z6y l (zde W X)):Sat W l:=by
 refine z9f (p:=zde W X) ⟨λb o h=>?_,rfl⟩ hs
 have h:(if X b=true then W.heap[b]? else none)=some o:=h
 split at h
 ·exact h
 ·cases h
end
theorem zc2:∀ {a b:List ByteArray},a.Perm b->(a.Pairwise λx y=>ltS y x=false)->(b.Pairwise λx y=>ltS x y=true)->a=b
 | a,[],hp,_,_=>hp.eq_nil
 | [],y::b,hp,_,_=>absurd hp.symm.eq_nil (by simp)
 | x::a,y::b,hp,ha,hb=>by
  rw [List.pairwise_cons] at ha hb
  have hxy:x=y:=by
   by_cases h:x=y
   ·exact h
   ·have hx:x ∈ b:=(List.mem_cons.1 (hp.mem_iff.1 (List.mem_cons_self ..))).resolve_left h
    have hy:y ∈ a:=(List.mem_cons.1 (hp.mem_iff.2 (List.mem_cons_self ..))).resolve_left (λe=>h e.symm)
    have h1:=hb.1 x hx
    rw [ha.1 y hy] at h1;cases h1
  subst hxy
  rw [zc2 (List.Perm.cons_inv hp) ha.2 hb.2]
def z47 (x:List UInt8):ByteArray:=⟨x.toArray⟩
theorem zvh (xs:List ByteArray):xs.flatMap z27=xs.map Value.string:=by
 induction xs with
 | nil=>rfl
 | cons x r ih=>rw [List.flatMap_cons,ih];rfl
theorem zhd {fs:List FileA} (h:fs.Pairwise λa b=>ltS a.name b.name=true) (p:ByteArray):(z0y p fs).Pairwise λx y=>ltS x y=true:=by
 unfold z0y
 refine List.Pairwise.filter _ ?_
 rw [List.pairwise_map];exact h
theorem z03k {w:World} {m:Nat} {es:List (ByteArray × Nat)} {l:List HP} (hs:Sat w (z1c ekS evF m es::l)) (hlen:es.length<=1000) (hn:∀ x ∈ es,x.1.size<=24) :
  ∃ D0:DataW Unit,w.ownsMap Tryz.prog 9 (λ_=>some (.lit (.bool true),[])) m 1000 D0/\Maps.size D0<=1000/\((strKeys D0).map z47).Perm (es.map Prod.fst):=by
 obtain ⟨E,c,hm,hs⟩:=hs.mapOpen
 have hsz:=hm.size
 obtain ⟨xs,h1,h2,h3,h4,h5⟩:=hm
 have hE:E.size<=1000:=by omega
 have hml:1000<=maxLen:=by decide
 have hkeys:∀ e ∈ E.toList,∃ x ∈ xs,e.key=.string x.1:=λe he=>by
  have:(e.key,e.val) ∈ E.toList.map (λe=>(e.key,e.val)):=List.mem_map.2 ⟨e,he,rfl⟩
  rw [h3] at this
  obtain ⟨x,hx,hxe⟩:=List.mem_map.1 this
  exact ⟨x,hx,(Prod.mk.inj hxe).1.symm⟩
 have hrd:∀ e ∈ E.toList,∀ s,e.key=.string s->WideElems.rd (H:=Unit) Tryz.prog 9 (λ_=>some (.lit (.bool true),[])) e=some (.string s.data.toList,.lit (.bool true)):=λe he s hk=>by
  obtain ⟨x,hx,hxe⟩:=hkeys e he
  rw [hk] at hxe
  obtain rfl:s=x.1:=by cases hxe;rfl
  have h24:=hn x (h1.mem_iff.1 hx)
  have:keyOf Tryz.prog 9 (.string x.1)=some (.string x.1.data.toList):=WideMaps.keyOf_string_mk (by kernel_rfl) (by omega)
  unfold WideElems.rd
  rw [hk,this];rfl
 refine ⟨.map ((E.toList.map (WideElems.rg Tryz.prog 9 λ_=>some (.lit (.bool true),[]))).foldr DataW.insert []),⟨E,c,hs.get,⟨by omega,⟨h5,?_,?_⟩,λe he=>?_⟩,hE,rfl⟩,?_,?_⟩
 ·rw [List.Nodup,List.pairwise_map]
  exact h4.imp λh=>Nat.ne_of_lt h
 ·have hk:E.toList.map (·.key)=xs.map λx=>Value.string x.1:=by
   have:=congrArg (List.map Prod.fst) h3
   rw [List.map_map,List.map_map] at this
   exact this
  rw [hk,List.Nodup,List.pairwise_map]
  rw [List.Nodup,List.pairwise_map] at h2
  exact h2.imp λh e=>h (Value.string.inj e)
 ·obtain ⟨x,hx,hxe⟩:=hkeys e he
  exact ⟨_,hrd e he x.1 hxe⟩
 ·show ((E.toList.map _).foldr DataW.insert []).length<=1000
  rw [length_sorted,List.length_map,Array.length_toList];exact hE
 ·have hp:=(WideShapes.sorted_perm (E.toList.map (WideElems.rg (H:=Unit) Tryz.prog 9 λ_=>some (.lit (.bool true),[])))).map (λp:Lit × DataW Unit=>z47 (Go.strOf p.1))
  have e1:(strKeys (DataW.map ((E.toList.map (WideElems.rg (H:=Unit) Tryz.prog 9 λ_=>some (.lit (.bool true),[]))).foldr DataW.insert []))).map z47=((E.toList.map (WideElems.rg (H:=Unit) Tryz.prog 9 λ_=>some (.lit (.bool true),[]))).foldr DataW.insert []).map (λp:Lit × DataW Unit=>z47 (Go.strOf p.1)):=by
   simp only [strKeys,List.map_map];rfl
  rw [e1]
  refine hp.trans ?_
  rw [List.map_map]
  have e2:E.toList.map ((λp:Lit × DataW Unit=>z47 (Go.strOf p.1))∘WideElems.rg Tryz.prog 9 λ_=>some (.lit (.bool true),[]))=xs.map Prod.fst:=by
   have h6:E.toList.map (λe=>match e.key with | .string s=>s|_=>⟨#[]⟩)=xs.map Prod.fst:=by
    have:=congrArg (List.map λx:Value × Value=>match x.1 with | .string s=>s|_=>⟨#[]⟩) h3
    rw [List.map_map,List.map_map] at this
    exact this
   rw [<- h6]
   refine List.map_congr_left λe he=>?_
   obtain ⟨x,hx,hxe⟩:=hkeys e he
   show z47 (Go.strOf (WideElems.rg (H:=Unit) Tryz.prog 9 (λ_=>some (.lit (.bool true),[])) e).1)=_
   rw [WideElems.rg_of (hrd e he x.1 hxe),hxe]
   show z47 x.1.data.toList=x.1
   exact zuw rfl
  rw [e2]
  exact h1.map _
section
variable {w:World} {l r:List HP} {d:Nat} {A:DiskA}
theorem zqh (p:ByteArray) [hf:Fo l dk d A r] (hs:Sat w l):Ret P F.a38 #[.pointer (some ⟨d,0,none⟩),.string p] w λvs w'=>∃ x:Sl,vs=[x.v]/\Sat w' (slc T.a51 1 x ((z0y p A.fs).flatMap z27)::dk d A::r):=by
 have hs0:=hs.perm hf.perm
 obtain ⟨m,FS,hp,hok,hs1⟩:=z24 hs0
 have hkv:(FS.map λt=>(t.f.name,t.at_)).map Prod.fst=(FS.map FileM.f).map (·.name):=by rw [List.map_map,List.map_map];rfl
 have hlen:(FS.map λt=>(t.f.name,t.at_)).length<=1000:=by
  have:=hp.length_eq;have:=hok.many;simp at *;omega
 obtain ⟨D0,hown,hsz,hkeys⟩:=z03k (hs1.pick [1]) hlen λx hx=>by
  obtain ⟨t,ht,rfl⟩:=List.mem_map.1 hx
  exact hok.names _ (hp.mem_iff.1 (List.mem_map.2 ⟨t,ht,rfl⟩))
 rw [hkv] at hkeys
 have hkeys:=hkeys.trans (hp.map (·.name))
 have hb:=hs1.get
 have hd:d<w.heap.size:=(Array.getElem?_eq_some_iff.1 hb).1
 have hc:w.cell? ⟨d,4,none⟩=some (.map (some m)):=by rw [z4u hb];rfl
 have hfin:=callsIn_wide.1 (zy3 (n:=3) (Nat.le_refl _) d m 1000 p w D0 hown hd hc hsz (λv W=>∃ x:Sl,v=x.v/\Sat W (slc T.a51 1 x ((z0y p A.fs).flatMap z27)::dk d A::r)) ?_)
 ·exact Calls.mono hfin λe w' ⟨v,he,x,hv,hs⟩=>⟨[x.v],by rw [he,hv];rfl,x,rfl,hs⟩
 intro D ss v W hD hS hbox hrow hB hK
 have hsR:=zyw hs0 hB
 have hsR:=zez hsR (b:=w.heap.size+1) (by simp) hbox
 have hDB:D≠w.heap.size+1:=by omega
 have hsR:=zez hsR (b:=D) (by simp;omega) hK
 have hpS:((z4y p ss).map z47).Perm (z0y p A.fs):=by
  have h1:=((hS.map z47).trans hkeys).filter (preF p)
  rw [List.filter_map] at h1
  exact h1
 have hflat:((z4y p ss).map z47).flatMap z27=(z4y p ss).map encStr:=by
  rw [zvh,List.map_map];rfl
 have hlen2:((z4y p ss).map z47).length<576460752303423488:=by
  rw [hpS.length_eq]
  have h1:(z0y p A.fs).length<=A.fs.length:=by unfold z0y;exact Nat.le_trans (List.length_filter_le _ _) (by simp)
  have:=hok.many
  omega
 obtain ⟨x,rfl,hsx⟩:∃ x:Sl,v=x.v/\Sat W (slc T.a51 1 x (((z4y p ss).map z47).flatMap z27)::pt D (.deferred (some []))::pt (w.heap.size+1) (.cells #[v] 108)::dk d A::r):=by
  rw [hflat]
  obtain ⟨hxl,h|⟨g,cap,cur,rfl,hg,hgb,hcap,-,hcur,htk⟩⟩:=hrow
  ·obtain ⟨rfl,hn0⟩:=h
   have:z4y p ss=[]:=List.length_eq_zero_iff.1 hn0
   rw [this]
   exact ⟨⟨none,0,0⟩,rfl,(zj1 hsR).slc_nil⟩
  ·have hgB:g≠w.heap.size+1:=λe=>by
    subst e
    have hbox:W.heap[w.heap.size+1]? = some (.cells #[_] 108 (0,0)):=hbox
    rw [hbox] at hgb
    cases hgb
   have hgD:g≠D:=λe=>by subst e;rw [hK] at hgb;cases hgb
   have hsR:=zj1 (zez hsR (b:=g) (by simp;omega) hgb)
   refine ⟨⟨some ⟨g,0,none⟩,(z4y p ss).length,cap⟩,rfl,hsR.imp λq hq=>.inr ⟨g,0,cur,(0,0),rfl,hq,by simp,hcap,by simp [hcur],λi hi=>?_,z2i _ _⟩⟩
   rw [<- htk,List.length_take] at hi
   rw [<- htk,Nat.zero_add,List.getElem?_take,if_pos (by omega)]
   simp
 refine callsIn_wide.2 (Calls.mono (zjh x _ (Nat.lt_trans hlen2 (by omega)) hsx) ?_)
 rintro e w' ⟨vs,rfl,rfl,ys,hys,hso,hs'⟩
 have hB1:=(hs'.pick [2]).get
 have hD1:=(hs'.pick [1]).get
 refine ⟨rfl,by rw [z4u hB1];rfl,hD1,x,rfl,?_⟩
 have hset:Sat (z30 w' D (.deferred none)) _:=(hs'.pick [1]).set (o':=.deferred none)
 rw [zc2 (hys.trans hpS) hso (zhd hok.sorted p)] at hset
 exact hset.sub
end
end Go.Dec
