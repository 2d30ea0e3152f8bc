/- What the claim of this folder leans on: our own texts, joined, without what it does not use. -/
import Derived.Test.YtfnldnodhfkojaaGreatRows
import Derived.WalkKit
import Derived.ProofKit
import Derived.OpenShut
import Derived.RowKit3
import Derived.OrdersHeld
import Derived.Scope
import Derived.KernelRfl
import Derived.Laws.Sem
import Derived.Laws.StructEq
import Derived.Deep.AppendSrc
import Derived.Laws.BytesArg
import Derived.Laws.RangeString
import Derived.Maps.RangeRun
import Derived.Lib.ConvBytes
import Derived.Lib.SlBytesConst
import Derived.ChangeSlices
import Derived.ChangeMaps5
import Derived.ChangeSame
import Derived.Deep.Slices
import Derived.Deep.Fields
import Derived.Test.YtfnldnodhfkojaaGreatProg
import Derived.Laws.MakeOwn
import Derived.Sort.MapsRangeIn
import Derived.Sort.KeysCollected
import Derived.RangeFuncNested
import Derived.RangeFuncBound
import Derived.RangeFuncCalls
import Derived.RangeFuncLeaves
import Derived.RangeFuncBox
import Derived.OwnWalkIn
import Derived.TacticsInMore
import Derived.RegionIn
import Derived.LoopNIn
import Derived.LoopIn
import Derived.Maps.AppendAt
import Derived.Shelf.Abstract
import Derived.Test.YtfnldnodhfkojaaGreatQReads1
import Derived.Test.YtfnldnodhfkojaaGreatQReads2
import Derived.Test.YtfnldnodhfkojaaGreatQReads3
set_option linter.unusedVariables false
set_option linter.unusedSimpArgs false
namespace Go.Dec
abbrev Lf:=Option (List UInt8)
def uintS:Lf→Nat × Lf
 | none=>(0,none)
 | some bs=>match numR 0 bs with
  | none=>(0,none)
  | some p=>(p.1,some (bs.drop p.2))
def withinS (lo hi:Int) (s:Lf):Int × Lf:=match (uintS s).2 with
 | none=>(0,none)
 | some t=>if zag (uintS s).1<lo∨zag (uintS s).1>hi then (0,none) else (zag (uintS s).1,some t)
def byteS:Lf→Nat × Lf
 | some (c::t)=>(c.toNat,some t)
 | _=>(0,none)
def flagS:Lf→Bool × Lf
 | some (c::t)=>if c.toNat≤1 then (decide (c.toNat=1),some t) else (false,none)
 | _=>(false,none)
def textS (most:Nat) (s:Lf):ByteArray × Lf:=match (uintS s).2 with
 | none=>(⟨#[]⟩,none)
 | some t=>if (uintS s).1≤most∧(uintS s).1≤t.length then (⟨(t.take (uintS s).1).toArray⟩,some (t.drop (uintS s).1)) else (⟨#[]⟩,none)
def uptoS (most:Int) (s:Lf):Int × Lf:=(if ((uintS s).1:Int)>most then most+1 else (uintS s).1,(uintS s).2)
abbrev bl (s:ByteArray):List UInt8:=s.data.toList
theorem uintS_tell {v:Nat} (h:v<18446744073709551616) (t:List UInt8):uintS (some (uintL v++t))=(v,some t):=by
 unfold uintS
 simp only [num_uintL h,List.drop_left]
theorem uintS_inv {s:Lf} {t:List UInt8} (h:(uintS s).2=some t):(uintS s).1<18446744073709551616∧s=some (uintL (uintS s).1++t):=by
 cases s with
 | none=>cases h
 | some bs =>
  cases hn:numR 0 bs with
  | none =>
   have e:uintS (some bs)=(0,none):=by unfold uintS;simp only [hn]
   rw [e] at h;cases h
  | some p =>
   obtain ⟨v,k⟩:=p
   have e:uintS (some bs)=(v,some (bs.drop k)):=by unfold uintS;simp only [hn]
   rw [e] at h ⊢
   obtain ⟨h1,h2⟩:=num_invL hn
   simp only [Option.some.injEq] at h ⊢
   subst h
   exact ⟨h2,by rw [← h1,List.take_append_drop]⟩
theorem withinS_tell {lo hi n:Int} (h1:lo≤n) (h2:n≤hi) (hn : -9223372036854775808≤n∧n<9223372036854775808) (t:List UInt8):withinS lo hi (some (sintL n++t))=(n,some t):=by
 unfold withinS sintL
 simp only [uintS_tell (zig_lt hn),zag_zig]
 rw [if_neg (by omega)]
theorem withinS_inv {lo hi:Int} {s:Lf} {t:List UInt8} (h:(withinS lo hi s).2=some t):(lo≤(withinS lo hi s).1∧(withinS lo hi s).1≤hi)∧s=some (sintL (withinS lo hi s).1++t):=by
 unfold withinS at h ⊢
 cases hu:(uintS s).2 with
 | none=>rw [hu] at h;cases h
 | some t' =>
  have h2:=uintS_inv hu
  rw [hu] at h
  simp only at h ⊢
  split at h
  ·cases h
  rename_i h3
  simp only [Option.some.injEq] at h
  subst h
  rw [if_neg h3]
  refine ⟨by omega,?_⟩
  unfold sintL
  rw [zig_zag]
  exact h2.2
theorem byteS_inv {s:Lf} {t:List UInt8} (h:(byteS s).2=some t):(byteS s).1<256∧s=some (UInt8.ofNat (byteS s).1::t):=by
 match s,h with
 | some (c::r),h =>
  have h:some r=some t:=h
  cases h
  refine ⟨c.toNat_lt,?_⟩
  show some (c::t)=some (UInt8.ofNat c.toNat::t)
  rw [UInt8.ofNat_toNat]
 | some [],h=>cases h
 | none,h=>cases h
def flagB (b:Bool):UInt8:=if b then 1 else 0
theorem flagS_tell (b:Bool) (t:List UInt8):flagS (some (flagB b::t))=(b,some t):=by
 cases b <;> rfl
theorem flagS_inv {s:Lf} {t:List UInt8} (h:(flagS s).2=some t):s=some (flagB (flagS s).1::t):=by
 match s,h with
 | some (c::r),h =>
  unfold flagS at h ⊢
  simp only at h ⊢
  split at h
  ·rename_i h1
   simp only [Option.some.injEq] at h
   subst h
   rw [if_pos h1]
   congr 2
   by_cases h2:c.toNat=1
   ·rw [decide_eq_true h2];exact UInt8.toNat_inj.1 h2
   ·rw [decide_eq_false h2];exact UInt8.toNat_inj.1 (by show c.toNat=0;omega)
  ·cases h
 | some [],h=>cases h
 | none,h=>cases h
theorem size_bl (s:ByteArray):(bl s).length=s.size:=rfl
theorem bl_mk (l:List UInt8):bl ⟨l.toArray⟩=l:=by simp [bl]
theorem bl_ext {a b:ByteArray} (h:bl a=bl b):a=b:=by
 cases a;cases b;exact congrArg ByteArray.mk (Array.ext' h)
theorem textS_tell {most:Nat} (x:ByteArray) (h:x.size≤most) (hm:most<4294967296) (t:List UInt8):textS most (some (uI x.size++(bl x++t)))=(x,some t):=by
 unfold textS uI
 have e:((x.size:Int)).toNat=x.size:=by omega
 rw [e]
 simp only [uintS_tell (show x.size<18446744073709551616 by omega)]
 rw [if_pos ⟨h,by rw [List.length_append,size_bl];omega⟩,← size_bl,List.take_left,List.drop_left]
theorem textS_inv {most:Nat} {s:Lf} {t:List UInt8} (h:(textS most s).2=some t):(textS most s).1.size≤most∧s=some (uI (textS most s).1.size++(bl (textS most s).1++t)):=by
 unfold textS at h ⊢
 cases hu:(uintS s).2 with
 | none=>rw [hu] at h;cases h
 | some t' =>
  have h2:=uintS_inv hu
  rw [hu] at h
  simp only at h ⊢
  split at h
  rotate_left
  ·cases h
  rename_i h3
  simp only [Option.some.injEq] at h
  subst h
  rw [if_pos h3]
  have e:(ByteArray.mk (t'.take (uintS s).1).toArray).size=(uintS s).1:=by
   show (t'.take (uintS s).1).length=_
   rw [List.length_take];omega
  refine ⟨by rw [e];exact h3.1,?_⟩
  rw [e,bl_mk,List.take_append_drop]
  unfold uI
  exact h2.2
theorem uptoS_tell {most n:Int} (h0:0≤n) (hn:n≤most) (hm:most<9223372036854775808) (t:List UInt8):uptoS most (some (uI n++t))=(n,some t):=by
 unfold uptoS uI
 rw [uintS_tell (by omega),if_neg (by simp only;omega)]
 congr 1
 simp only;omega
theorem uptoS_inv {most:Int} (hm:0≤most) {s:Lf} {t:List UInt8} (h:(uptoS most s).2=some t):(0≤(uptoS most s).1∧(uptoS most s).1≤most+1)∧((uptoS most s).1≤most→s=some (uI (uptoS most s).1++t)):=by
 have h2:=uintS_inv (show (uintS s).2=some t from h)
 unfold uptoS
 simp only
 split
 ·exact ⟨⟨by omega,by omega⟩,fun h3=>absurd h3 (by omega)⟩
 ·refine ⟨⟨by omega,by omega⟩,fun h3=>?_⟩
  unfold uI
  rw [Int.toNat_natCast]
  exact h2.2
def alikeL:List UInt8→List UInt8→Nat
 | a::x,b::y=>if a=b then alikeL x y+1 else 0
 | _,_=>0
theorem alikeL_le:∀ x y:List UInt8,alikeL x y≤x.length∧alikeL x y≤y.length
 | [],_=>by simp [alikeL]
 | _::_,[]=>by simp [alikeL]
 | a::x,b::y=>by
  have:=alikeL_le x y
  unfold alikeL
  split <;> simp <;> omega
theorem alikeL_take:∀ x y:List UInt8,x.take (alikeL x y)=y.take (alikeL x y)
 | [],_=>by simp [alikeL]
 | _::_,[]=>by simp [alikeL]
 | a::x,b::y=>by
  unfold alikeL
  split
  ·rename_i h
   rw [List.take_succ_cons,List.take_succ_cons,h,alikeL_take x y]
  ·rfl
theorem alikeL_eq:∀ {x y:List UInt8} {i:Nat} (h1:i≤x.length) (h2:i≤y.length),x.take i=y.take i→(i=x.length∨i=y.length∨x[i]? ≠ y[i]?)→alikeL x y=i
 | [],y,i,h1,h2,_,_=>by simp at h1;simp [alikeL,h1]
 | _::_,[],i,h1,h2,_,_=>by simp at h2;simp [alikeL,h2]
 | a::x,b::y,0,_,_,_,h=>by
  unfold alikeL
  rw [if_neg]
  rintro rfl
  rcases h with h|h|h
  ·simp at h
  ·simp at h
  ·simp at h
 | a::x,b::y,i+1,h1,h2,ht,h=>by
  rw [List.take_succ_cons,List.take_succ_cons,List.cons.injEq] at ht
  unfold alikeL
  rw [if_pos ht.1,alikeL_eq (by simpa using h1) (by simpa using h2) ht.2]
  rcases h with h|h|h
  ·left;simpa using h
  ·right;left;simpa using h
  ·right;right;simpa using h
def tailL (ahead key:ByteArray):List UInt8:=uI (key.size-alikeL (bl ahead) (bl key):Nat)++(bl key).drop (alikeL (bl ahead) (bl key))
def recL (time:Int) (ahead:ByteArray) (r:RecM):List UInt8 :=
 sintL (r.time-time)++(flagB r.gone::(uI (alikeL (bl ahead) (bl r.key):Nat)++(tailL ahead r.key++if r.gone then [] else uI r.value.size++bl r.value)))
def recsL (time:Int):ByteArray→List RecM→List UInt8
 | _,[]=>[]
 | ahead,r::rs=>recL time ahead r++recsL time r.key rs
def batL (b:BatM):List UInt8 :=
 1::UInt8.ofNat b.kind.toNat::(uI b.base++(uI b.pid++((if b.pid>0 then uI b.epoch++(if markB b then [] else uI b.seq) else [])++(uI b.time++if markB b then [] else uI b.rs.length++recsL b.time ⟨#[]⟩ b.rs))))
def BatM.p (b:BatM):BatM:={ b with x:=⟨none,0,0⟩ }
def keyS (ahead:ByteArray) (n:Int) (rest:ByteArray):ByteArray:=ahead.extract 0 n.toNat++rest
def readS (time:Int) (ahead:ByteArray) (s:Lf):Option RecM × Lf :=
 if (uptoS 1024 (flagS (withinS (-1099511627776) 1099511627776 s).2).2).1>ahead.size then (none,(textS 1024 (uptoS 1024 (flagS (withinS (-1099511627776) 1099511627776 s).2).2).2).2) else
 let a:=withinS (-1099511627776) 1099511627776 s
 let b:=flagS a.2
 let c:=uptoS 1024 b.2
 let d:=textS 1024 c.2
 let e:=if b.1 then (⟨#[]⟩,d.2) else textS 1024 d.2
 if e.2.isSome=true∧(alikeL (bl ahead) (bl (keyS ahead c.1 d.1)):Int)=c.1 then (some ⟨keyS ahead c.1 d.1,e.1,b.1,time+a.1⟩,e.2) else (none,e.2)
def recsS (time:Int):Nat→ByteArray→Lf→Option (List RecM × Lf)
 | 0,_,s=>some ([],s)
 | n+1,ahead,s=>match (readS time ahead s).1 with
  | none=>none
  | some x=>(recsS time n x.key (readS time ahead s).2).map fun q=>(x::q.1,q.2)
theorem bl_keyS (ahead rest:ByteArray) (n:Int):bl (keyS ahead n rest)=(bl ahead).take n.toNat++bl rest:=by
 unfold keyS bl
 simp [List.extract_eq_take_drop]
theorem keyS_tell (ahead key:ByteArray):keyS ahead (alikeL (bl ahead) (bl key):Nat) ⟨((bl key).drop (alikeL (bl ahead) (bl key))).toArray⟩=key:=by
 apply bl_ext
 rw [bl_keyS,bl_mk,Int.toNat_natCast,alikeL_take,List.take_append_drop]
theorem recF_zero {r:RecM} (h:recF r=0):r.key.size≤1024∧r.value.size≤1024∧(0≤r.time∧r.time≤1099511627776)∧(r.gone=true→r.value=⟨#[]⟩):=by
 unfold recF at h
 split at h
 ·cases h
 rename_i h1
 split at h
 ·cases h
 rename_i h2
 refine ⟨by omega,by omega,by omega,fun hg=>?_⟩
 apply Decidable.byContradiction
 intro h3
 exact h2 (.inr ⟨hg,size_pos.2 h3⟩)
theorem readS_tell {time:Int} (ht:0≤time∧time≤1099511627776) {r:RecM} (hr:recF r=0) (ahead:ByteArray) (t:List UInt8):readS time ahead (some (recL time ahead r++t))=(some r,some t):=by
 obtain ⟨h1,h2,h3,h4⟩:=recF_zero hr
 have hle:=alikeL_le (bl ahead) (bl r.key)
 rw [size_bl,size_bl] at hle
 have hd:(ByteArray.mk ((bl r.key).drop (alikeL (bl ahead) (bl r.key))).toArray).size=r.key.size-alikeL (bl ahead) (bl r.key):=by
  show ((bl r.key).drop _).length=_
  rw [List.length_drop,size_bl]
 have e0:recL time ahead r++t=sintL (r.time-time)++(flagB r.gone::(uI (alikeL (bl ahead) (bl r.key):Nat)++(uI ((ByteArray.mk ((bl r.key).drop (alikeL (bl ahead) (bl r.key))).toArray).size:Nat)++(bl (ByteArray.mk ((bl r.key).drop (alikeL (bl ahead) (bl r.key))).toArray)++((if r.gone then [] else uI r.value.size++bl r.value)++t))))):=by
  rw [hd,bl_mk]
  unfold recL tailL
  simp only [List.append_assoc,List.cons_append]
 rw [e0]
 generalize hZ:(if r.gone then [] else uI r.value.size++bl r.value)++t=Z
 have e1:=withinS_tell (lo := -1099511627776) (hi:=1099511627776) (n:=r.time-time) (by omega) (by omega) (by omega)
 have e3:=uptoS_tell (most:=1024) (n:=(alikeL (bl ahead) (bl r.key):Nat)) (by omega) (by omega) (by omega)
 have e4:=textS_tell (most:=1024) (ByteArray.mk ((bl r.key).drop (alikeL (bl ahead) (bl r.key))).toArray) (by rw [hd];omega) (by omega)
 unfold readS
 simp only [e1,flagS_tell,e3,e4,keyS_tell]
 rw [if_neg (by omega)]
 have e5:(if r.gone=true then ((⟨#[]⟩:ByteArray),some Z) else textS 1024 (some Z))=(r.value,some t):=by
  by_cases hg:r.gone=true
  ·rw [if_pos hg] at hZ ⊢
   rw [h4 hg,← hZ];rfl
  ·rw [if_neg hg] at hZ ⊢
   rw [← hZ,List.append_assoc]
   exact textS_tell _ h2 (by omega) t
 rw [e5]
 simp only [Option.isSome_some,true_and]
 rw [if_pos trivial,show time+(r.time-time)=r.time by omega]
theorem readS_inv {time:Int} {ahead:ByteArray} (hah:ahead.size≤1024) {s:Lf} {r:RecM} (h:(readS time ahead s).1=some r):∃ t,(readS time ahead s).2=some t∧s=some (recL time ahead r++t):=by
 unfold readS at h ⊢
 split at h
 ·cases h
 rename_i hc
 rw [if_neg hc]
 simp only at h ⊢
 generalize ha:withinS (-1099511627776) 1099511627776 s=a at *
 generalize hb:flagS a.2=b at *
 generalize hcc:uptoS 1024 b.2=c at *
 generalize hd:textS 1024 c.2=d at *
 generalize he:(if b.1=true then ((⟨#[]⟩:ByteArray),d.2) else textS 1024 d.2)=e at *
 split at h
 rotate_left
 ·cases h
 rename_i h5
 rw [if_pos h5]
 obtain ⟨h5,h6⟩:=h5
 obtain ⟨t,ht⟩:=Option.isSome_iff_exists.1 h5
 refine ⟨t,ht,?_⟩
 simp only [Option.some.injEq] at h
 have hd2:d.2=some ((if b.1=true then [] else uI e.1.size++bl e.1)++t):=by
  by_cases hg:b.1=true
  ·rw [if_pos hg] at he ⊢
   rw [← he] at ht
   exact ht
  ·rw [if_neg hg] at he ⊢
   rw [← he] at ht ⊢
   rw [List.append_assoc]
   exact (textS_inv ht).2
 rw [← hd] at hd2
 have h7:=textS_inv hd2
 rw [hd] at h7
 have hc2:c.2=_:=h7.2
 rw [← hcc] at hc2
 have h8:=uptoS_inv (by omega) hc2
 rw [hcc] at h8
 have hle:=alikeL_le (bl ahead) (bl (keyS ahead c.1 d.1))
 have hb2:=h8.2 (by omega)
 rw [← hb] at hb2
 have ha2:=flagS_inv hb2
 rw [hb,← ha] at ha2
 have h9:=withinS_inv ha2
 rw [ha] at h9
 rw [h9.2,← h]
 unfold recL tailL
 simp only
 have hn:c.1.toNat=alikeL (bl ahead) (bl (keyS ahead c.1 d.1)):=by omega
 have hl1:((bl ahead).take c.1.toNat).length=c.1.toNat:=by rw [List.length_take,hn];omega
 have hdrop:(bl (keyS ahead c.1 d.1)).drop c.1.toNat=bl d.1:=by
  rw [bl_keyS]
  exact List.drop_left' hl1
 have hsz:(keyS ahead c.1 d.1).size-c.1.toNat=d.1.size:=by
  rw [← size_bl,← size_bl,← hdrop,List.length_drop]
 rw [← hn,hdrop,hsz,show time+a.1-time=a.1 by omega,show ((c.1.toNat:Nat):Int)=c.1 by omega]
 simp only [List.append_assoc,List.cons_append]
theorem recsS_tell {time:Int} (ht:0≤time∧time≤1099511627776):∀ {rs:List RecM} (hr:∀ r ∈ rs,recF r=0) (ahead:ByteArray) (t:List UInt8),recsS time rs.length ahead (some (recsL time ahead rs++t))=some (rs,some t)
 | [],_,_,_=>rfl
 | r::rs,hr,ahead,t=>by
  have e:=readS_tell ht (hr r (List.mem_cons_self ..)) ahead (recsL time r.key rs++t)
  show recsS time (rs.length+1) ahead (some ((recL time ahead r++recsL time r.key rs)++t))=_
  rw [List.append_assoc]
  unfold recsS
  rw [e]
  simp only
  rw [recsS_tell ht (fun x hx=>hr x (List.mem_cons_of_mem _ hx)) r.key t]
  rfl
theorem recsS_inv {time:Int}:∀ {n:Nat} {ahead:ByteArray} (hah:ahead.size≤1024) {s:Lf} {rs:List RecM} {t:List UInt8} (hk:∀ r ∈ rs,r.key.size≤1024) (h:recsS time n ahead s=some (rs,some t)),rs.length=n∧s=some (recsL time ahead rs++t)
 | 0,ahead,hah,s,rs,t,hk,h=>by
  simp only [recsS,Option.some.injEq,Prod.mk.injEq] at h
  obtain ⟨rfl,rfl⟩:=h
  exact ⟨rfl,rfl⟩
 | n+1,ahead,hah,s,rs,t,hk,h=>by
  unfold recsS at h
  cases hx:(readS time ahead s).1 with
  | none=>rw [hx] at h;cases h
  | some x =>
   rw [hx] at h
   simp only [Option.map_eq_some_iff,Prod.mk.injEq] at h
   obtain ⟨⟨rs',s'⟩,h1,rfl,rfl⟩:=h
   obtain ⟨t1,h2,h3⟩:=readS_inv hah hx
   rw [h2] at h1
   have hk1:x.key.size≤1024:=hk x (List.mem_cons_self ..)
   obtain ⟨h4,h5⟩:=recsS_inv hk1 (fun r hr=>hk r (List.mem_cons_of_mem _ hr)) h1
   simp only [Option.some.injEq] at h5
   refine ⟨by rw [List.length_cons,h4],?_⟩
   rw [h3,h5]
   show some (recL time ahead x++(recsL time x.key rs'++t))=some ((recL time ahead x++recsL time x.key rs')++t)
   rw [List.append_assoc]
def noSl:Sl:=⟨none,0,0⟩
structure HdS where
 k:Nat × Lf
 ba:Int × Lf
 pi:Int × Lf
 ep:Int × Lf
 sq:Int × Lf
 tm:Int × Lf
def markK (k:Nat):Bool:=decide ((k:Int)=2) || decide ((k:Int)=3)
def hdS (s:Lf):HdS :=
 let k:=byteS s
 let ba:=uptoS 1099511627776 k.2
 let pi:=uptoS 1048576 ba.2
 let ep:=if pi.1>0 then uptoS 32767 pi.2 else (0,pi.2)
 let sq:=if pi.1>0∧markK k.1=false then uptoS 2147483647 ep.2 else (0,ep.2)
 ⟨k,ba,pi,ep,sq,uptoS 1099511627776 sq.2⟩
def HdS.b (h:HdS) (rs:List RecM):BatM:=⟨h.ba.1,h.pi.1,h.ep.1,h.sq.1,h.k.1,h.tm.1,noSl,rs⟩
def bodS (h:HdS):Option BatM :=
 if h.tm.2.isSome=false∨h.tm.1>1099511627776 then none else
 if markK h.k.1=true then (if h.tm.2=some []∧validB (h.b [])=0 then some (h.b []) else none) else
 if (uptoS 64 h.tm.2).1>64 then none else
 match recsS h.tm.1 (uptoS 64 h.tm.2).1.toNat ⟨#[]⟩ (uptoS 64 h.tm.2).2 with
 | none=>none
 | some q=>if q.2=some []∧validB (h.b q.1)=0 then some (h.b q.1) else none
def decS (raw:List UInt8):Option BatM:=if (byteS (some raw)).1≠1 then none else bodS (hdS (byteS (some raw)).2)
theorem badF_all:∀ {rs:List RecM},badF rs=0→∀ r ∈ rs,recF r=0
 | [],_,r,h=>by cases h
 | x::rs,h,r,hr=>by
  have h:(if recF x≠0 then recF x else badF rs)=0:=h
  by_cases hx:recF x≠0
  ·rw [if_pos hx] at h;exact absurd h hx
  rw [if_neg hx] at h
  rcases List.mem_cons.1 hr with rfl|hr
  ·exact Decidable.not_not.1 hx
  ·exact badF_all h r hr
theorem valid_recs {b:BatM} (hv:validB b=0):b.rs.length≤64∧∀ r ∈ b.rs,recF r=0:=by
 unfold validB at hv
 split at hv
 ·cases hv
 split at hv
 ·cases hv
 rename_i h2
 split at hv
 ·rename_i h3;exact absurd hv h3
 rename_i h3
 exact ⟨by omega,badF_all (Decidable.not_not.1 h3)⟩
theorem markK_b {b:BatM} (h:0≤b.kind):markK b.kind.toNat=markB b:=by
 unfold markK markB
 rw [Int.toNat_of_nonneg h]
theorem hdS_tell {b:BatM} (hv:validB b=0):∃ s1 s2 s3 s4 s5,hdS (byteS (some (batL b))).2=⟨(b.kind.toNat,s1),(b.base,s2),(b.pid,s3),(b.epoch,s4),(b.seq,s5),(b.time,some (if markB b then [] else uI b.rs.length++recsL b.time ⟨#[]⟩ b.rs))⟩:=by
 obtain ⟨-,-,⟨hk,hba,hpi,hep,hsq,htm⟩,hfit,-⟩:=span_le b hv
 unfold batL
 generalize hY:(if markB b then [] else uI b.rs.length++recsL b.time ⟨#[]⟩ b.rs)=Y
 have e1:∀ t,byteS (some (UInt8.ofNat b.kind.toNat::t))=(b.kind.toNat,some t):=fun t=>by
  show ((UInt8.ofNat b.kind.toNat).toNat,some t)=_
  rw [UInt8.toNat_ofNat']
  congr 1
  omega
 have e2:=uptoS_tell (most:=1099511627776) (n:=b.base) hba.1 hba.2 (by omega)
 have e3:=uptoS_tell (most:=1048576) (n:=b.pid) hpi.1 hpi.2 (by omega)
 have e4:=uptoS_tell (most:=32767) (n:=b.epoch) hep.1 hep.2 (by omega)
 have e5:=uptoS_tell (most:=2147483647) (n:=b.seq) hsq.1 hsq.2 (by omega)
 have e6:=uptoS_tell (most:=1099511627776) (n:=b.time) htm.1 htm.2 (by omega)
 show ∃ s1 s2 s3 s4 s5,hdS (some (UInt8.ofNat b.kind.toNat::_))=_
 unfold hdS
 simp only [e1,e2,e3,markK_b hk.1]
 by_cases hp:b.pid>0
 ·rw [if_pos hp,if_pos hp]
  by_cases hm:markB b=true
  ·have hs0:b.seq=0:=by have:=hfit.2;rw [if_pos hm] at this;exact this.1
   simp only [hm,if_true,Bool.true_eq_false,and_false,if_false,List.append_nil,List.append_assoc,e4,e6]
   exact ⟨_,_,_,_,_,by rw [hs0]⟩
  ·have hm:markB b=false:=by simpa using hm
   simp only [hm,hp,Bool.false_eq_true,and_self,if_true,if_false,List.append_assoc,e4,e5,e6]
   exact ⟨_,_,_,_,_,rfl⟩
 ·have h0:b.pid=0:=by omega
  have hz:b.kind=0∧b.epoch=0∧b.seq=0:=by
   have:=hfit.1
   refine ⟨?_,?_,?_⟩ <;> (apply Decidable.byContradiction;intro h;apply this;simp [h0,h])
  rw [if_neg hp,if_neg hp,if_neg (fun h=>hp h.1)]
  simp only [List.nil_append,e6]
  exact ⟨_,_,_,_,_,by rw [hz.2.1,hz.2.2]⟩
theorem decS_tell {b:BatM} (hv:validB b=0):decS (batL b)=some b.p:=by
 obtain ⟨s1,s2,s3,s4,s5,h⟩:=hdS_tell hv
 obtain ⟨-,-,⟨hk,hba,hpi,hep,hsq,htm⟩,hfit,-⟩:=span_le b hv
 obtain ⟨h64,hrs⟩:=valid_recs hv
 have hb:∀ rs,(HdS.mk (b.kind.toNat,s1) (b.base,s2) (b.pid,s3) (b.epoch,s4) (b.seq,s5) (b.time,some (if markB b then [] else uI b.rs.length++recsL b.time ⟨#[]⟩ b.rs))).b rs={ b.p with rs:=rs }:=fun rs=>by
  unfold HdS.b BatM.p
  simp only [Int.toNat_of_nonneg hk.1]
  rfl
 unfold decS
 rw [h,if_neg (by show ¬ ((1:Nat)≠1);simp)]
 unfold bodS
 rw [if_neg (by simp only [Option.isSome_some];rintro (h|h);cases h;omega)]
 simp only [hb,markK_b hk.1]
 by_cases hm:markB b=true
 ·have h0:b.rs=[]:=by have:=hfit.2;rw [if_pos hm] at this;exact List.length_eq_zero_iff.1 this.2
  rw [if_pos hm,if_pos hm]
  have e:{ b.p with rs:=[] }=b.p:=by rw [← h0];rfl
  rw [e,if_pos ⟨rfl,hv⟩]
 ·have e1:=uptoS_tell (most:=64) (n:=(b.rs.length:Int)) (by omega) (by omega) (by omega) (recsL b.time ⟨#[]⟩ b.rs)
  have e2:=recsS_tell htm hrs ⟨#[]⟩ []
  rw [List.append_nil] at e2
  rw [if_neg hm,if_neg hm]
  simp only [e1,Int.toNat_natCast,e2]
  rw [if_neg (by omega),if_pos (by first|exact ⟨rfl,hv⟩|exact ⟨trivial,hv⟩)]
  rfl
theorem hdS_inv {s:Lf} {t:List UInt8} (h:(hdS s).tm.2=some t) (htm:(hdS s).tm.1≤1099511627776) {rs:List RecM} (hv:validB ((hdS s).b rs)=0) :
  s=some (UInt8.ofNat ((hdS s).b rs).kind.toNat::(uI ((hdS s).b rs).base++(uI ((hdS s).b rs).pid++((if ((hdS s).b rs).pid>0 then uI ((hdS s).b rs).epoch++(if markB ((hdS s).b rs) then [] else uI ((hdS s).b rs).seq) else [])++(uI ((hdS s).b rs).time++t))))):=by
 obtain ⟨-,-,⟨hk,hba,hpi,hep,hsq,-⟩,hfit,-⟩:=span_le _ hv
 unfold hdS at *
 unfold HdS.b at *
 simp only at *
 generalize e1:byteS s=k at *
 generalize e2:uptoS 1099511627776 k.2=ba at *
 generalize e3:uptoS 1048576 ba.2=pi at *
 generalize e4:(if pi.1>0 then uptoS 32767 pi.2 else (0,pi.2))=ep at *
 generalize e5:(if pi.1>0∧markK k.1=false then uptoS 2147483647 ep.2 else (0,ep.2))=sq at *
 have hmk:markB (⟨ba.1,pi.1,ep.1,sq.1,k.1,(uptoS 1099511627776 sq.2).1,noSl,rs⟩:BatM)=markK k.1:=rfl
 have h6:=(uptoS_inv (by omega) h).2 htm
 have h5:ep.2=some ((if pi.1>0∧markK k.1=false then uI sq.1 else [])++(uI (uptoS 1099511627776 sq.2).1++t)):=by
  generalize (uptoS 1099511627776 sq.2).1=tm at *
  by_cases hc:pi.1>0∧markK k.1=false
  ·rw [if_pos hc] at e5 ⊢
   rw [← e5] at h6 hsq ⊢
   exact (uptoS_inv (by omega) h6).2 hsq.2
  ·rw [if_neg hc] at e5 ⊢
   rw [← e5] at h6
   exact h6
 generalize (uptoS 1099511627776 sq.2).1=tm at *
 have h4:pi.2=some ((if pi.1>0 then uI ep.1 else [])++((if pi.1>0∧markK k.1=false then uI sq.1 else [])++(uI tm++t))):=by
  by_cases hc:pi.1>0
  ·rw [if_pos hc] at e4 ⊢
   rw [← e4] at h5 hep ⊢
   exact (uptoS_inv (by omega) h5).2 hep.2
  ·rw [if_neg hc] at e4 ⊢
   rw [← e4] at h5
   exact h5
 rw [← e3] at h4 hpi
 have h3:=(uptoS_inv (by omega) h4).2 hpi.2
 rw [e3] at h3
 rw [← e2] at h3 hba
 have h2:=(uptoS_inv (by omega) h3).2 hba.2
 rw [e2] at h2
 rw [← e1] at h2
 have h1:=(byteS_inv h2).2
 rw [e1] at h1
 have e:(if pi.1>0 then uI ep.1 else [])++((if pi.1>0∧markK k.1=false then uI sq.1 else [])++(uI tm++t))=(if pi.1>0 then uI ep.1++(if markK k.1 then [] else uI sq.1) else [])++(uI tm++t):=by
  by_cases hp:pi.1>0
  ·by_cases hm:markK k.1=true
   ·simp [hp,hm]
   ·simp [hp,hm]
  ·simp [hp]
 rw [h1,hmk,Int.toNat_natCast,e]
theorem decS_inv {raw:List UInt8} {b:BatM} (h:decS raw=some b):validB b=0∧batL b=raw∧b.p=b:=by
 unfold decS at h
 split at h
 ·cases h
 rename_i h1
 have h1:(byteS (some raw)).1=1:=Decidable.not_not.1 h1
 generalize hs:(byteS (some raw)).2=s at h
 have hraw:∀ t,s=some t→raw=1::t:=fun t ht=>by
  rw [← hs] at ht
  have:=(byteS_inv ht).2
  rw [h1] at this
  exact Option.some.inj this
 unfold bodS at h
 split at h
 ·cases h
 rename_i h2
 have h3:(hdS s).tm.2.isSome=true:=by
  cases he:(hdS s).tm.2.isSome with
  | true=>rfl
  | false=>exact absurd (.inl he) h2
 have h4:(hdS s).tm.1≤1099511627776:=by omega
 obtain ⟨t,ht⟩:=Option.isSome_iff_exists.1 h3
 split at h
 ·rename_i hm
  split at h
  rotate_left
  ·cases h
  rename_i h5
  simp only [Option.some.injEq] at h
  subst h
  refine ⟨h5.2,?_,rfl⟩
  have h6:=hraw _ (hdS_inv h5.1 h4 h5.2)
  rw [h6]
  have hm:markB ((hdS s).b [])=true:=hm
  unfold batL
  rw [hm]
  rfl
 ·rename_i hm
  split at h
  ·cases h
  rename_i h7
  cases hr:recsS (hdS s).tm.1 (uptoS 64 (hdS s).tm.2).1.toNat ⟨#[]⟩ (uptoS 64 (hdS s).tm.2).2 with
  | none=>rw [hr] at h;cases h
  | some q =>
   rw [hr] at h
   simp only at h
   split at h
   rotate_left
   ·cases h
   rename_i h5
   simp only [Option.some.injEq] at h
   subst h
   refine ⟨h5.2,?_,rfl⟩
   obtain ⟨rs,q2⟩:=q
   obtain ⟨rfl,h5⟩:=h5
   have hrs:=(valid_recs h5).2
   obtain ⟨h8,h9⟩:=recsS_inv (by decide) (fun r hr=>(recF_zero (hrs r hr)).1) hr
   have h10:=uptoS_inv (by omega) h9
   have h11:=h10.2 (by omega)
   have h6:=hraw _ (hdS_inv h11 h4 h5)
   rw [h6]
   have hm:markB ((hdS s).b rs)≠true:=hm
   unfold batL
   rw [if_neg hm,if_neg hm]
   have e:((hdS s).b rs).rs.length=(uptoS 64 (hdS s).tm.2).1:=by
    have h12:=h10.1
    have h13:rs.length=(uptoS 64 (hdS s).tm.2).1.toNat:=h8
    show ((rs.length:Nat):Int)=_
    rw [h13,Int.toNat_of_nonneg h12.1]
   rw [e,List.append_nil]
   rfl
abbrev polyB:BitVec 32:=0xEDB88320#32
def crcS (s:BitVec 32):BitVec 32:=(s >>> 1) ^^^ (polyB &&& (0#32-(s &&& 1#32)))
def crcN:Nat→BitVec 32→BitVec 32
 | 0,s=>s
 | k+1,s=>crcS (crcN k s)
def crcB (s:BitVec 32) (c:UInt8):BitVec 32:=crcN 8 (s ^^^ BitVec.ofNat 32 c.toNat)
def crcL (s:BitVec 32) (bs:List UInt8):BitVec 32:=bs.foldl crcB s
def moreL (x:BitVec 32) (bs:List UInt8):BitVec 32 := ~~~ (crcL (~~~ x) bs)
def sumL (bs:List UInt8):Nat:=(moreL 0#32 bs).toNat
def fourL (n:Nat):List UInt8:=[UInt8.ofNat n,UInt8.ofNat (n / 256),UInt8.ofNat (n / 65536),UInt8.ofNat (n / 16777216)]
def num4:List UInt8→Nat
 | a::b::c::d::_=>a.toNat+256*b.toNat+65536*c.toNat+16777216*d.toNat
 | _=>0
def headL (bs:List UInt8):List UInt8:=fourL bs.length++bs
def sealL (bs:List UInt8):List UInt8:=if bs.length>262144 then [] else headL bs++fourL (sumL (headL bs))
def firstL (b:List UInt8):Option (List UInt8 × Nat) :=
 if b.length<8∨num4 b>262144∨num4 b+8>b.length then none else if num4 (b.drop (num4 b+4))=sumL (b.take (num4 b+4)) then some ((b.drop 4).take (num4 b),num4 b+8) else none
def refS (s:BitVec 32) (b:Bool):BitVec 32:=(s >>> 1) ^^^ (if (s.getLsbD 0 != b)=true then polyB else 0#32)
def refN (c:BitVec 32):Nat→BitVec 32→BitVec 32
 | 0,s=>s
 | k+1,s=>refS (refN c k s) (c.getLsbD k)
theorem and_one (x:BitVec 32):x &&& 1#32=if x.getLsbD 0=true then 1#32 else 0#32:=by
 apply BitVec.eq_of_getLsbD_eq
 intro i hi
 rw [BitVec.getLsbD_and,BitVec.getLsbD_one]
 by_cases h0:i=0
 ·subst h0
  by_cases hx:x.getLsbD 0=true
  ·rw [if_pos hx,hx];rfl
  ·have hx':x.getLsbD 0=false:=by cases h:x.getLsbD 0 with
    | false=>rfl
    | true=>exact absurd h hx
   rw [if_neg hx,hx'];rfl
 ·have:(decide (i=0))=false:=decide_eq_false h0
  by_cases hx:x.getLsbD 0=true
  ·rw [if_pos hx];simp [h0]
  ·rw [if_neg hx];simp [h0]
theorem crcS_eq (x:BitVec 32):crcS x=(x >>> 1) ^^^ (if x.getLsbD 0=true then polyB else 0#32):=by
 unfold crcS
 rw [and_one]
 by_cases hx:x.getLsbD 0=true
 ·rw [if_pos hx,if_pos hx];rfl
 ·rw [if_neg hx,if_neg hx];rfl
theorem crcS_xor (r c:BitVec 32):crcS (r ^^^ c)=refS r (c.getLsbD 0) ^^^ (c >>> 1):=by
 rw [crcS_eq,BitVec.ushiftRight_xor_distrib,BitVec.getLsbD_xor]
 unfold refS
 have:((r.getLsbD 0 ^^ c.getLsbD 0)=true)=((r.getLsbD 0 != c.getLsbD 0)=true):=by cases r.getLsbD 0 <;> cases c.getLsbD 0 <;> rfl
 simp only [this]
 rw [BitVec.xor_assoc,BitVec.xor_comm (c >>> 1),← BitVec.xor_assoc]
theorem shift_step (c:BitVec 32) (k:Nat):(c >>> k) >>> 1=c >>> (k+1):=by rw [BitVec.shiftRight_add]
theorem crcN_xor (r c:BitVec 32):∀ k,crcN k (r ^^^ c)=refN c k r ^^^ (c >>> k)
 | 0=>by simp [crcN,refN]
 | k+1=>by
  show crcS (crcN k (r ^^^ c))=refS (refN c k r) (c.getLsbD k) ^^^ _
  rw [crcN_xor r c k,crcS_xor,shift_step]
  congr 2
theorem crcB_bits (s:BitVec 32) (c:UInt8):crcB s c=refN (BitVec.ofNat 32 c.toNat) 8 s:=by
 unfold crcB
 rw [crcN_xor]
 have:BitVec.ofNat 32 c.toNat >>> 8=0#32:=by
  apply BitVec.eq_of_toNat_eq
  rw [BitVec.toNat_ushiftRight,BitVec.toNat_ofNat,Nat.shiftRight_eq_div_pow]
  have:=c.toNat_lt
  rw [Nat.mod_eq_of_lt (by omega)]
  show c.toNat / 2 ^ 8=0
  omega
 rw [this];simp
theorem num4_cons (a b c d:UInt8) (r:List UInt8):num4 (a::b::c::d::r)=a.toNat+256*b.toNat+65536*c.toNat+16777216*d.toNat:=rfl
theorem num_four {n:Nat} (h:n<4294967296) (r:List UInt8):num4 (fourL n++r)=n:=by
 unfold fourL num4
 simp
 omega
theorem four_num:∀ (b:List UInt8),4≤b.length→fourL (num4 b)=b.take 4∧num4 b<4294967296
 | a::b::c::d::r,_=>by
  have h1:=a.toNat_lt
  have h2:=b.toNat_lt
  have h3:=c.toNat_lt
  have h4:=d.toNat_lt
  rw [num4_cons]
  refine ⟨?_,by omega⟩
  have e:∀ (x:UInt8) (n:Nat),n % 256=x.toNat→UInt8.ofNat n=x:=fun x n h=>by
   apply UInt8.toNat_inj.1
   simp [h]
  unfold fourL
  rw [e a _ (by omega),e b _ (by omega),e c _ (by omega),e d _ (by omega)]
  rfl
theorem four_len (n:Nat):(fourL n).length=4:=rfl
theorem sumL_lt (bs:List UInt8):sumL bs<4294967296:=(moreL 0#32 bs).isLt
theorem first_seal {bs:List UInt8} (h:bs.length≤262144) (r:List UInt8):firstL (sealL bs++r)=some (bs,bs.length+8):=by
 have hs:=sumL_lt (headL bs)
 have hl:(headL bs).length=bs.length+4:=by unfold headL;rw [List.length_append,four_len];omega
 have e0:sealL bs++r=headL bs++(fourL (sumL (headL bs))++r):=by unfold sealL;rw [if_neg (by omega),List.append_assoc]
 have e1:num4 (sealL bs++r)=bs.length:=by
  rw [e0];unfold headL;rw [List.append_assoc];exact num_four (by omega) _
 have e2:(sealL bs++r).length=bs.length+8+r.length:=by
  rw [e0,List.length_append,List.length_append,hl,four_len];omega
 unfold firstL
 rw [e1,e2,if_neg (by omega),e0,← hl,List.drop_left,List.take_left,num_four hs,if_pos rfl]
 congr 2
 unfold headL
 rw [List.append_assoc,show (4:Nat)=(fourL bs.length).length from rfl,List.drop_left,List.take_left]
theorem first_inv {b body:List UInt8} {n:Nat} (h:firstL b=some (body,n)):n=body.length+8∧n≤b.length∧body.length≤262144∧b.take n=sealL body:=by
 unfold firstL at h
 split at h
 ·cases h
 rename_i h1
 split at h
 ·rename_i h2
  simp only [Option.some.injEq,Prod.mk.injEq] at h
  obtain ⟨rfl,rfl⟩:=h
  have hbl:((b.drop 4).take (num4 b)).length=num4 b:=by rw [List.length_take,List.length_drop];omega
  refine ⟨by rw [hbl],by omega,by rw [hbl];omega,?_⟩
  have hh:headL ((b.drop 4).take (num4 b))=b.take (num4 b+4):=by
   unfold headL
   rw [hbl,(four_num b (by omega)).1,Nat.add_comm,List.take_add]
  unfold sealL
  rw [if_neg (by rw [hbl];omega),hh,← h2,(four_num (b.drop (num4 b+4)) (by rw [List.length_drop];omega)).1,show num4 b+8=(num4 b+4)+4 from rfl,List.take_add]
 ·cases h
theorem first_doc (b:List UInt8):firstL b=if b.length<8∨num4 b>262144∨num4 b+8>b.length then none else if sealL ((b.drop 4).take (num4 b))=b.take (num4 b+8) then some ((b.drop 4).take (num4 b),num4 b+8) else none:=by
 by_cases h1:b.length<8∨num4 b>262144∨num4 b+8>b.length
 ·unfold firstL;rw [if_pos h1,if_pos h1]
 rw [if_neg h1]
 by_cases h2:sealL ((b.drop 4).take (num4 b))=b.take (num4 b+8)
 ·rw [if_pos h2]
  have hbl:((b.drop 4).take (num4 b)).length=num4 b:=by rw [List.length_take,List.length_drop];omega
  have h3:=first_seal (bs:=(b.drop 4).take (num4 b)) (by rw [hbl];omega) (b.drop (num4 b+8))
  rw [h2,List.take_append_drop,hbl] at h3
  exact h3
 ·rw [if_neg h2]
  cases hf:firstL b with
  | none=>rfl
  | some q =>
   obtain ⟨g1,g2,g3,g4⟩:=first_inv (body:=q.1) (n:=q.2) hf
   unfold firstL at hf
   rw [if_neg h1] at hf
   split at hf
   ·simp only [Option.some.injEq] at hf
    subst hf
    exact absurd g4.symm h2
   ·cases hf
def shB (base fin:Int):List UInt8:=83::(uI base++uI fin)
def shL (base fin:Int):List UInt8:=sealL (shB base fin)
def frL (b:BatM):List UInt8:=sealL (batL b)
structure SegA where
 base:Int
 fin:Int
 bs:List BatM
def SegA.file (s:SegA):List UInt8:=shL s.base s.fin++s.bs.flatMap frL
def nextG (bs:List BatM):Int:=match bs.getLast? with
 | none=>0
 | some b=>b.base+spanB b
def SegA.reach (s:SegA):Int:=max (max s.base s.fin) (nextG s.bs)
def timeG (x:Int) (rs:List RecM):Int:=rs.foldl (fun t r=>max t r.time) x
def lateB (b:BatM):Int:=if b.rs=[] then b.time else timeG (-1) b.rs
def lateG (x:Int) (bs:List BatM):Int:=bs.foldl (fun t b=>max t (lateB b)) x
def nextL (l:List SegA):Int:=match l.getLast? with
 | none=>0
 | some s=>s.reach
def firstG (l:List SegA):Int:=match l with
 | []=>0
 | s::_=>s.base
def BsOk:Int→List BatM→Prop
 | _,[]=>True
 | n,b::bs=>validB b=0∧b.p=b∧n≤b.base∧BsOk (b.base+spanB b) bs
structure SegOk (s:SegA):Prop where
 base:0≤s.base∧s.base≤1099511627776
 fin:s.fin=0∨(s.base<s.fin∧s.fin≤1099511627776)
 bs:BsOk s.base s.bs
def SegsOk:Int→List SegA→Prop
 | _,[]=>True
 | n,s::r=>n≤s.base∧SegOk s∧SegsOk (max s.reach (s.base+1)) r
def headS (base:Int) (body:List UInt8):Option Int :=
 let a:=byteS (some body)
 let b:=uintS a.2
 let c:=uintS b.2
 if c.2=some []∧a.1=83∧(b.1:Int)=base∧base≤1099511627776∧c.1≤1099511627776∧(c.1=0∨base<c.1) then some c.1 else none
def takeF:Nat→Int→List UInt8→List BatM × Nat
 | 0,_,_=>([],0)
 | k+1,n,raw=>match firstL raw with
  | none=>([],0)
  | some (body,m)=>match decS body with
   | none=>([],0)
   | some b=>if b.base<n then ([],0) else (b::(takeF k (b.base+spanB b) (raw.drop m)).1,m+(takeF k (b.base+spanB b) (raw.drop m)).2)
def scanL (base:Int) (raw:List UInt8):Option (SegA × Nat):=match firstL raw with
 | none=>none
 | some (body,m)=>match headS base body with
  | none=>none
  | some fin=>some (⟨base,fin,(takeF raw.length base (raw.drop m)).1⟩,m+(takeF raw.length base (raw.drop m)).2)
theorem seal_len {bs:List UInt8} (h:bs.length≤262144):(sealL bs).length=bs.length+8:=by
 unfold sealL
 rw [if_neg (by omega),List.length_append,four_len]
 show (fourL _++_).length+4=_
 rw [List.length_append,four_len]
 omega
theorem shB_len (base fin:Int):3≤(shB base fin).length∧(shB base fin).length≤21:=by
 have h1:=uI_len base
 have h2:=uI_len fin
 unfold shB
 rw [List.length_cons,List.length_append]
 omega
theorem shL_len (base fin:Int):11≤(shL base fin).length∧(shL base fin).length≤29:=by
 have h:=shB_len base fin
 unfold shL
 rw [seal_len (by omega)]
 omega
theorem recL_len {time:Int} {ahead:ByteArray} {r:RecM}:(recL time ahead r).length≤31+r.key.size+10+r.value.size:=by
 unfold recL tailL
 have h1:=sintL_len (r.time-time)
 have h2:=uI_len ((alikeL (bl ahead) (bl r.key):Nat):Int)
 have h3:=uI_len (((r.key.size-alikeL (bl ahead) (bl r.key):Nat)):Int)
 have h4:=uI_len (r.value.size:Int)
 have h5:=size_bl r.key
 have h6:=size_bl r.value
 simp only [List.length_append,List.length_cons,List.length_drop]
 split
 ·simp only [List.length_nil];omega
 ·simp only [List.length_append];omega
theorem recsL_len {time:Int} {n:Nat}:∀ {rs:List RecM} {ahead:ByteArray},(∀ r ∈ rs,r.key.size+r.value.size≤n)→(recsL time ahead rs).length≤rs.length*(41+n)
 | [],_,_=>by simp [recsL]
 | r::rs,ahead,h=>by
  have h1:=recL_len (time:=time) (ahead:=ahead) (r:=r)
  have h2:=recsL_len (time:=time) (n:=n) (rs:=rs) (ahead:=r.key) fun x hx=>h x (List.mem_cons_of_mem _ hx)
  have h3:=h r (List.mem_cons_self ..)
  unfold recsL
  rw [List.length_append,List.length_cons,Nat.add_mul]
  omega
theorem batL_le {b:BatM} {n:Nat} (h:∀ r ∈ b.rs,r.key.size+r.value.size≤n):2≤(batL b).length∧(batL b).length≤62+b.rs.length*(41+n):=by
 have h1:=uI_len b.base
 have h2:=uI_len b.pid
 have h3:=uI_len b.epoch
 have h4:=uI_len b.seq
 have h5:=uI_len b.time
 have h6:=uI_len (b.rs.length:Nat)
 have h7:=recsL_len (time:=b.time) (ahead:=⟨#[]⟩) h
 unfold batL
 simp only [List.length_cons,List.length_append]
 split <;> split <;> simp only [List.length_nil,List.length_append] <;> omega
theorem batL_len {b:BatM} (hv:validB b=0):2≤(batL b).length∧(batL b).length≤262144:=by
 obtain ⟨h64,hrs⟩:=valid_recs hv
 have h:=batL_le (b:=b) (n:=2048) fun r hr=>by
  obtain ⟨h1,h2,-⟩:=recF_zero (hrs r hr)
  omega
 have:b.rs.length*(41+2048)≤64*(41+2048):=Nat.mul_le_mul_right _ h64
 omega
theorem frL_len {b:BatM} (hv:validB b=0):10≤(frL b).length∧(frL b).length=(batL b).length+8:=by
 have h:=batL_len hv
 unfold frL
 rw [seal_len h.2]
 omega
theorem headS_tell {base fin:Int} (hb:0≤base∧base≤1099511627776) (hf:fin=0∨(base<fin∧fin≤1099511627776)):headS base (shB base fin)=some fin:=by
 unfold headS shB
 have e1:byteS (some (83::(uI base++uI fin)))=(83,some (uI base++uI fin)):=rfl
 have e2:uintS (some (uI base++uI fin))=(base.toNat,some (uI fin)):=uintS_tell (by omega) _
 have e3:uintS (some (uI fin))=(fin.toNat,some []):=by
  have:=uintS_tell (v:=fin.toNat) (by omega) []
  rwa [List.append_nil] at this
 simp only [e1,e2,e3]
 rw [if_pos ⟨trivial,trivial,by omega,by omega,by omega,by omega⟩]
 congr 1
 omega
theorem headS_inv {base fin:Int} {body:List UInt8} (h:headS base body=some fin):(0≤base∧base≤1099511627776)∧(fin=0∨(base<fin∧fin≤1099511627776))∧body=shB base fin:=by
 unfold headS at h
 simp only at h
 split at h
 rotate_left
 ·cases h
 rename_i hc
 obtain ⟨h1,h2,h3,h4,h5,h6⟩:=hc
 simp only [Option.some.injEq] at h
 have i1:=uintS_inv h1
 have i2:=uintS_inv i1.2
 have i3:=byteS_inv i2.2
 refine ⟨by omega,by omega,?_⟩
 have e:=i3.2
 rw [h2] at e
 simp only [Option.some.injEq] at e
 rw [e]
 unfold shB uI
 have e1:base.toNat=(uintS (byteS (some body)).2).1:=by omega
 have e2:fin.toNat=(uintS (uintS (byteS (some body)).2).2).1:=by omega
 rw [e1,e2,List.append_nil]
 rfl
theorem BsOk.mono {m n:Int} {bs:List BatM} (h:BsOk n bs) (hm:m≤n):BsOk m bs:=by
 cases bs with
 | nil=>trivial
 | cons b bs=>exact ⟨h.1,h.2.1,by have:=h.2.2.1;omega,h.2.2.2⟩
theorem BsOk.valid:∀ {n:Int} {bs:List BatM},BsOk n bs→∀ b ∈ bs,validB b=0∧b.p=b
 | _,b::bs,h,x,hx=>by
  rcases List.mem_cons.1 hx with rfl|hx
  ·exact ⟨h.1,h.2.1⟩
  ·exact h.2.2.2.valid x hx
theorem first_nil:firstL []=none:=by
 rw [first_doc,if_pos (by simp)]
theorem first_short {bs r:List UInt8} (h:bs.length≤262144) {k:Nat} (hk:k<bs.length+8):firstL ((sealL bs++r).take k)=none:=by
 cases hf:firstL ((sealL bs++r).take k) with
 | none=>rfl
 | some q =>
  exfalso
  obtain ⟨body,n⟩:=q
  obtain ⟨h1,h2,h3,h4⟩:=first_inv hf
  rw [List.length_take] at h2
  have e1:((sealL bs++r).take k).take n=(sealL bs++r).take n:=by rw [List.take_take,Nat.min_eq_left (by omega)]
  rw [e1] at h4
  have e2:=first_seal h3 ((sealL bs++r).drop n)
  rw [← h4,List.take_append_drop,first_seal h] at e2
  simp only [Option.some.injEq,Prod.mk.injEq] at e2
  omega
theorem takeF_tell:∀ {bs:List BatM} {n:Int} {k:Nat} {rest:List UInt8},BsOk n bs→bs.length≤k→firstL rest=none→takeF k n (bs.flatMap frL++rest)=(bs,(bs.flatMap frL).length)
 | [],n,0,rest,_,_,_=>rfl
 | [],n,k+1,rest,_,_,hr=>by
  unfold takeF
  rw [List.flatMap_nil,List.nil_append,hr]
  rfl
 | b::bs,n,0,rest,_,hk,_=>by simp at hk
 | b::bs,n,k+1,rest,⟨hv,hp,hn,ho⟩,hk,hr=>by
  have hl:=batL_len hv
  have hf:=frL_len hv
  unfold takeF
  rw [List.flatMap_cons,List.append_assoc]
  have e:firstL (frL b++(bs.flatMap frL++rest))=some (batL b,(batL b).length+8):=first_seal hl.2 _
  rw [e]
  simp only
  rw [decS_tell hv]
  simp only
  rw [hp,if_neg (by omega),← hf.2,List.drop_left,takeF_tell ho (by simpa using hk) hr,List.length_append]
theorem takeF_inv:∀ {k:Nat} {n:Int} {raw:List UInt8},BsOk n (takeF k n raw).1∧raw.take (takeF k n raw).2=(takeF k n raw).1.flatMap frL∧(takeF k n raw).2≤raw.length
 | 0,n,raw=>⟨trivial,by simp [takeF],Nat.zero_le _⟩
 | k+1,n,raw=>by
  unfold takeF
  cases hf:firstL raw with
  | none=>exact ⟨trivial,by simp,Nat.zero_le _⟩
  | some q =>
   obtain ⟨body,m⟩:=q
   simp only
   cases hd:decS body with
   | none=>exact ⟨trivial,by simp,Nat.zero_le _⟩
   | some b =>
    simp only
    by_cases hb:b.base<n
    ·rw [if_pos hb];exact ⟨trivial,by simp,Nat.zero_le _⟩
    rw [if_neg hb]
    obtain ⟨i1,i2,i3⟩:=takeF_inv (k:=k) (n:=b.base+spanB b) (raw:=raw.drop m)
    obtain ⟨d1,d2,d3⟩:=decS_inv hd
    obtain ⟨f1,f2,f3,f4⟩:=first_inv hf
    rw [List.length_drop] at i3
    refine ⟨⟨d1,d3,by omega,i1⟩,?_,by simp only;omega⟩
    simp only
    rw [List.take_add,f4,i2,List.flatMap_cons,← d2]
    rfl
theorem flat_frL_len:∀ {n:Int} {bs:List BatM},BsOk n bs→bs.length*10≤(bs.flatMap frL).length
 | _,[],_=>by simp
 | _,b::bs,⟨h1,_,_,h⟩=>by
  have:=flat_frL_len h
  have:=frL_len h1
  rw [List.flatMap_cons,List.length_append,List.length_cons]
  omega
theorem file_len (s:SegA):s.file.length=(shL s.base s.fin).length+(s.bs.flatMap frL).length:=by
 unfold SegA.file
 rw [List.length_append]
theorem scan_tell {s:SegA} (h:SegOk s) {rest:List UInt8} (hr:firstL rest=none):scanL s.base (s.file++rest)=some (s,s.file.length):=by
 have hl:=shB_len s.base s.fin
 unfold scanL
 have e0:s.file++rest=sealL (shB s.base s.fin)++(s.bs.flatMap frL++rest):=by
  unfold SegA.file shL
  rw [List.append_assoc]
 have e:firstL (s.file++rest)=some (shB s.base s.fin,(shB s.base s.fin).length+8):=by
  rw [e0]
  exact first_seal (by omega) _
 rw [e]
 simp only
 rw [headS_tell h.base h.fin]
 simp only
 have e2:(s.file++rest).drop ((shB s.base s.fin).length+8)=s.bs.flatMap frL++rest:=by
  rw [e0,← seal_len (show (shB s.base s.fin).length≤262144 by omega),List.drop_left]
 have e3:s.bs.length≤(s.file++rest).length:=by
  have:=flat_frL_len h.bs
  rw [List.length_append,file_len]
  omega
 rw [e2,takeF_tell h.bs e3 hr,file_len]
 unfold shL
 rw [seal_len (by omega)]
theorem scan_file {s:SegA} (h:SegOk s):scanL s.base s.file=some (s,s.file.length):=by
 have:=scan_tell h first_nil
 rwa [List.append_nil] at this
theorem scan_inv {base:Int} {raw:List UInt8} {s:SegA} {m:Nat} (h:scanL base raw=some (s,m)):SegOk s∧s.base=base∧raw.take m=s.file∧m≤raw.length∧m=s.file.length:=by
 unfold scanL at h
 cases hf:firstL raw with
 | none=>rw [hf] at h;cases h
 | some q =>
  obtain ⟨body,k⟩:=q
  rw [hf] at h
  simp only at h
  cases hh:headS base body with
  | none=>rw [hh] at h;cases h
  | some fin =>
   rw [hh] at h
   simp only [Option.some.injEq,Prod.mk.injEq] at h
   obtain ⟨rfl,rfl⟩:=h
   obtain ⟨h1,h2,h3⟩:=headS_inv hh
   obtain ⟨i1,i2,i3⟩:=takeF_inv (k:=raw.length) (n:=base) (raw:=raw.drop k)
   obtain ⟨f1,f2,f3,f4⟩:=first_inv hf
   rw [List.length_drop] at i3
   have e:raw.take (k+(takeF raw.length base (raw.drop k)).2)=SegA.file ⟨base,fin,(takeF raw.length base (raw.drop k)).1⟩:=by
    rw [List.take_add,f4,i2,h3]
    rfl
   refine ⟨⟨h1,h2,i1⟩,rfl,e,by omega,?_⟩
   rw [← e,List.length_take]
   omega
theorem BsOk.take:∀ {n:Int} {bs:List BatM} (k:Nat),BsOk n bs→BsOk n (bs.take k)
 | _,[],k,_=>by simp [BsOk]
 | _,b::bs,0,_=>trivial
 | _,b::bs,k+1,⟨h1,h2,h3,h4⟩=>⟨h1,h2,h3,h4.take k⟩
theorem flat_cut:∀ {n:Int} {bs:List BatM} (k:Nat),BsOk n bs→∃ j rest,j≤bs.length∧(bs.flatMap frL).take k=(bs.take j).flatMap frL++rest∧firstL rest=none∧∀ m,m≤bs.length→((bs.take m).flatMap frL).length≤k→m≤j
 | _,[],k,_=>⟨0,[],by simp,by simp,first_nil,fun m hm _=>hm⟩
 | n,b::bs,k,⟨h1,h2,h3,h4⟩=>by
  have hl:=batL_len h1
  have hf:=frL_len h1
  by_cases hk:k<(frL b).length
  ·refine ⟨0,(frL b++bs.flatMap frL).take k,by omega,by simp,first_short hl.2 (by omega),fun m hm h=>?_⟩
   cases m with
   | zero=>omega
   | succ m =>
    rw [List.take_succ_cons,List.flatMap_cons,List.length_append] at h
    omega
  ·obtain ⟨j,rest,i1,i2,i3,i4⟩:=flat_cut (k-(frL b).length) h4
   refine ⟨j+1,rest,by simp;omega,?_,i3,fun m hm h=>?_⟩
   ·rw [List.flatMap_cons,List.take_append,List.take_of_length_le (by omega),i2,List.take_succ_cons,List.flatMap_cons,List.append_assoc]
   ·cases m with
    | zero=>omega
    | succ m =>
     rw [List.take_succ_cons,List.flatMap_cons,List.length_append] at h
     have:=i4 m (by simpa using hm) (by omega)
     omega
def SegA.cut (s:SegA) (j:Nat):SegA:=⟨s.base,s.fin,s.bs.take j⟩
theorem SegOk.cut {s:SegA} (h:SegOk s) (j:Nat):SegOk (s.cut j):=⟨h.base,h.fin,h.bs.take j⟩
theorem scan_cut {s:SegA} (h:SegOk s) (k:Nat):(k<(shL s.base s.fin).length∧scanL s.base (s.file.take k)=none) ∨
  ∃ j,j≤s.bs.length∧(s.cut j).file.length≤k∧scanL s.base (s.file.take k)=some (s.cut j,(s.cut j).file.length)∧∀ m,m≤s.bs.length→(s.cut m).file.length≤k→m≤j:=by
 have hl:=shB_len s.base s.fin
 have hsl:(shL s.base s.fin).length=(shB s.base s.fin).length+8:=seal_len (by omega)
 by_cases hk:k<(shL s.base s.fin).length
 ·left
  refine ⟨hk,?_⟩
  unfold scanL
  have e:firstL (s.file.take k)=none:=first_short (by omega) (by omega)
  rw [e]
 ·right
  obtain ⟨j,rest,i1,i2,i3,i4⟩:=flat_cut (k-(shL s.base s.fin).length) h.bs
  have e:s.file.take k=(s.cut j).file++rest:=by
   unfold SegA.file SegA.cut
   rw [List.take_append,List.take_of_length_le (by omega),i2,List.append_assoc]
  refine ⟨j,i1,?_,by rw [e];exact scan_tell (h.cut j) i3,fun m hm h2=>i4 m hm ?_⟩
  ·have:=congrArg List.length e
   rw [List.length_take,List.length_append] at this
   omega
  ·rw [file_len] at h2
   have:(s.cut m).bs=s.bs.take m:=rfl
   rw [this] at h2
   have:(shL (s.cut m).base (s.cut m).fin).length=(shL s.base s.fin).length:=rfl
   omega
theorem getLast_snoc {α:Type} (l:List α) (x:α):(l++[x]).getLast? = some x:=by simp
theorem nextG_snoc (bs:List BatM) (b:BatM):nextG (bs++[b])=b.base+spanB b:=by
 unfold nextG
 rw [getLast_snoc]
theorem lateG_snoc (x:Int) (bs:List BatM) (b:BatM):lateG x (bs++[b])=max (lateG x bs) (lateB b):=by
 unfold lateG
 rw [List.foldl_append]
 rfl
theorem BsOk.next:∀ {n:Int} {bs:List BatM},0≤n→BsOk n bs→(bs≠[]→n<nextG bs)∧(bs=[]→nextG bs=0)∧nextG bs≤1099511627777
 | _,[],_,_=>⟨fun h=>absurd rfl h,fun _=>rfl,by decide⟩
 | n,b::bs,hn,⟨h1,h2,h3,h4⟩=>by
  obtain ⟨s1,-,⟨-,hba,-⟩,-,s2⟩:=span_le b h1
  obtain ⟨i1,i2,i3⟩:=h4.next (by omega)
  by_cases hb:bs=[]
  ·subst hb
   have e:nextG [b]=b.base+spanB b:=nextG_snoc [] b
   rw [e]
   exact ⟨fun _=>by omega,(fun h=>by cases h),by omega⟩
  ·have e:nextG (b::bs)=nextG bs:=by
    unfold nextG
    cases bs with
    | nil=>exact absurd rfl hb
    | cons c cs=>rfl
   rw [e]
   have:=i1 hb
   exact ⟨fun _=>by omega,(fun h=>by cases h),i3⟩
theorem BsOk.snoc:∀ {n:Int} {bs:List BatM} {b:BatM},0≤n→BsOk n bs→validB b=0→b.p=b→n≤b.base→nextG bs≤b.base→BsOk n (bs++[b])
 | n,[],b,_,_,hv,hp,hn,_=>⟨hv,hp,hn,trivial⟩
 | n,a::bs,b,h0,⟨h1,h2,h3,h4⟩,hv,hp,hn,hx=>by
  obtain ⟨s1,-,⟨-,hba,-⟩,-,s2⟩:=span_le a h1
  refine ⟨h1,h2,h3,?_⟩
  have i:=h4.next (by omega)
  by_cases hb:bs=[]
  ·subst hb
   have e:nextG [a]=a.base+spanB a:=nextG_snoc [] a
   exact BsOk.snoc (by omega) h4 hv hp (by omega) (by rw [i.2.1 rfl];omega)
  ·have e:nextG (a::bs)=nextG bs:=by
    unfold nextG
    cases bs with
    | nil=>exact absurd rfl hb
    | cons c cs=>rfl
   rw [e] at hx
   have:=i.1 hb
   exact BsOk.snoc (by omega) h4 hv hp (by omega) hx
theorem reach_le {s:SegA} (h:SegOk s):s.base≤s.reach∧s.fin≤s.reach∧nextG s.bs≤s.reach∧s.reach≤1099511627777∧(s.bs≠[]→s.base<nextG s.bs):=by
 obtain ⟨i1,i2,i3⟩:=h.bs.next h.base.1
 have h1:=h.base
 have h2:=h.fin
 unfold SegA.reach
 refine ⟨by omega,by omega,by omega,by omega,i1⟩
structure EntA where
 offset:Int
 place:Int
 before:Int
structure IdxA where
 offset:Int
 place:Int
 late:Int
 gap:Int
 l:List EntA
def idx0 (gap:Int):IdxA:=⟨-1,-1,-1,gap,[]⟩
def mayN (o p t:Int):Prop:=(0≤o∧o≤1099511627776)∧(0≤p∧p≤4194304)∧(0≤t∧t≤1099511627776)
instance (o p t:Int):Decidable (mayN o p t):=by unfold mayN;infer_instance
def newE (x:IdxA) (p:Int):Bool:=match x.l.getLast? with
 | none=>true
 | some e=>decide (p-e.place≥x.gap)
def noteL (x:IdxA) (o p:Int):List EntA:=if newE x p then x.l++[⟨o,p,x.late⟩] else x.l
def noteA (x:IdxA) (o p t:Int):Int × IdxA:=if ¬ mayN o p t then (2,x) else if o≤x.offset∨p≤x.place then (21,x) else (0,⟨o,p,max x.late t,x.gap,noteL x o p⟩)
def idxG:IdxA→Int→List BatM→IdxA
 | x,_,[]=>x
 | x,q,b::bs=>idxG (noteA x b.base q (lateB b)).2 (q+(frL b).length) bs
def SegA.idx (gap:Int) (s:SegA):IdxA:=idxG (idx0 gap) (shL s.base s.fin).length s.bs
def findE (l:List EntA) (o:Int):Option EntA:=(l.filter fun e=>decide (e.offset≤o)).getLast?
theorem idxG_snoc:∀ (bs:List BatM) (x:IdxA) (q:Int) (b:BatM),idxG x q (bs++[b])=(noteA (idxG x q bs) b.base (q+(bs.flatMap frL).length) (lateB b)).2
 | [],x,q,b=>by simp [idxG]
 | a::bs,x,q,b=>by
  show idxG (noteA x a.base q (lateB a)).2 (q+(frL a).length) (bs++[b])=_
  rw [idxG_snoc bs]
  rw [show q+((frL a).length:Int)+((bs.flatMap frL).length:Nat)=q+(((a::bs).flatMap frL).length:Nat) by rw [List.flatMap_cons,List.length_append];omega]
  rfl
theorem timeG_le:∀ {rs:List RecM} {x:Int},x≤timeG x rs∧∀ r ∈ rs,r.time≤timeG x rs
 | [],x=>⟨Int.le_refl _,fun _ h=>by cases h⟩
 | r::rs,x=>by
  have h:=timeG_le (rs:=rs) (x:=max x r.time)
  have e:timeG x (r::rs)=timeG (max x r.time) rs:=rfl
  rw [e]
  refine ⟨by omega,fun y hy=>?_⟩
  rcases List.mem_cons.1 hy with rfl|hy
  ·omega
  ·exact h.2 y hy
theorem timeG_max:∀ {rs:List RecM} {x m:Int},x≤m→(∀ r ∈ rs,r.time≤m)→timeG x rs≤m
 | [],x,m,h,_=>h
 | r::rs,x,m,h,hr=>by
  have e:timeG x (r::rs)=timeG (max x r.time) rs:=rfl
  rw [e]
  have:=hr r (List.mem_cons_self ..)
  exact timeG_max (by omega) fun y hy=>hr y (List.mem_cons_of_mem _ hy)
theorem lateB_ok {b:BatM} (h:validB b=0):0≤lateB b∧lateB b≤1099511627776:=by
 obtain ⟨-,-,⟨-,-,-,-,-,htm⟩,-,-⟩:=span_le b h
 obtain ⟨-,hrs⟩:=valid_recs h
 unfold lateB
 split
 ·exact htm
 ·rename_i hne
  obtain ⟨r,hr⟩:=List.exists_mem_of_ne_nil _ hne
  have h1:=(timeG_le (rs:=b.rs) (x := -1)).2 r hr
  have h2:=(recF_zero (hrs r hr)).2.2.1
  refine ⟨by omega,timeG_max (by omega) fun r hr=>(recF_zero (hrs r hr)).2.2.1.2⟩
theorem lateG_le:∀ {bs:List BatM} {x:Int},x≤lateG x bs∧∀ b ∈ bs,lateB b≤lateG x bs
 | [],x=>⟨Int.le_refl _,fun _ h=>by cases h⟩
 | r::rs,x=>by
  have h:=lateG_le (bs:=rs) (x:=max x (lateB r))
  have e:lateG x (r::rs)=lateG (max x (lateB r)) rs:=rfl
  rw [e]
  refine ⟨by omega,fun y hy=>?_⟩
  rcases List.mem_cons.1 hy with rfl|hy
  ·omega
  ·exact h.2 y hy
theorem lateG_max:∀ {bs:List BatM} {x m:Int},x≤m→(∀ b ∈ bs,lateB b≤m)→lateG x bs≤m
 | [],x,m,h,_=>h
 | r::rs,x,m,h,hr=>by
  have e:lateG x (r::rs)=lateG (max x (lateB r)) rs:=rfl
  rw [e]
  have:=hr r (List.mem_cons_self ..)
  exact lateG_max (by omega) fun y hy=>hr y (List.mem_cons_of_mem _ hy)
theorem lateG_take {x:Int} (bs:List BatM) (i:Nat):lateG x (bs.take i)≤lateG x bs :=
 lateG_max lateG_le.1 fun b hb=>lateG_le.2 b (List.mem_of_mem_take hb)
structure IdxOk (gap q:Int) (bs:List BatM) (x:IdxA):Prop where
 gap:x.gap=gap
 late:x.late=lateG (-1) bs
 offset:x.offset=match bs.getLast? with|none => -1|some b=>b.base
 place:x.place<q+(bs.flatMap frL).length
 lplace:∀ e ∈ x.l,e.place≤x.place
 ent:∀ e ∈ x.l,∃ i,∃ hi:i<bs.length,e=⟨bs[i].base,q+((bs.take i).flatMap frL).length,lateG (-1) (bs.take i)⟩
 first:∀ b,bs.head? = some b→x.l.head? = some ⟨b.base,q,-1⟩
 offs:x.l.Pairwise fun a b=>a.offset<b.offset
 befs:x.l.Pairwise fun a b=>a.before≤b.before
theorem last_base {n:Int} {bs:List BatM} {b:BatM} (h:BsOk n (bs++[b])) (h0:0≤n):validB b=0∧n≤b.base∧(∀ c,bs.getLast? = some c→c.base<b.base)∧BsOk n bs∧nextG bs≤b.base:=by
 induction bs generalizing n with
 | nil=>exact ⟨h.1,h.2.2.1,by simp,trivial,by have:=h.2.2.1;show (0:Int)≤_;omega⟩
 | cons a bs ih =>
  obtain ⟨h1,h2,h3,h4⟩:=h
  obtain ⟨s1,-,⟨-,hba,-⟩,-,s2⟩:=span_le a h1
  obtain ⟨i1,i2,i3,i4,i5⟩:=ih h4 (by omega)
  refine ⟨i1,by omega,fun c hc=>?_,⟨h1,h2,h3,i4⟩,?_⟩
  ·cases bs with
   | nil=>simp at hc;subst hc;omega
   | cons d ds=>exact i3 c (by simpa using hc)
  ·cases bs with
   | nil=>show a.base+spanB a≤_;omega
   | cons d ds=>exact i5
theorem idx_ok (gap:Int):∀ (m:Nat) {n q:Int} {bs:List BatM},bs.length=m→0≤n→0≤q→BsOk n bs→q+(bs.flatMap frL).length≤4194304→IdxOk gap q bs (idxG (idx0 gap) q bs)
 | 0,n,q,bs,hm,_,hq,_,_=>by
  have:bs=[]:=List.length_eq_zero_iff.1 hm
  subst this
  exact ⟨rfl,rfl,rfl,by show (-1:Int)<_;simp;omega,(fun _ h=>by cases h),(fun _ h=>by cases h),(fun _ h=>by cases h),.nil,.nil⟩
 | m+1,n,q,bs,hm,hn,hq,hb,hl=>by
  have hne:bs≠[]:=by rintro rfl;cases hm
  obtain ⟨bs,b,rfl⟩:∃ cs b,bs=cs++[b]:=⟨bs.dropLast,bs.getLast hne,(List.dropLast_concat_getLast hne).symm⟩
  rw [List.length_append] at hm
  obtain ⟨hv,hnb,hlb,hb',-⟩:=last_base hb hn
  have hfl:=frL_len hv
  have hfl2:((bs++[b]).flatMap frL).length=(bs.flatMap frL).length+(frL b).length:=by simp
  have ih:=idx_ok gap m (by simpa using hm) hn hq hb' (by omega)
  have hlt:=lateB_ok hv
  obtain ⟨-,-,⟨-,hba,-⟩,-,-⟩:=span_le b hv
  rw [idxG_snoc]
  generalize hx:idxG (idx0 gap) q bs=x at ih
  have hoff:x.offset<b.base:=by
   rw [ih.offset]
   cases hc:bs.getLast? with
   | none=>show (-1:Int)<_;omega
   | some c=>exact hlb c hc
  unfold noteA
  rw [if_neg (by intro h;apply h;exact ⟨by omega,by omega,by omega⟩),if_neg (by have:=ih.place;omega)]
  have hw:∀ (i:Nat) (hi:i<bs.length),(bs++[b])[i]'(by rw [List.length_append];omega)=bs[i]∧(bs++[b]).take i=bs.take i:=fun i hi=>⟨List.getElem_append_left hi,by rw [List.take_append_of_le_length (by omega)]⟩
  have hmem:∀ e ∈ noteL x b.base (q+(bs.flatMap frL).length),e ∈ x.l∨e=⟨b.base,q+(bs.flatMap frL).length,x.late⟩:=fun e he=>by
   unfold noteL at he
   split at he
   ·rcases List.mem_append.1 he with he|he
    ·exact .inl he
    ·exact .inr (by simpa using he)
   ·exact .inl he
  have hent:∀ e ∈ x.l,e.offset<b.base∧e.before≤x.late:=fun e he=>by
   obtain ⟨i,hi,rfl⟩:=ih.ent e he
   refine ⟨?_,by rw [ih.late];exact lateG_take bs i⟩
   have hlast:∀ {n:Int} {bs:List BatM},BsOk n bs→0≤n→∀ (i:Nat) (hi:i<bs.length),bs[i].base<nextG bs:=by
    intro n bs hbs hn i hi
    have h1:BsOk n (bs.take i++[bs[i]]):=by
     have:=hbs.take (i+1)
     rwa [List.take_succ_eq_append_getElem hi] at this
    have h2:=last_base h1 hn
    have h3:∀ {n:Int} {ds cs:List BatM},BsOk n (ds++cs)→0≤n→nextG ds≤nextG (ds++cs):=by
     intro n ds cs h hn
     induction cs generalizing ds with
     | nil=>rw [List.append_nil];exact Int.le_refl _
     | cons c cs ih =>
      have h':BsOk n ((ds++[c])++cs):=by rwa [List.append_assoc]
      have i1:=ih h'
      rw [List.append_assoc] at i1
      have h4:BsOk n (ds++[c]):=by
       have:=h'.take (ds++[c]).length
       rwa [List.take_left] at this
      have h5:=last_base h4 hn
      obtain ⟨s1,-,-,-,-⟩:=span_le c h5.1
      have e:nextG (ds++[c])=c.base+spanB c:=nextG_snoc ds c
      have i1:nextG (ds++[c])≤nextG (ds++(c::cs)):=i1
      have:=h5.2.2.2.2
      omega
    have h6:=h3 (ds:=bs.take i++[bs[i]]) (cs:=bs.drop (i+1)) (by rw [← List.take_succ_eq_append_getElem hi,List.take_append_drop];exact hbs) hn
    rw [← List.take_succ_eq_append_getElem hi,List.take_append_drop,List.take_succ_eq_append_getElem hi,nextG_snoc] at h6
    obtain ⟨s1,-,-,-,-⟩:=span_le _ h2.1
    omega
   have h7:=hlast hb' hn i hi
   have h8:=(last_base hb hn).2.2.2.2
   show bs[i].base<b.base
   omega
  refine ⟨ih.gap,?_,by rw [getLast_snoc],?_,?_,?_,?_,?_,?_⟩
  ·rw [lateG_snoc,← ih.late]
  ·show q+((bs.flatMap frL).length:Int)<_
   omega
  ·intro e he
   show e.place≤q+((bs.flatMap frL).length:Int)
   rcases hmem e he with he|rfl
   ·have:=ih.lplace e he
    have:=ih.place
    omega
   ·exact Int.le_refl _
  ·intro e he
   rcases hmem e he with he|rfl
   ·obtain ⟨i,hi,rfl⟩:=ih.ent e he
    obtain ⟨h1,h2⟩:=hw i hi
    exact ⟨i,by rw [List.length_append];omega,by rw [h1,h2]⟩
   ·refine ⟨bs.length,by simp,?_⟩
    rw [List.getElem_append_right (Nat.le_refl _),List.take_left,ih.late]
    simp
  ·intro a ha
   show (noteL x b.base (q+(bs.flatMap frL).length)).head? = _
   cases bs with
   | nil =>
    simp at ha
    subst ha
    subst hx
    show some (⟨b.base,q+((([]:List BatM).flatMap frL).length:Int),-1⟩:EntA)=_
    congr 2
    simp
   | cons c cs =>
    have h1:=ih.first a (by simpa using ha)
    unfold noteL
    split
    ·rw [List.head?_append,h1];rfl
    ·exact h1
  ·show (noteL x b.base _).Pairwise _
   unfold noteL
   split
   ·refine List.pairwise_append.2 ⟨ih.offs,by simp,fun a ha c hc=>?_⟩
    simp at hc
    subst hc
    exact (hent a ha).1
   ·exact ih.offs
  ·show (noteL x b.base _).Pairwise _
   unfold noteL
   split
   ·refine List.pairwise_append.2 ⟨ih.befs,by simp,fun a ha c hc=>?_⟩
    simp at hc
    subst hc
    exact (hent a ha).2
   ·exact ih.befs
theorem filter_cut {α:Type} {p:α→Bool} {l:List α} {i:Nat} (hi:i≤l.length) (h1:∀ x ∈ l.take i,p x=true) (h2:∀ x ∈ l.drop i,p x=false):l.filter p=l.take i:=by
 rw [← List.take_append_drop i l,List.filter_append,List.filter_eq_self.2 h1,List.filter_eq_nil_iff.2 fun x hx=>by rw [h2 x hx];simp,List.append_nil]
 rw [List.take_append_drop]
theorem search_cut {α:Type} {p:α→Bool} {l:List α} {i:Nat} (hi:i≤l.length) (hm:l.Pairwise fun a b=>p b=true→p a=true) (h1:∀ (h:i-1<l.length),0<i→p l[i-1]=true) (h2:∀ h:i<l.length,p l[i]=false):l.filter p=l.take i:=by
 have hm':∀ (a b:Nat) (hb:b<l.length) (h:a<b),p l[b]=true→p (l[a]'(by omega))=true:=fun a b hb h=>List.pairwise_iff_getElem.1 hm a b (by omega) hb h
 refine filter_cut hi (fun x hx=>?_) fun x hx=>?_
 ·obtain ⟨j,hj,rfl⟩:=List.mem_iff_getElem.1 hx
  rw [List.length_take] at hj
  rw [List.getElem_take]
  by_cases hji:j=i-1
  ·subst hji;exact h1 (by omega) (by omega)
  ·exact hm' j (i-1) (by omega) (by omega) (h1 (by omega) (by omega))
 ·obtain ⟨j,hj,rfl⟩:=List.mem_iff_getElem.1 hx
  rw [List.length_drop] at hj
  rw [List.getElem_drop]
  cases hp:p (l[i+j]'(by omega)) with
  | false=>rfl
  | true =>
   have h3:=h2 (by omega)
   by_cases hj0:j=0
   ·subst hj0;simp only [Nat.add_zero] at hp;rw [hp] at h3;cases h3
   ·have:=hm' i (i+j) (by omega) (by omega) hp
    rw [this] at h3;cases h3
theorem take_last {α:Type} {l:List α} {i:Nat} (hi:i≤l.length):(l.take i).getLast? = if i=0 then none else l[i-1]? := by
 cases i with
 | zero=>simp
 | succ i =>
  rw [if_neg (by omega),List.take_succ_eq_append_getElem (by omega),getLast_snoc]
  simp
theorem last_filter {α:Type} {p:α→Bool} {l:List α} {e:α} (h:(l.filter p).getLast? = some e):∃ a c,l=a++e::c∧p e=true∧∀ x ∈ c,p x=false:=by
 induction l with
 | nil=>simp at h
 | cons y r ih =>
  rw [List.filter_cons] at h
  by_cases hr:(r.filter p)=[]
  ·split at h
   ·rw [hr] at h
    simp at h
    subst h
    exact ⟨[],r,rfl,by assumption,fun x hx=>by simpa using List.filter_eq_nil_iff.1 hr x hx⟩
   ·rw [hr] at h;simp at h
  ·have h':(r.filter p).getLast? = some e:=by
    split at h
    ·cases hq:r.filter p with
     | nil=>exact absurd hq hr
     | cons z zs=>rw [hq] at h;simpa using h
    ·exact h
   obtain ⟨a,c,rfl,h1,h2⟩:=ih h'
   exact ⟨y::a,c,rfl,h1,h2⟩
theorem Ret.mono {P:Program} {f:FuncId} {args:Array Value} {w:World} {R R':List Value→World→Prop} (h:Ret P f args w R) (hi:∀ vs w',R vs w'→R' vs w'):Ret P f args w R' :=
 Calls.mono h fun e w' ⟨vs,he,hv⟩=>⟨vs,he,hi _ _ hv⟩
def stR (R:RdM):Lf:=if R.e=0 then some (Rest R) else none
theorem stR_ok {R:RdM} (h:R.e=0):stR R=some (Rest R):=if_pos h
theorem stR_no {R:RdM} (h:R.e≠0):stR R=none:=if_neg h
theorem stR_some {R:RdM}:(stR R).isSome=decide (R.e=0):=by
 unfold stR;split <;> simp [*]
theorem st_uint {R:RdM}:(R.uint).1=(uintS (stR R)).1∧stR R.uint.2=(uintS (stR R)).2:=by
 by_cases h:R.e=0
 ·rw [stR_ok h]
  cases hn:numR 0 (R.bs.drop R.at_) with
  | none =>
   have e1:R.uint=(0,⟨R.bs,R.at_,6⟩):=by unfold RdM.uint;rw [if_neg (by rw [h];simp)];simp only [hn]
   have e2:uintS (some (Rest R))=(0,none):=by unfold uintS Rest;simp only [hn]
   rw [e1,e2]
   exact ⟨rfl,if_neg (show ¬ (6:Int)=0 by decide)⟩
  | some q =>
   have e1:R.uint=(q.1,⟨R.bs,R.at_+q.2,R.e⟩):=by unfold RdM.uint;rw [if_neg (by rw [h];simp)];simp only [hn]
   have e2:uintS (some (Rest R))=(q.1,some ((Rest R).drop q.2)):=by unfold uintS Rest;simp only [hn]
   rw [e1,e2]
   refine ⟨rfl,?_⟩
   show (if R.e=0 then some (R.bs.drop (R.at_+q.2)) else none)=some ((R.bs.drop R.at_).drop q.2)
   rw [if_pos h,List.drop_drop]
 ·rw [uint_err h]
  show 0=(uintS (stR R)).1∧stR R=(uintS (stR R)).2
  rw [stR_no h]
  exact ⟨rfl,rfl⟩
theorem st_within {R:RdM} {lo hi:Int}:(R.within lo hi).1=(withinS lo hi (stR R)).1∧stR (R.within lo hi).2=(withinS lo hi (stR R)).2:=by
 obtain ⟨h1,h2⟩:=st_uint (R:=R)
 unfold RdM.within withinS
 rw [← h1,← h2]
 by_cases h:R.uint.2.e=0
 ·rw [if_neg (by rw [h];simp),stR_ok h]
  simp only
  by_cases hc:zag R.uint.1<lo∨zag R.uint.1>hi
  ·rw [if_pos hc,if_pos hc]
   exact ⟨rfl,if_neg (show ¬ (8:Int)=0 by decide)⟩
  ·rw [if_neg hc,if_neg hc]
   exact ⟨rfl,stR_ok h⟩
 ·rw [if_pos h]
  show 0=_∧stR R.uint.2=_
  rw [stR_no h]
  exact ⟨rfl,rfl⟩
def rdS (T':TypeId) (p:Nat) (s:Lf):HP:=HP.ex fun R:RdM=>HP.and (stR R=s) (rdP T' p R)
section
variable {w:World} {l r:List HP} {p:Nat} {s:Lf} {T':TypeId}
theorem rdS_open (hs:Sat w (rdS T' p s::l)):∃ R:RdM,stR R=s∧Sat w (rdP T' p R::l):=by
 obtain ⟨R,hs⟩:=hs.ex
 obtain ⟨h,hs⟩:=hs.and
 exact ⟨R,h,hs⟩
theorem rdS_close {R:RdM} (h:stR R=s) (hs:Sat w (rdP T' p R::l)):Sat w (rdS T' p s::l):=.ex_mk R (.and_mk h hs)
theorem newS_c (x:Sl) (bs:List UInt8) [hx:FocR l x 1 (bs.flatMap encU)] (hn:bs.length≤1000000000) (hs:Sat w l) :
  Ret P F.a127 #[x.v] w fun vs w'=>∃ p:Nat,vs=[.pointer (some ⟨p,0,none⟩)]∧Sat w' (rdS T.a36 p (some bs)::l) :=
 (newreader_c x bs hn hs).mono fun _ _ h=>by
  obtain ⟨p,rfl,hs⟩:=h
  exact ⟨p,rfl,rdS_close (R:=⟨bs,0,0⟩) rfl hs⟩
theorem uintS_c [hf:Fo l (rdS T.a36) p s r] (hs:Sat w l):Ret P F.a134 #[.pointer (some ⟨p,0,none⟩)] w fun vs w'=>vs=[.int .u64 ((uintS s).1:Int)]∧Sat w' (rdS T.a36 p (uintS s).2::r):=by
 obtain ⟨R,rfl,hs⟩:=rdS_open (hs.perm hf.perm)
 refine (ruint_c (p:=p) hs).mono fun _ _ h=>?_
 obtain ⟨rfl,hs⟩:=h
 exact ⟨by rw [st_uint.1],rdS_close st_uint.2 hs⟩
theorem withinS_c (lo hi:Int) [hf:Fo l (rdS T.a36) p s r] (hs:Sat w l):Ret P F.a135 #[.pointer (some ⟨p,0,none⟩),.int .i64 lo,.int .i64 hi] w fun vs w'=>vs=[.int .i64 (withinS lo hi s).1]∧Sat w' (rdS T.a36 p (withinS lo hi s).2::r):=by
 obtain ⟨R,rfl,hs⟩:=rdS_open (hs.perm hf.perm)
 refine (rwithin_c (p:=p) lo hi hs).mono fun _ _ h=>?_
 obtain ⟨rfl,hs⟩:=h
 exact ⟨by rw [st_within.1],rdS_close st_within.2 hs⟩
theorem errS_c [hf:Fo l (rdS T.a36) p s r] (hs:Sat w l):Ret P F.a130 #[.pointer (some ⟨p,0,none⟩)] w fun vs w'=>∃ e:Int,vs=[.int .i64 e]∧(e=0↔s.isSome=true)∧Sat w' (rdS T.a36 p s::r):=by
 obtain ⟨R,rfl,hs⟩:=rdS_open (hs.perm hf.perm)
 refine (rerr_c (p:=p) hs).mono fun _ _ h=>?_
 obtain ⟨rfl,hs⟩:=h
 exact ⟨R.e,rfl,by rw [stR_some,decide_eq_true_iff],rdS_close rfl hs⟩
theorem endS_c [hf:Fo l (rdS T.a36) p s r] (hs:Sat w l):Ret P F.a129 #[.pointer (some ⟨p,0,none⟩)] w fun vs w'=>∃ e:Int,vs=[.int .i64 e]∧(e=0↔s=some [])∧Sat w' r:=by
 obtain ⟨R,rfl,hs⟩:=rdS_open (hs.perm hf.perm)
 have hb:=(rd_bound hs).1
 refine (rend_c (p:=p) hs).mono fun _ _ h=>?_
 obtain ⟨rfl,hs⟩:=h
 refine ⟨_,rfl,?_,hs.tail⟩
 rw [done_cases hb]
 unfold stR
 by_cases h:R.e=0 <;> simp [h]
end
section
variable {w:World} {l r:List HP} {p:Nat} {s:Lf}
theorem wflag_c (b:Bool) (hs:Sat w l):Ret P F.a124 #[.bool b] w fun vs w'=>∃ z:Sl,vs=[z.v]∧Sat w' (slc T.a34 1 z ([flagB b].flatMap encU)::l) :=
 zf133_calls b <| by
  unfold zf133
  refine wp_if (fun h=>?_) fun h=>?_
  ·subst h
   refine wp_slit1 hs (enc:=encU) (1:UInt8) fun z w' hs=>?_
   exact ⟨rfl,z,rfl,hs⟩
  ·have h:b=false:=by simpa using h
   subst h
   refine wp_slit1 hs (enc:=encU) (0:UInt8) fun z w' hs=>?_
   exact ⟨rfl,z,rfl,hs⟩
theorem ptake_c (n:Nat) {x:Sl} {bs:List UInt8} {e:Int} {at_:Nat} (hn:at_+n≤bs.length) (hb:bs.length≤1000000000) (hcap:x.len≤x.cap) [hf:FocB l p (.cells [.slice x.a x.len x.cap,.int .i64 at_,.int .i64 e].toArray T.a36) r] [hr:FocR r x 1 (bs.flatMap encU)] (hs:Sat w l) :
  Ret P F.a141 #[.pointer (some ⟨p,0,none⟩),.int .i64 n] w fun vs w'=>vs=[.slice (cutA x.a 1 at_ x.cap) n (x.cap-at_)]∧Sat w' (pt p (.cells #[.slice x.a x.len x.cap,.int .i64 (at_+n:Nat),.int .i64 e] T.a36)::r) :=
 zf150_calls _ n <| by
  unfold zf150
  have hs:=hs.perm hf.perm
  have hl:=hs.slen x (xs:=bs) (enc:=encU)
  refine wp_nn ?_
  refine wp_ldO hs ?_
  refine wp_nn ?_
  have e2:IntKind.wrap .i64 ((at_:Int)+n)=((at_+n:Nat):Int):=by rw [w64 (by omega) (by omega)];omega
  rw [e2]
  refine wp_stO hs fun w' hs=>?_
  refine wp_tk hs fun w' hs=>?_
  refine wp_nn ?_
  refine wp_ldO hs ?_
  refine wp_nn ?_
  refine wp_ldO hs ?_
  refine wp_nn ?_
  refine wp_ldO hs ?_
  have e3:IntKind.wrap .i64 (((at_+n:Nat):Int)-n)=(at_:Int):=by rw [w64 (by omega) (by omega)];omega
  rw [e3]
  refine wp_must (by omega) ?_
  refine wp_untick ?_
  refine ⟨rfl,?_,hs⟩
  simp only [Int.toNat_natCast,Nat.add_sub_cancel_left]
end
theorem bvi (s:BitVec 32):BitVec.ofInt 32 ((s.toNat:Nat):Int)=s:=by rw [BitVec.ofInt_natCast,BitVec.ofNat_toNat,BitVec.setWidth_eq]
theorem wbv (s:BitVec 32):IntKind.wrap .u32 ((s.toNat:Nat):Int)=((s.toNat:Nat):Int):=by rw [wu32m,Nat.mod_eq_of_lt s.isLt]
theorem not_eq (s:BitVec 32):BitVec.ofInt 32 4294967295 ^^^ BitVec.ofInt 32 ((s.toNat:Nat):Int) = ~~~ s:=by
 rw [bvi]
 have:BitVec.ofInt 32 4294967295=BitVec.allOnes 32:=by decide +kernel
 rw [this,BitVec.allOnes_xor]
theorem halve (s:BitVec 32):BitVec.ofInt 32 (Int.fdiv ((s.toNat:Nat):Int) 2)=s >>> 1:=by
 rw [fdiv_nat _ (by decide),BitVec.ofInt_natCast]
 apply BitVec.eq_of_toNat_eq
 have:=s.isLt
 rw [BitVec.toNat_ofNat,BitVec.toNat_ushiftRight,Nat.shiftRight_eq_div_pow]
 show s.toNat / 2 % 2 ^ 32=s.toNat / 2 ^ 1
 omega
theorem neg_eq (s:BitVec 32):BitVec.ofInt 32 (IntKind.wrap .u32 (0-((s.toNat:Nat):Int)))=0#32-s:=by
 apply BitVec.eq_of_toNat_eq
 have:=s.isLt
 have e:IntKind.wrap .u32 (0-((s.toNat:Nat):Int))=(((4294967296-s.toNat) % 4294967296:Nat):Int):=by
  simp [IntKind.wrap,IntKind.bits,IntKind.signed];omega
 rw [e,BitVec.ofInt_natCast,BitVec.toNat_ofNat,BitVec.toNat_sub]
 simp
theorem step_eq (s:BitVec 32):IntKind.wrap .u32 (((BitVec.toNat (BitVec.ofInt 32 (Int.fdiv ((s.toNat:Nat):Int) 2) ^^^ BitVec.ofInt 32 (IntKind.wrap .u32 (((BitVec.toNat (BitVec.ofInt 32 3988292384 &&& BitVec.ofInt 32 (IntKind.wrap .u32 (0-IntKind.wrap .u32 (((BitVec.toNat (BitVec.ofInt 32 ((s.toNat:Nat):Int) &&& BitVec.ofInt 32 1):Nat):Int))))):Nat):Int)))):Nat):Int))=(((crcS s).toNat:Nat):Int):=by
 rw [wbv,wbv,wbv,bvi,bvi,neg_eq,halve]
 rfl
theorem xor_byte (s:BitVec 32) (c:UInt8):IntKind.wrap .u32 (((BitVec.toNat (BitVec.ofInt 32 ((s.toNat:Nat):Int) ^^^ BitVec.ofInt 32 (IntKind.wrap .u32 ((c.toNat:Nat):Int))):Nat):Int))=(((s ^^^ BitVec.ofNat 32 c.toNat).toNat:Nat):Int):=by
 have:=c.toNat_lt
 rw [wbv,bvi,wu32m,Nat.mod_eq_of_lt (by omega),BitVec.ofInt_natCast]
section
variable {w:World} {l r:List HP} {Q:Post} {S:World→Prop}
theorem crcL_take (s:BitVec 32) (bs:List UInt8) (i:Nat) (hi:i<bs.length):crcL s (bs.take (i+1))=crcB (crcL s (bs.take i)) bs[i]:=by
 unfold crcL
 rw [List.take_add_one,List.getElem?_eq_getElem hi,Option.toList_some,List.foldl_append];rfl
theorem fmore_c (m:BitVec 32) (x:Sl) (ps:List (Sl × List UInt8)) [hx:FocR l x 1 ((ps.map Prod.fst).flatMap encSl)] (hps:∀ p ∈ ps,FocR l p.1 1 (p.2.flatMap encU)∧p.2.length≤1000000000) (hpl:ps.length≤1000000) (hs:Sat w l) :
  Ret P F.a17 #[.int .u32 ((m.toNat:Nat):Int),x.v] w fun vs w'=>vs=[.int .u32 (((moreL m (ps.flatMap Prod.snd)).toNat:Nat):Int)]∧Sat w' l :=
 zf19_calls _ x <| by
  unfold zf19
  have hl:=hs.slen x (xs:=ps.map Prod.fst) (enc:=encSl)
  rw [List.length_map] at hl
  rw [not_eq,wbv]
  refine wp_lt ?_
  refine wp_mid (fun u w'=>u=((((crcL (~~~ m) (ps.flatMap Prod.snd)).toNat:Nat):Int),())∧Sat w' l) ?_ ?_
  rotate_left
  ·rintro _ w' ⟨rfl,hs⟩
   refine wp_on ?_
   rw [not_eq,wbv]
   refine wp_lt ?_
   exact ⟨rfl,rfl,hs⟩
  refine wp_loop (fun k u w=>∃ i:Nat,u=((((crcL (~~~ m) ((ps.take i).flatMap Prod.snd)).toNat:Nat):Int),(i:Int),())∧i≤ps.length∧ps.length-i=k∧Sat w l) ps.length ⟨0,rfl,by omega,rfl,hs⟩ ?_
  clear hs
  rintro k _ w ⟨i,rfl,hi,hk,hs⟩
  refine wp_on ?_
  refine wp_if (fun hc=>?_) fun hc=>?_
  rotate_left
  ·refine wp_pass (wp_lv ⟨?_,hs⟩)
   rw [List.take_of_length_le (by omega)]
  have hil:i<ps.length:=by omega
  obtain ⟨hF,hpl2⟩:=hps _ (List.getElem_mem hil)
  have hpi:=hs.slen ps[i].1 (xs:=ps[i].2) (enc:=encU)
  refine wp_mid (fun u w'=>u=((((crcL (~~~ m) ((ps.take (i+1)).flatMap Prod.snd)).toNat:Nat):Int),())∧Sat w' l) ?_ ?_
  rotate_left
  ·rintro _ w' ⟨rfl,hs⟩
   refine wp_on ?_
   refine wp_dn (us':=[.int .u32 (((crcL (~~~ m) ((ps.take (i+1)).flatMap Prod.snd)).toNat:Nat):Int),.int .i64 ((i+1:Nat):Int)]) (by (try simp (disch:=omega) only [w64]);first|rfl|(congr;omega)) ?_
   refine wp_lp (ps.length-(i+1)) ?_
   exact ⟨i+1,rfl,by omega,rfl,hs⟩
  refine wp_ix1 hs (xs:=ps.map Prod.fst) (enc:=encSl) i (by rw [List.length_map];exact hil) ?_
  rw [List.getElem_map]
  have hto:crcL (~~~ m) ((ps.take (i+1)).flatMap Prod.snd)=crcL (crcL (~~~ m) ((ps.take i).flatMap Prod.snd)) ps[i].2:=by
   rw [List.take_add_one,List.getElem?_eq_getElem hil,Option.toList_some,List.flatMap_append,List.flatMap_singleton]
   unfold crcL
   rw [List.foldl_append]
  rw [hto]
  generalize crcL (~~~ m) ((ps.take i).flatMap Prod.snd)=s0
  generalize ps[i]=q at *
  refine wp_mid (fun u w'=>u=((((crcL s0 q.2).toNat:Nat):Int),())∧Sat w' l) ?_ (by rintro _ w' ⟨rfl,hs⟩;refine wp_on ?_;exact wp_lv ⟨rfl,hs⟩)
  refine wp_loop (fun k u w=>∃ j:Nat,u=((((crcL s0 (q.2.take j)).toNat:Nat):Int),(j:Int),())∧j≤q.2.length∧q.2.length-j=k∧Sat w l) q.2.length ⟨0,rfl,by omega,rfl,hs⟩ ?_
  clear hs
  rintro k _ w ⟨j,rfl,hj,hk,hs⟩
  refine wp_on ?_
  refine wp_if (fun hc=>?_) fun hc=>?_
  rotate_left
  ·refine wp_pass (wp_lv ⟨?_,hs⟩)
   rw [List.take_of_length_le (by omega)]
  have hjl:j<q.2.length:=by omega
  refine wp_mid (fun u w'=>u=((((crcL s0 (q.2.take (j+1))).toNat:Nat):Int),())∧Sat w' l) ?_ ?_
  rotate_left
  ·rintro _ w' ⟨rfl,hs⟩
   refine wp_on ?_
   refine wp_dn (us':=[.int .u32 (((crcL s0 (q.2.take (j+1))).toNat:Nat):Int),.int .i64 ((j+1:Nat):Int)]) (by (try simp (disch:=omega) only [w64]);first|rfl|(congr;omega)) ?_
   refine wp_lp (q.2.length-(j+1)) ?_
   exact ⟨j+1,rfl,by omega,rfl,hs⟩
  refine wp_ix1 hs (xs:=q.2) (enc:=encU) j hjl ?_
  refine wp_lt ?_
  rw [xor_byte]
  refine wp_lt ?_
  rw [crcL_take s0 q.2 j hjl]
  generalize crcL s0 (q.2.take j)=s1
  show Prog.wp P _ _ _ _
  refine wp_mid (fun u w'=>u=((((crcB s1 q.2[j]).toNat:Nat):Int),())∧Sat w' l) ?_ (by rintro _ w' ⟨rfl,hs⟩;refine wp_on ?_;exact wp_lv ⟨rfl,hs⟩)
  unfold crcB
  generalize s1 ^^^ BitVec.ofNat 32 q.2[j].toNat=s2
  refine wp_loop (fun k u w=>∃ i:Nat,u=((((crcN i s2).toNat:Nat):Int),(i:Int),())∧i≤8∧8-i=k∧Sat w l) 8 ⟨0,rfl,by omega,rfl,hs⟩ ?_
  clear hs
  rintro k _ w ⟨i,rfl,hi,hk,hs⟩
  refine wp_on ?_
  refine wp_if (fun hc=>?_) fun hc=>?_
  rotate_left
  ·obtain rfl:i=8:=by omega
   exact wp_pass (wp_lv ⟨rfl,hs⟩)
  rw [step_eq]
  refine wp_lt ?_
  refine wp_dn (us':=[.int .u32 (((crcS (crcN i s2)).toNat:Nat):Int),.int .i64 ((i+1:Nat):Int)]) (by (try simp (disch:=omega) only [w64]);first|rfl|(congr;omega)) ?_
  refine wp_lp (8-(i+1)) ?_
  exact ⟨i+1,rfl,by omega,rfl,hs⟩
theorem fsum_c (x:Sl) (ps:List (Sl × List UInt8)) [hx:FocR l x 1 ((ps.map Prod.fst).flatMap encSl)] (hps:∀ p ∈ ps,FocR l p.1 1 (p.2.flatMap encU)∧p.2.length≤1000000000) (hpl:ps.length≤1000000) (hs:Sat w l) :
  Ret P F.a19 #[x.v] w fun vs w'=>vs=[.int .u32 ((sumL (ps.flatMap Prod.snd):Nat):Int)]∧Sat w' l :=
 zf21_calls x <| by
  unfold zf21
  refine wp_call (fmore_c 0#32 x ps hps hpl hs) fun _ _ hs=>?_
  obtain ⟨rfl,hs⟩:=hs
  refine ret_of ?_
  refine wp_lt ?_
  exact ⟨rfl,rfl,hs⟩
theorem fsum1_c (x y:Sl) (bs:List UInt8) [hx:FocR l x 1 ([y].flatMap encSl)] [hy:FocR l y 1 (bs.flatMap encU)] (hn:bs.length≤1000000000) (hs:Sat w l) :
  Ret P F.a19 #[x.v] w fun vs w'=>vs=[.int .u32 ((sumL bs:Nat):Int)]∧Sat w' l:=by
 have:=@fsum_c w l x [(y,bs)] hx (by intro p hp;rw [List.mem_singleton.1 hp];exact ⟨hy,hn⟩) (by simp) hs
 simpa using this
theorem ffour_c (n:Nat) (hn:n<4294967296) (hs:Sat w l):Ret P F.a20 #[.int .u32 (n:Int)] w fun vs w'=>∃ z:Sl,vs=[z.v]∧Sat w' (slc T.a34 1 z ((fourL n).flatMap encU)::l) :=
 zf22_calls n <| by
  unfold zf22
  have e0:IntKind.wrap .u8 (n:Int)=(((UInt8.ofNat n).toNat:Nat):Int):=by rw [wu8m];simp
  have e1:IntKind.wrap .u8 (Int.fdiv (n:Int) 256)=(((UInt8.ofNat (n / 256)).toNat:Nat):Int):=by rw [fdiv_nat n (by decide),wu8m];simp
  have e2:IntKind.wrap .u8 (Int.fdiv (n:Int) 65536)=(((UInt8.ofNat (n / 65536)).toNat:Nat):Int):=by rw [fdiv_nat n (by decide),wu8m];simp
  have e3:IntKind.wrap .u8 (Int.fdiv (n:Int) 16777216)=(((UInt8.ofNat (n / 16777216)).toNat:Nat):Int):=by rw [fdiv_nat n (by decide),wu8m];simp
  rw [e0,e1,e2,e3]
  refine wp_slit hs (enc:=encU) (fourL n) (cs:=((fourL n).flatMap encU).toArray) (by kernel_rfl) (fun b w' hs=>?_) (by simp)
  exact ⟨rfl,_,rfl,hs⟩
theorem dfour_c (n:Nat) (hn:n<4294967296) (hs:Sat w l):Ret P F.a106 #[.int .u32 (n:Int)] w fun vs w'=>∃ z:Sl,vs=[z.v]∧Sat w' (slc T.a34 1 z ((fourL n).flatMap encU)::l) :=
 zf115_calls n <| by
  unfold zf115
  refine wp_mid (fun u w'=>∃ z:Sl,u=(z,())∧Sat w' (slc T.a34 1 z ((fourL n).flatMap encU)::l)) ?_ (by rintro _ w' ⟨z,rfl,hs⟩;refine wp_on ?_;exact ⟨rfl,z,rfl,hs⟩)
  refine wp_loop (fun k u w=>∃ (i:Nat) (z:Sl),u=(((n / 256 ^ i:Nat):Int),z,(i:Int),())∧i≤4∧4-i=k∧Sat w (slc T.a34 1 z (((fourL n).take i).flatMap encU)::l)) 4 ⟨0,⟨none,0,0⟩,by simp,by omega,rfl,hs.slc_nil⟩ ?_
  clear hs
  rintro k _ w ⟨i,z,rfl,hi,hk,hs⟩
  refine wp_on ?_
  refine wp_if (fun hc=>?_) fun hc=>?_
  rotate_left
  ·obtain rfl:i=4:=by omega
   exact wp_pass (wp_lv ⟨z,rfl,hs⟩)
  have hil:i<(fourL n).length:=by rw [four_len];omega
  have hto:(fourL n).take (i+1)=(fourL n).take i++[UInt8.ofNat (n / 256 ^ i)]:=by
   rw [List.take_add_one,List.getElem?_eq_getElem hil,Option.toList_some]
   congr 2
   have hcase:i=0∨i=1∨i=2∨i=3:=by omega
   rcases hcase with rfl|rfl|rfl|rfl <;> simp [fourL]
  have hlen:((fourL n).take i).length≤4:=by rw [List.length_take];omega
  refine wp_ap0 hs (xs:=(fourL n).take i) (enc:=encU) (UInt8.ofNat (n / 256 ^ i)) (fun z w' hs=>?_) ?_
  ·rw [← hto] at hs
   have hlt:n / 256 ^ i≤n:=Nat.div_le_self ..
   refine wp_ltx (y:=((n / 256 ^ (i+1):Nat):Int)) ?_ ?_
   ·refine wp_ltx (y:=((i+1:Nat):Int)) ?_ (by rw [w64 (by omega) (by omega)];omega)
    refine wp_lp (4-(i+1)) ?_
    exact ⟨i+1,z,rfl,by omega,rfl,hs⟩
   ·rw [tdiv_nat _ (by decide),wu32m,Nat.pow_succ,← Nat.div_div_eq_div_mul]
    generalize n / 256 ^ i=m at hlt
    congr 1
    show m / 256 % _=m / 256
    omega
  ·rw [tmod_nat _ (by decide)]
   unfold encU
   rw [wu8m]
   simp
theorem or_parts {a b c d:Nat} (ha:a<256) (hb:b<256) (hc:c<256) (hd:d<256) :
  IntKind.wrap .u32 (((BitVec.toNat (BitVec.ofInt 32 (IntKind.wrap .u32 (((BitVec.toNat (BitVec.ofInt 32 (IntKind.wrap .u32 (((BitVec.toNat (BitVec.ofInt 32 (IntKind.wrap .u32 (a:Int)) ||| BitVec.ofInt 32 (IntKind.wrap .u32 (IntKind.wrap .u32 (b:Int)*256))):Nat):Int))) ||| BitVec.ofInt 32 (IntKind.wrap .u32 (IntKind.wrap .u32 (c:Int)*65536))):Nat):Int))) ||| BitVec.ofInt 32 (IntKind.wrap .u32 (IntKind.wrap .u32 (d:Int)*16777216))):Nat):Int))=((a+256*b+65536*c+16777216*d:Nat):Int):=by
 have wm:∀ {m:Nat},m<4294967296→IntKind.wrap .u32 (m:Int)=(m:Int):=fun {m} h=>by rw [wu32m,Nat.mod_eq_of_lt h]
 have or2:∀ {x y i:Nat},x<2 ^ i→y*2 ^ i+x<4294967296→BitVec.toNat (BitVec.ofInt 32 (x:Int) ||| BitVec.ofInt 32 ((y*2 ^ i:Nat):Int))=x+y*2 ^ i:=fun {x y i} h1 h2=>by
  rw [BitVec.ofInt_natCast,BitVec.ofInt_natCast,BitVec.toNat_or,BitVec.toNat_ofNat,BitVec.toNat_ofNat,Nat.mod_eq_of_lt (show x<2 ^ 32 by omega),Nat.mod_eq_of_lt (show y*2 ^ i<2 ^ 32 by omega),Nat.or_comm,Nat.mul_comm,← Nat.two_pow_add_eq_or_of_lt h1,Nat.add_comm]
 have m1:((b:Nat):Int)*256=((b*2 ^ 8:Nat):Int):=rfl
 have m2:((c:Nat):Int)*65536=((c*2 ^ 16:Nat):Int):=rfl
 have m3:((d:Nat):Int)*16777216=((d*2 ^ 24:Nat):Int):=rfl
 rw [wm (show a<_ by omega),wm (show b<_ by omega),wm (show c<_ by omega),wm (show d<_ by omega),m1,m2,m3,wm (show b*2 ^ 8<_ by omega),wm (show c*2 ^ 16<_ by omega),wm (show d*2 ^ 24<_ by omega),
  or2 (by omega) (by omega),wm (show a+b*2 ^ 8<_ by omega),or2 (by omega) (by omega),wm (show a+b*2 ^ 8+c*2 ^ 16<_ by omega),or2 (by omega) (by omega),wm (by omega)]
 congr 1
 omega
theorem num4_get {bs:List UInt8} (h:4≤bs.length):num4 bs=bs[0].toNat+256*bs[1].toNat+65536*bs[2].toNat+16777216*bs[3].toNat:=by
 match bs,h with
 | a::b::c::d::r,_=>rfl
theorem wp_ix1c {α:Type} {enc:α→List Value} {xs:List α} {sz m:Nat} {ii:Int} {x:Sl} {T:TypeId} {g':Prop} {p:Pr} {dec:α→p.D} {f:p.D→Prog} (hs:Sat w l) [hf:FocR l x sz (xs.flatMap enc)] [hE:EncN enc sz] [hD:Enc1 enc p dec] [hT:One P T]
  (n:Nat) (hn:n<xs.length) (h:(f (dec xs[n])).wp P S w Q) (hm:m=n*sz:=by rfl) (hi:ii=n:=by rfl) :
  (Prog.ex [.adr] (c1 fun a=>(0:Int)≤ii∧ii<((x.len:Nat):Int)∧x.a=some a) (u1 fun a=>.read g' (ld T (Addr.add a m)) (.one (.one p)) (u1 f))).wp P S w Q:=by
 subst hm hi
 have hr:=hf.rd w hs
 have hl:x.len=xs.length:=hr.len hE.len hE.pos
 obtain ⟨a,ha,he⟩:=hr.el hE.len (by omega)
 refine ⟨(a,()),⟨by omega,by omega,ha⟩,(dec xs[n],()),fun _=>?_,h⟩
 have:=he n hn
 rw [hD.ok] at this
 have h2:=At.ld1 (P:=P) (T:=T) this rfl
 cases p <;> exact h2
theorem fnumber_c (x:Sl) (bs:List UInt8) [hx:FocR l x 1 (bs.flatMap encU)] (hn:4≤bs.length) (hs:Sat w l):Ret P F.a21 #[x.v] w fun vs w'=>vs=[.int .u32 ((num4 bs:Nat):Int)]∧Sat w' l :=
 zf23_calls x <| by
  unfold zf23
  refine wp_tk hs fun w' hs=>?_
  refine wp_ix1c hs (xs:=bs) (enc:=encU) 0 (by omega) ?_
  refine wp_ix1c hs (xs:=bs) (enc:=encU) 1 (by omega) ?_
  refine wp_ix1c hs (xs:=bs) (enc:=encU) 2 (by omega) ?_
  refine wp_ix1c hs (xs:=bs) (enc:=encU) 3 (by omega) ?_
  rw [or_parts (by have:=bs[0].toNat_lt;omega) (by have:=bs[1].toNat_lt;omega) (by have:=bs[2].toNat_lt;omega) (by have:=bs[3].toNat_lt;omega),← num4_get hn]
  refine wp_lt ?_
  refine wp_untick ?_
  exact ⟨rfl,rfl,hs⟩
theorem fseal_c (x:Sl) (ps:List (Sl × List UInt8)) [hx:FocR l x 1 ((ps.map Prod.fst).flatMap encSl)] (hps:∀ p ∈ ps,FocR l p.1 1 (p.2.flatMap encU)∧p.2.length≤1000000000) (hpl:ps.length≤1000000) (hs:Sat w l) :
  Ret P F.a18 #[x.v] w fun vs w'=>∃ z:Sl,vs=[z.v]∧Sat w' (slc T.a34 1 z ((sealL (ps.flatMap Prod.snd)).flatMap encU)::l) :=
 zf20_calls x <| by
  unfold zf20
  have hl:=hs.slen x (xs:=ps.map Prod.fst) (enc:=encSl)
  rw [List.length_map] at hl
  have hstep:∀ i (hi:i<ps.length),(ps.take (i+1)).flatMap Prod.snd=(ps.take i).flatMap Prod.snd++ps[i].2:=fun i hi=>by
   rw [List.take_add_one,List.getElem?_eq_getElem hi,Option.toList_some,List.flatMap_append,List.flatMap_singleton]
  have hmany:∀ i,((ps.take i).flatMap Prod.snd).length≤(ps.flatMap Prod.snd).length:=fun i=>by
   have:ps.flatMap Prod.snd=(ps.take i).flatMap Prod.snd++(ps.drop i).flatMap Prod.snd:=by rw [← List.flatMap_append,List.take_append_drop]
   rw [this,List.length_append]
   omega
  refine wp_mid (fun u w'=>u=((((ps.flatMap Prod.snd).length:Nat):Int),())∧(ps.flatMap Prod.snd).length≤262144∧Sat w' l) ?_ ?_
  ·refine wp_loop (fun k u w=>∃ i:Nat,u=(((((ps.take i).flatMap Prod.snd).length:Nat):Int),(i:Int),())∧i≤ps.length∧ps.length-i=k∧((ps.take i).flatMap Prod.snd).length≤262144∧Sat w l) ps.length ⟨0,rfl,by omega,rfl,by simp,hs⟩ ?_
   clear hs
   rintro k _ w ⟨i,rfl,hi,hk,hsm,hs⟩
   refine wp_on ?_
   refine wp_if (fun hc=>?_) fun hc=>?_
   rotate_left
   ·rw [List.take_of_length_le (by omega)] at hsm ⊢
    exact wp_pass (wp_lv ⟨rfl,hsm,hs⟩)
   have hil:i<ps.length:=by omega
   refine wp_ix1 hs (xs:=ps.map Prod.fst) (enc:=encSl) i (by rw [List.length_map];exact hil) ?_
   rw [List.getElem_map]
   obtain ⟨hF,hpb⟩:=hps _ (List.getElem_mem hil)
   have hpi:=hs.slen ps[i].1 (xs:=ps[i].2) (enc:=encU)
   have h1:=hmany (i+1)
   have h2:=congrArg List.length (hstep i hil)
   rw [List.length_append] at h2
   have e:IntKind.wrap .i64 (((((ps.take i).flatMap Prod.snd).length:Nat):Int)+((ps[i].1.len:Nat):Int))=((((ps.take (i+1)).flatMap Prod.snd).length:Nat):Int):=by rw [w64 (by omega) (by omega)];omega
   refine wp_lw e ?_
   refine wp_if (fun hbig=>?_) fun hbig=>?_
   ·refine wp_pass (wp_pass ⟨rfl,⟨none,0,0⟩,rfl,?_⟩)
    have:sealL (ps.flatMap Prod.snd)=[]:=by unfold sealL;rw [if_pos (by omega)]
    rw [this]
    exact hs.slc_nil
   refine wp_dn (us':=[.int .i64 ((((ps.take (i+1)).flatMap Prod.snd).length:Nat):Int),.int .i64 ((i+1:Nat):Int)]) (by (try simp (disch:=omega) only [w64]);first|rfl|(congr;omega)) ?_
   refine wp_lp (ps.length-(i+1)) ?_
   exact ⟨i+1,rfl,by omega,rfl,by omega,hs⟩
  clear hs
  rintro _ w ⟨rfl,hsm,hs⟩
  refine wp_on ?_
  have e8:IntKind.wrap .i64 ((((ps.flatMap Prod.snd).length:Nat):Int)+8)=(((ps.flatMap Prod.snd).length+8:Nat):Int):=by rw [w64 (by omega) (by omega)];omega
  rw [e8,wu32m,Nat.mod_eq_of_lt (by omega)]
  refine wp_make ((ps.flatMap Prod.snd).length+8) hs fun z w' hs=>?_
  refine wp_call (ffour_c (ps.flatMap Prod.snd).length (by omega) hs) fun _ _ hs=>?_
  obtain ⟨y,rfl,hs⟩:=hs
  refine ret_of ?_
  have hs:=hs.pick [1,0]
  refine wp_app' (xs:=[]) (ys:=fourL (ps.flatMap Prod.snd).length) (enc:=encU) hs (fun z w' hs=>?_) (by simp [four_len])
  rw [List.nil_append] at hs
  have hs:Sat w' (slc T.a34 1 z ((fourL (ps.flatMap Prod.snd).length).flatMap encU)::l):=hs.sub
  refine wp_mid (fun u w'=>∃ z:Sl,u=(z,())∧Sat w' (slc T.a34 1 z ((headL (ps.flatMap Prod.snd)).flatMap encU)::l)) ?_ ?_
  ·refine wp_loop (fun k u w=>∃ (i:Nat) (z:Sl),u=(z,(i:Int),())∧i≤ps.length∧ps.length-i=k∧Sat w (slc T.a34 1 z ((fourL (ps.flatMap Prod.snd).length++(ps.take i).flatMap Prod.snd).flatMap encU)::l)) ps.length ⟨0,z,rfl,by omega,rfl,?_⟩ ?_
   ·simpa using hs
   clear hs
   rintro k _ w ⟨i,z,rfl,hi,hk,hs⟩
   refine wp_on ?_
   refine wp_if (fun hc=>?_) fun hc=>?_
   rotate_left
   ·refine wp_pass (wp_lv ⟨z,rfl,?_⟩)
    rw [List.take_of_length_le (by omega)] at hs
    exact hs
   have hil:i<ps.length:=by omega
   refine wp_ix1 hs (xs:=ps.map Prod.fst) (enc:=encSl) i (by rw [List.length_map];exact hil) ?_
   rw [List.getElem_map]
   have hF:=(hps _ (List.getElem_mem hil)).1
   have h1:=hmany (i+1)
   rw [hstep i hil,List.length_append] at h1
   refine wp_app' (xs:=fourL (ps.flatMap Prod.snd).length++(ps.take i).flatMap Prod.snd) (ys:=ps[i].2) (enc:=encU) hs (fun z w' hs=>?_) (by rw [List.length_append,four_len];omega)
   rw [List.append_assoc,← hstep i hil] at hs
   refine wp_dn (us':=[z.v,.int .i64 ((i+1:Nat):Int)]) (by (try simp (disch:=omega) only [w64]);first|rfl|(congr;omega)) ?_
   refine wp_lp (ps.length-(i+1)) ?_
   exact ⟨i+1,z,rfl,by omega,rfl,hs⟩
  clear hs
  rintro _ w ⟨z,rfl,hs⟩
  refine wp_on ?_
  have hhl:(headL (ps.flatMap Prod.snd)).length=(ps.flatMap Prod.snd).length+4:=by unfold headL;rw [List.length_append,four_len];omega
  have hsl:=sumL_lt (headL (ps.flatMap Prod.snd))
  refine wp_slit1 hs (enc:=encSl) z fun y w' hs=>?_
  refine wp_call (fsum1_c y z (headL (ps.flatMap Prod.snd)) (by omega) hs) fun _ _ hs=>?_
  obtain ⟨rfl,hs⟩:=hs
  refine ret_of ?_
  refine wp_call (ffour_c (sumL (headL (ps.flatMap Prod.snd))) hsl hs) fun _ _ hs=>?_
  obtain ⟨u,rfl,hs⟩:=hs
  refine ret_of ?_
  have hs:=hs.pick [2,0,0]
  refine wp_app' (xs:=headL (ps.flatMap Prod.snd)) (ys:=fourL (sumL (headL (ps.flatMap Prod.snd)))) (enc:=encU) hs (fun z w' hs=>?_) (by rw [four_len];omega)
  have e:sealL (ps.flatMap Prod.snd)=headL (ps.flatMap Prod.snd)++fourL (sumL (headL (ps.flatMap Prod.snd))):=by unfold sealL;rw [if_neg (by omega)]
  rw [← e] at hs
  exact ⟨rfl,z,rfl,hs.sub⟩
theorem fseal1_c (x y:Sl) (bs:List UInt8) [hx:FocR l x 1 ([y].flatMap encSl)] [hy:FocR l y 1 (bs.flatMap encU)] (hn:bs.length≤1000000000) (hs:Sat w l) :
  Ret P F.a18 #[x.v] w fun vs w'=>∃ z:Sl,vs=[z.v]∧Sat w' (slc T.a34 1 z ((sealL bs).flatMap encU)::l):=by
 have:=@fseal_c w l x [(y,bs)] hx (by intro p hp;rw [List.mem_singleton.1 hp];exact ⟨hy,hn⟩) (by simp) hs
 simpa using this
theorem ffirst_c (x:Sl) (bs:List UInt8) [hx:FocR l x 1 (bs.flatMap encU)] (hcap:x.len≤x.cap) (hn:bs.length≤1000000000) (hs:Sat w l) :
  Ret P F.a16 #[x.v] w fun vs w'=>∃ z:Sl,vs=[z.v,.int .i64 ((((firstL bs).getD ([],0)).2:Nat):Int),.bool (firstL bs).isSome]∧Sat w' (slc T.a34 1 z (((firstL bs).getD ([],0)).1.flatMap encU)::l) :=
 zf18_calls x <| by
  unfold zf18
  have hl:=hs.slen x (xs:=bs) (enc:=encU)
  have hno:∀ {w':World},firstL bs=none→Sat w' l→∃ z:Sl,[.slice none 0 0,.int .i64 0,.bool false]=[z.v,.int .i64 ((((firstL bs).getD ([],0)).2:Nat):Int),.bool (firstL bs).isSome]∧Sat w' (slc T.a34 1 z (((firstL bs).getD ([],0)).1.flatMap encU)::l):=fun {w'} h hs=>by
   rw [h];exact ⟨⟨none,0,0⟩,rfl,hs.slc_nil⟩
  refine wp_if (fun h=>?_) fun h=>?_
  ·exact ⟨rfl,hno (by unfold firstL;rw [if_pos (.inl (by omega))]) hs⟩
  refine wp_call (fnumber_c x bs (by omega) hs) fun _ _ hs=>?_
  obtain ⟨rfl,hs⟩:=hs
  refine ret_of ?_
  have hf:=(four_num bs (by omega)).2
  refine wp_lt ?_
  have e1:IntKind.wrap .i64 ((num4 bs:Nat):Int)=((num4 bs:Nat):Int):=by rw [w64 (by omega) (by omega)]
  have e2:IntKind.wrap .i64 (((x.len:Nat):Int)-8)=((bs.length-8:Nat):Int):=by rw [w64 (by omega) (by omega)];omega
  have e3:IntKind.wrap .i64 (((num4 bs:Nat):Int)+4)=((num4 bs+4:Nat):Int):=by rw [w64 (by omega) (by omega)];omega
  rw [e1,e2,e3]
  refine wp_if (fun h2=>?_) fun h2=>?_
  ·exact ⟨rfl,hno (by unfold firstL;rw [if_pos (by omega)]) hs⟩
  refine wp_lt ?_
  rw [Int.toNat_natCast]
  have hle:num4 bs+8≤bs.length:=by omega
  have hF1:FocR l ⟨cutA x.a 1 (num4 bs+4) x.cap,x.len-(num4 bs+4),x.cap-(num4 bs+4)⟩ 1 ((bs.drop (num4 bs+4)).flatMap encU):=FocR.post hcap
  have hF2:FocR l ⟨x.a,num4 bs+4,x.cap⟩ 1 ((bs.take (num4 bs+4)).flatMap encU):=FocR.pre (by omega)
  have htl:(bs.take (num4 bs+4)).length≤1000000000:=by rw [List.length_take];omega
  have hdl:4≤(bs.drop (num4 bs+4)).length:=by rw [List.length_drop];omega
  refine wp_mid (fun u w'=>u=(decide (num4 (bs.drop (num4 bs+4))≠sumL (bs.take (num4 bs+4))),())∧Sat w' l) ?_ ?_
  ·have hbeq:∀ a b:Nat,(((a:Int) != (b:Int)):Bool)=decide (a≠b):=fun a b=>by
    rw [Bool.eq_iff_iff];simp;omega
   refine wp_tk hs fun w' hs=>?_
   refine wp_must ⟨by omega,show ((num4 bs+4:Nat):Int)≤((x.len:Nat):Int) by omega⟩ ?_
   refine wp_must ⟨by omega,show ((num4 bs+4:Nat):Int)≤((x.cap:Nat):Int) by omega⟩ ?_
   refine wp_both ?_ ?_
   ·refine wp_call (fnumber_c ⟨cutA x.a 1 (num4 bs+4) x.cap,x.len-(num4 bs+4),x.cap-(num4 bs+4)⟩ (bs.drop (num4 bs+4)) hdl hs) fun _ _ hs=>?_
    obtain ⟨rfl,hs⟩:=hs
    refine ret_of ?_
    refine wp_slit1 hs (enc:=encSl) ⟨x.a,num4 bs+4,x.cap⟩ fun y w' hs=>?_
    refine wp_call (fsum1_c y ⟨x.a,num4 bs+4,x.cap⟩ (bs.take (num4 bs+4)) htl hs) fun _ _ hs=>?_
    obtain ⟨rfl,hs⟩:=hs
    refine ret_of ?_
    refine wp_untick ?_
    exact wp_lv ⟨by rw [hbeq],hs.tail⟩
   ·refine wp_slit1 hs (enc:=encSl) ⟨x.a,num4 bs+4,x.cap⟩ fun y w' hs=>?_
    refine wp_call (fnumber_c ⟨cutA x.a 1 (num4 bs+4) x.cap,x.len-(num4 bs+4),x.cap-(num4 bs+4)⟩ (bs.drop (num4 bs+4)) hdl hs) fun _ _ hs=>?_
    obtain ⟨rfl,hs⟩:=hs
    refine ret_of ?_
    refine wp_call (fsum1_c y ⟨x.a,num4 bs+4,x.cap⟩ (bs.take (num4 bs+4)) htl hs) fun _ _ hs=>?_
    obtain ⟨rfl,hs⟩:=hs
    refine ret_of ?_
    refine wp_untick ?_
    exact wp_lv ⟨by rw [hbeq],hs.tail⟩
  clear hs
  rintro _ w ⟨rfl,hs⟩
  refine wp_on ?_
  refine wp_if (fun h3=>?_) fun h3=>?_
  ·exact ⟨rfl,hno (by unfold firstL;rw [if_neg (by omega),if_neg h3]) hs⟩
  have h3:num4 (bs.drop (num4 bs+4))=sumL (bs.take (num4 bs+4)):=Decidable.not_not.1 h3
  have hsome:firstL bs=some ((bs.drop 4).take (num4 bs),num4 bs+8):=by unfold firstL;rw [if_neg (by omega),if_pos h3]
  rw [hsome]
  refine wp_must ⟨by omega,by omega,show ((num4 bs+4:Nat):Int)≤((x.cap:Nat):Int) by omega⟩ ?_
  have hF3:FocR l ⟨cutA x.a 1 4 x.cap,x.len-4,x.cap-4⟩ 1 ((bs.drop 4).flatMap encU):=FocR.post hcap
  have hF4:FocR l ⟨cutA x.a 1 4 x.cap,num4 bs+4-4,x.cap-4⟩ 1 (((bs.drop 4).take (num4 bs+4-4)).flatMap encU):=FocR.pre (x:=⟨cutA x.a 1 4 x.cap,x.len-4,x.cap-4⟩) (by rw [List.length_drop];omega)
  refine wp_call (bclone_c ⟨cutA x.a 1 4 x.cap,num4 bs+4-4,x.cap-4⟩ ((bs.drop 4).take (num4 bs+4-4)) (by rw [List.length_take];omega) hs) fun _ _ hs=>?_
  obtain ⟨z,rfl,hs⟩:=hs
  refine ret_of ?_
  refine wp_ltx (y:=((num4 bs+8:Nat):Int)) ?_ (by rw [w64 (by omega) (by omega)];omega)
  exact ⟨rfl,z,rfl,hs⟩
end
section
variable {w:World} {l r:List HP} {p:Nat} {s:Lf}
theorem stR_nil {R:RdM} (hb:R.at_≤R.bs.length) (he:R.e=0) (h:R.bs.length-R.at_=0):stR R=some []:=by
 rw [stR_ok he]
 unfold Rest
 rw [List.drop_eq_nil_of_le (by omega)]
theorem stR_cons {R:RdM} (he:R.e=0) (h:R.at_<R.bs.length):stR R=some (R.bs[R.at_]::R.bs.drop (R.at_+1)):=by
 rw [stR_ok he]
 unfold Rest
 rw [List.drop_eq_getElem_cons h]
theorem focr_cut {x:Sl} {bs:List UInt8} {n k:Nat} (hcap:x.len≤x.cap) (hk:n+k≤bs.length) [hf:FocR l x 1 (bs.flatMap encU)]:FocR l ⟨cutA x.a 1 n x.cap,k,x.cap-n⟩ 1 (((bs.drop n).take k).flatMap encU):=by
 have h:FocR l ⟨cutA x.a 1 n x.cap,x.len-n,x.cap-n⟩ 1 ((bs.drop n).flatMap encU):=FocR.post hcap
 exact FocR.pre (x:=⟨cutA x.a 1 n x.cap,x.len-n,x.cap-n⟩) (by rw [List.length_drop];omega)
theorem byteS_c [hf:Fo l (rdS T.a36) p s r] (hs:Sat w l):Ret P F.a128 #[.pointer (some ⟨p,0,none⟩)] w fun vs w'=>vs=[.int .i64 ((byteS s).1:Int)]∧Sat w' (rdS T.a36 p (byteS s).2::r) :=
 zf137_calls _ <| by
  unfold zf137
  obtain ⟨R,rfl,hs⟩:=rdS_open (hs.perm hf.perm)
  have hb:=rd_bound hs
  refine wp_call (good_c (p:=p) hs) fun _ _ hs=>?_
  obtain ⟨rfl,hs⟩:=hs
  refine ret_of ?_
  refine wp_if (fun h=>?_) fun h=>?_
  ·have h:R.e≠0:=by simpa using h
   rw [stR_no h]
   exact ⟨rfl,rfl,rdS_close (stR_no h) hs⟩
  have h:R.e=0:=by simpa using h
  refine wp_nn ?_
  refine wp_call (left_c (p:=p) hs) fun _ _ hs=>?_
  obtain ⟨rfl,hs⟩:=hs
  refine ret_of ?_
  refine wp_if (fun h2=>?_) fun h2=>?_
  ·refine wp_nn ?_
   refine wp_call (pfail_c (p:=p) 6 hs) fun _ _ hs=>?_
   obtain ⟨rfl,hs⟩:=hs
   refine ret_of ?_
   rw [stR_nil hb.1 h (by omega)]
   exact ⟨rfl,rfl,rdS_close (if_neg (by show ¬ (if R.e=0 then (6:Int) else R.e)=0;rw [if_pos h];decide)) hs⟩
  have hlt:R.at_<R.bs.length:=by omega
  rw [stR_cons h hlt]
  obtain ⟨x,-,hs⟩:=rd_open hs
  have hl:=hs.slen x (xs:=R.bs) (enc:=encU)
  have hcap:x.len≤x.cap:=(hs.pick [1]).slc_cap
  refine wp_nn ?_
  refine wp_call (ptake_c (p:=p) 1 (x:=x) (bs:=R.bs) (at_:=R.at_) (e:=R.e) (by omega) hb.2 hcap hs) fun _ w' hs=>?_
  obtain ⟨rfl,hs⟩:=hs
  refine ret_of ?_
  refine wp_ix1c (hf:=focr_cut hcap (by omega)) hs (xs:=(R.bs.drop R.at_).take 1) (enc:=encU) 0 (by rw [List.length_take,List.length_drop];omega) ?_ rfl rfl
  have hg:((R.bs.drop R.at_).take 1)[0]'(by rw [List.length_take,List.length_drop];omega)=R.bs[R.at_]:=by simp
  rw [hg]
  have hc:=(R.bs[R.at_]).toNat_lt
  refine wp_ltx (y:=((R.bs[R.at_]).toNat:Int)) ?_ (by rw [w64 (by omega) (by omega)])
  refine ⟨rfl,rfl,rdS_close (R:=⟨R.bs,R.at_+1,R.e⟩) ?_ (rd_close ⟨R.bs,R.at_+1,R.e⟩ ⟨by show R.at_+1≤R.bs.length;omega,hb.2⟩ hs)⟩
  rw [stR_ok (R:=⟨R.bs,R.at_+1,R.e⟩) h]
  rfl
end
section
variable {w:World} {l r:List HP} {p:Nat} {s:Lf}
theorem wp_apT {P:Program} {t tx ty el:TypeId} {bytes:Nat} {xs:List UInt8} {t0:ByteArray} {x:Sl} {k:Sl→Prog} {Q:Post} {S:World→Prop} (hs:Sat w l) [ht:SlT P t el 1 bytes] [hst:StT P tx] [hf:FocS l x el 1 (xs.flatMap encU) r]
  (h:∀ z w',Sat w' (slc el 1 z ((xs++bl t0).flatMap encU)::r)→(k z).wp P S w' Q) (hb:(xs.length+t0.size)*bytes≤140737488355328∧xs.length+t0.size≤9223372036854775807) (hS:∀ w',S w':=by exact fun _=>trivial) :
  (Prog.act (app t tx ty (.slice x.a x.len x.cap) (.string t0)) sL (u1 k)).wp P S w Q:=by
 have h1:x.len=xs.length:=(hs.focS x).rd.len (enc:=encU) (fun _=>rfl) (by decide)
 obtain ⟨i,z,hi,h2,rfl,hz,hzs⟩:=ht.parts
 have hsrc:Src P i.size tx (.string t0) t0.size (byteCells t0) w:=by rw [h2];exact Src.ofString w hst.ok t0
 have hs':=hs.focS x
 rw [← h2] at hs'
 obtain ⟨z,w',hrun,hlen,hs',_⟩:=app_spec (ty:=ty) ht.ok.1 hi hz hzs hs' hsrc (by rw [h1];exact hb.1) (by rw [h1];exact hb.2)
 refine ⟨(z,()),w',hrun,hS _,h z w' ?_⟩
 rw [h2] at hs'
 rw [List.flatMap_append,flat_encU (bl t0)]
 exact hs'
theorem wtext_c (t:ByteArray) (ht:t.size≤1000000000) (hs:Sat w l):Ret P F.a137 #[.string t] w fun vs w'=>∃ z:Sl,vs=[z.v]∧Sat w' (slc T.a34 1 z ((uI (t.size:Nat)++bl t).flatMap encU)::l) :=
 zf146_calls t <| by
  unfold zf146
  refine wp_call (wint_c ((t.size:Nat):Int) (by omega) hs) fun _ w' hs=>?_
  obtain ⟨x,rfl,hs⟩:=hs
  refine ret_of ?_
  have hl:=hs.slen x
  have hul:=uI_len ((t.size:Nat):Int)
  refine wp_apT (t0:=t) (xs:=uI (t.size:Nat)) hs (fun z w' hs=>?_) (by omega)
  exact ⟨rfl,z,rfl,hs⟩
theorem flagS_c [hf:Fo l (rdS T.a36) p s r] (hs:Sat w l):Ret P F.a131 #[.pointer (some ⟨p,0,none⟩)] w fun vs w'=>vs=[.bool (flagS s).1]∧Sat w' (rdS T.a36 p (flagS s).2::r) :=
 zf140_calls _ <| by
  unfold zf140
  obtain ⟨R,rfl,hs⟩:=rdS_open (hs.perm hf.perm)
  have hb:=rd_bound hs
  refine wp_call (good_c (p:=p) hs) fun _ _ hs=>?_
  obtain ⟨rfl,hs⟩:=hs
  refine ret_of ?_
  refine wp_if (fun h=>?_) fun h=>?_
  ·have h:R.e≠0:=by simpa using h
   rw [stR_no h]
   exact ⟨rfl,rfl,rdS_close (stR_no h) hs⟩
  have h:R.e=0:=by simpa using h
  refine wp_tk hs fun w' hs=>?_
  refine wp_nn ?_
  refine wp_call (left_c (p:=p) hs) fun _ _ hs=>?_
  obtain ⟨rfl,hs⟩:=hs
  refine ret_of ?_
  obtain ⟨x,-,hs⟩:=rd_open hs
  have hl:=hs.slen x (xs:=R.bs) (enc:=encU)
  have hcap:x.len≤x.cap:=(hs.pick [1]).slc_cap
  refine wp_nng ?_
  refine wp_ldO hs ?_
  refine wp_nng ?_
  refine wp_ldO hs ?_
  by_cases h2:R.bs.length-R.at_=0
  ·refine wp_ix1g hs (xs:=R.bs) (enc:=encU) (0:Int) (fun hg=>absurd hg (by rw [h2];simp)) ?_
   refine wp_untick ?_
   refine wp_ifT ?_ (by rw [h2];exact .inl rfl)
   refine wp_nn ?_
   have hs:=rd_close R hb hs
   refine wp_call (pfail_c (p:=p) 6 hs) fun _ _ hs=>?_
   obtain ⟨rfl,hs⟩:=hs
   refine ret_of ?_
   rw [stR_nil hb.1 h h2]
   exact ⟨rfl,rfl,rdS_close (if_neg (by show ¬ (if R.e=0 then (6:Int) else R.e)=0;rw [if_pos h];decide)) hs⟩
  ·have hlt:R.at_<R.bs.length:=by omega
   refine wp_ix1g hs (xs:=R.bs) (enc:=encU) (((R.bs[R.at_]).toNat:Nat):Int) (fun _=>⟨R.at_,hlt,rfl,rfl⟩) ?_
   refine wp_untick ?_
   rw [stR_cons h hlt]
   have hc:=(R.bs[R.at_]).toNat_lt
   unfold flagS
   simp only
   refine wp_if (fun h3=>?_) fun h3=>?_
   ·rw [if_neg (by omega)]
    refine wp_nn ?_
    have hs:=rd_close R hb hs
    refine wp_call (pfail_c (p:=p) 6 hs) fun _ _ hs=>?_
    obtain ⟨rfl,hs⟩:=hs
    refine ret_of ?_
    exact ⟨rfl,rfl,rdS_close (if_neg (by show ¬ (if R.e=0 then (6:Int) else R.e)=0;rw [if_pos h];decide)) hs⟩
   ·rw [if_pos (by omega)]
    refine wp_nn ?_
    refine wp_call (ptake_c (p:=p) 1 (x:=x) (bs:=R.bs) (at_:=R.at_) (e:=R.e) (by omega) hb.2 hcap hs) fun _ w' hs=>?_
    obtain ⟨rfl,hs⟩:=hs
    refine ret_of ?_
    refine wp_ix1c (hf:=focr_cut hcap (by omega)) hs (xs:=(R.bs.drop R.at_).take 1) (enc:=encU) 0 (by rw [List.length_take,List.length_drop];omega) ?_ rfl rfl
    have hg:((R.bs.drop R.at_).take 1)[0]'(by rw [List.length_take,List.length_drop];omega)=R.bs[R.at_]:=by simp
    rw [hg]
    refine wp_lt ?_
    have e:((((R.bs[R.at_]).toNat:Nat):Int) == 1)=decide ((R.bs[R.at_]).toNat=1):=by
     rw [Bool.eq_iff_iff];simp;omega
    rw [e]
    refine ⟨rfl,rfl,rdS_close (R:=⟨R.bs,R.at_+1,R.e⟩) ?_ (rd_close ⟨R.bs,R.at_+1,R.e⟩ ⟨by show R.at_+1≤R.bs.length;omega,hb.2⟩ hs)⟩
    rw [stR_ok (R:=⟨R.bs,R.at_+1,R.e⟩) h]
    rfl
theorem textS_c (most:Nat) (hm:most≤1000000000) [hf:Fo l (rdS T.a36) p s r] (hs:Sat w l):Ret P F.a133 #[.pointer (some ⟨p,0,none⟩),.int .i64 (most:Nat)] w fun vs w'=>vs=[.string (textS most s).1]∧Sat w' (rdS T.a36 p (textS most s).2::r) :=
 zf142_calls _ _ <| by
  unfold zf142
  obtain ⟨R,rfl,hs⟩:=rdS_open (hs.perm hf.perm)
  have hb:=rd_bound hs
  refine wp_call (good_c (p:=p) hs) fun _ _ hs=>?_
  obtain ⟨rfl,hs⟩:=hs
  refine ret_of ?_
  refine wp_if (fun h=>?_) fun h=>?_
  ·have h:R.e≠0:=by simpa using h
   rw [stR_no h]
   exact ⟨rfl,rfl,rdS_close (stR_no h) hs⟩
  have h:R.e=0:=by simpa using h
  refine wp_nn ?_
  obtain ⟨x,-,hs⟩:=rd_open hs
  refine wp_ldO hs ?_
  refine wp_lt ?_
  refine wp_nn ?_
  have hs:=rd_close R hb hs
  refine wp_call (puint_c (p:=p) h hs) fun _ _ hs=>?_
  obtain ⟨rfl,hs⟩:=hs
  refine ret_of ?_
  refine wp_lt ?_
  refine wp_nn ?_
  have hst:=st_uint (R:=R)
  have hbs:=uint_bs R
  generalize hU:R.uint=U at *
  obtain ⟨v,R'⟩:=U
  have hs:Sat _ (rdP T.a36 p R'::r):=hs
  have hbs:R'.bs=R.bs:=hbs
  have hb':=rd_bound hs
  obtain ⟨y,-,hs⟩:=rd_open hs
  have hl:=hs.slen y (xs:=R'.bs) (enc:=encU)
  have hcap:y.len≤y.cap:=(hs.pick [1]).slc_cap
  refine wp_ldO hs ?_
  refine wp_lt ?_
  have hend':∀ {w':World} {e:Int} {y:Sl},e≠0→Sat w' (pt p (.cells #[.slice y.a y.len y.cap,.int .i64 R'.at_,.int .i64 e] T.a36)::slc T.a34 1 y (R'.bs.flatMap encU)::r) →
    (textS most (stR R)).2=none→(textS most (stR R)).1=⟨#[]⟩ →
    (Prog.ex [.adr] (c1 fun a27=>some ((⟨p,0,none⟩:Addr))=some a27) (u1 fun a28=>.actU (st T.a10 (Addr.add (Addr.add a28 0) 1) (.int .i64 (R.at_:Int))) <| .done 0 [.string (ByteArray.mk #[])])).wp P (fun _=>True) w' fun e vs w'=>e=0∧vs=[.string (textS most (stR R)).1]∧Sat w' (rdS T.a36 p (textS most (stR R)).2::r):=by
   intro w' e y he hs h1 h2
   refine wp_nn ?_
   refine wp_stO hs fun w' hs=>?_
   rw [h1,h2]
   refine ⟨rfl,rfl,rdS_close (R:=⟨R'.bs,R.at_,e⟩) (stR_no he) (rd_close ⟨R'.bs,R.at_,e⟩ ⟨by rw [hbs];exact hb.1,hb'.2⟩ hs)⟩
  refine wp_bind ?_
  refine wp_if (fun he=>?_) fun he=>?_
  ·have he:R'.e≠0:=by simpa using he
   refine wp_go ?_
   have h1:(uintS (stR R)).2=none:=by rw [← hst.2];exact stR_no he
   refine hend' he hs (by unfold textS;rw [h1]) (by unfold textS;rw [h1])
  ·have he:R'.e=0:=by simpa using he
   have h1:(uintS (stR R)).2=some (Rest R'):=by rw [← hst.2];exact stR_ok he
   have hv:=uintS_inv h1
   have h0:(uintS (stR R)).1=v:=hst.1.symm
   have hlen:(Rest R').length=R'.bs.length-R'.at_:=rest_len
   have ew:IntKind.wrap .u64 (if 0>((most:Nat):Int) then 0 else ((most:Nat):Int))=((most:Nat):Int):=by
    rw [if_neg (by omega),wu64 (by omega) (by omega)]
   rw [ew]
   refine wp_lt ?_
   refine wp_bind ?_
   refine wp_if (fun h3=>?_) fun h3=>?_
   ·refine wp_nn ?_
    have hs:=rd_close R' hb' hs
    refine wp_call (pfail_c (p:=p) 7 hs) fun _ _ hs=>?_
    obtain ⟨rfl,hs⟩:=hs
    refine ret_of ?_
    refine wp_go ?_
    refine wp_go ?_
    obtain ⟨y2,-,hs⟩:=rd_open hs
    refine hend' (e:=(R'.fail 7).e) ?_ hs ?_ ?_
    ·show (if R'.e=0 then (7:Int) else R'.e)≠0
     rw [if_pos he];decide
    ·unfold textS;rw [h1];simp only;rw [h0,if_neg (by omega)]
    ·unfold textS;rw [h1];simp only;rw [h0,if_neg (by omega)]
   ·refine wp_nn ?_
    have hs:=rd_close R' hb' hs
    refine wp_call (left_c (p:=p) hs) fun _ _ hs=>?_
    obtain ⟨rfl,hs⟩:=hs
    refine ret_of ?_
    have eu:IntKind.wrap .u64 ((R'.bs.length-R'.at_:Nat):Int)=((R'.bs.length-R'.at_:Nat):Int):=wu64 (by omega) (by omega)
    rw [eu]
    refine wp_lt ?_
    refine wp_if (fun h4=>?_) fun h4=>?_
    ·refine wp_nn ?_
     refine wp_call (pfail_c (p:=p) 6 hs) fun _ _ hs=>?_
     obtain ⟨rfl,hs⟩:=hs
     refine ret_of ?_
     refine wp_go ?_
     refine wp_go ?_
     obtain ⟨y2,-,hs⟩:=rd_open hs
     refine hend' (e:=(R'.fail 6).e) ?_ hs ?_ ?_
     ·show (if R'.e=0 then (6:Int) else R'.e)≠0
      rw [if_pos he];decide
     ·unfold textS;rw [h1];simp only;rw [h0,if_neg (by omega)]
     ·unfold textS;rw [h1];simp only;rw [h0,if_neg (by omega)]
    ·refine wp_nn ?_
     rw [w64 (by omega) (by omega)]
     obtain ⟨y2,-,hs⟩:=rd_open hs
     have hcap2:y2.len≤y2.cap:=(hs.pick [1]).slc_cap
     refine wp_call (ptake_c (p:=p) v (x:=y2) (bs:=R'.bs) (at_:=R'.at_) (e:=R'.e) (by omega) hb'.2 hcap2 hs) fun _ w' hs=>?_
     obtain ⟨rfl,hs⟩:=hs
     refine ret_of ?_
     refine wp_ofB (hf:=focr_cut hcap2 (by omega)) (bs:=(R'.bs.drop R'.at_).take v) hs ?_
     refine wp_lt ?_
     have e1:textS most (stR R)=(⟨((Rest R').take v).toArray⟩,some ((Rest R').drop v)):=by
      unfold textS;rw [h1];simp only;rw [h0,if_pos ⟨by omega,by omega⟩]
     rw [e1]
     refine wp_pass (wp_pass ⟨rfl,rfl,rdS_close (R:=⟨R'.bs,R'.at_+v,R'.e⟩) ?_ (rd_close ⟨R'.bs,R'.at_+v,R'.e⟩ ⟨by show R'.at_+v≤R'.bs.length;omega,hb'.2⟩ hs)⟩)
     rw [stR_ok (R:=⟨R'.bs,R'.at_+v,R'.e⟩) he]
     unfold Rest
     rw [List.drop_drop]
end
section
variable {w:World} {l r:List HP} {p:Nat} {s:Lf}
theorem upto_c (most:Int) (hm:0≤most∧most<9223372036854775807) [hf:Fo l (rdS T.a36) p s r] (hs:Sat w l):Ret P F.a46 #[.pointer (some ⟨p,0,none⟩),.int .i64 most] w fun vs w'=>vs=[.int .i64 (uptoS most s).1]∧Sat w' (rdS T.a36 p (uptoS most s).2::r) :=
 zf53_calls _ most <| by
  unfold zf53 uptoS
  refine wp_call (uintS_c (p:=p) hs) fun _ _ hs=>?_
  obtain ⟨rfl,hs⟩:=hs
  refine ret_of ?_
  refine wp_lt ?_
  have e:IntKind.wrap .u64 most=most:=by rw [wrap_u64];omega
  rw [e]
  refine wp_if (fun h=>?_) fun h=>?_
  ·refine wp_ltx (y:=most+1) ?_ (by rw [w64 (by omega) (by omega)])
   rw [if_pos h]
   exact ⟨rfl,rfl,hs⟩
  ·refine wp_ltx (y:=((uintS s).1:Int)) ?_ (by rw [w64 (by omega) (by omega)])
   rw [if_neg h]
   exact ⟨rfl,rfl,hs⟩
theorem alike_c (a b:ByteArray) (ha:a.size≤1000000000) (hs:Sat w l):Ret P F.a39 #[.string a,.string b] w fun vs w'=>vs=[.int .i64 (alikeL (bl a) (bl b):Nat)]∧Sat w' l :=
 zf46_calls a b <| by
  unfold zf46
  refine wp_ltx (y:=((min a.size b.size:Nat):Int)) ?_ (by split <;> omega)
  refine wp_mid (fun _ w'=>(bl a).take (min a.size b.size)=(bl b).take (min a.size b.size)∧Sat w' l) ?_ ?_
  rotate_left
  ·rintro _ w' ⟨ht,hs⟩
   refine wp_on ?_
   refine wp_lt ?_
   refine ⟨rfl,?_,hs⟩
   rw [alikeL_eq (i:=min a.size b.size) (by rw [size_bl];omega) (by rw [size_bl];omega) ht (by rw [size_bl,size_bl];omega)]
  refine wp_loop (fun k v w=>∃ i:Nat,v=((i:Int),())∧i≤min a.size b.size∧min a.size b.size-i=k∧(bl a).take i=(bl b).take i∧Sat w l) (min a.size b.size) ⟨0,rfl,by omega,rfl,rfl,hs⟩ ?_
  clear hs
  rintro k _ w ⟨i,rfl,hi,hk,ht,hs⟩
  refine wp_on ?_
  refine wp_if (fun hc=>?_) fun hc=>?_
  rotate_left
  ·refine wp_pass (wp_lv ⟨?_,hs⟩)
   have:i=min a.size b.size:=by omega
   rwa [this] at ht
  have h1:i<(bl a).length:=by rw [size_bl];omega
  have h2:i<(bl b).length:=by rw [size_bl];omega
  refine wp_lt ?_
  refine wp_tk hs fun w' hs=>?_
  refine wp_must (by omega) ?_
  refine wp_must (by omega) ?_
  refine wp_untick ?_
  have hb:∀ (c:ByteArray) (h:i<(bl c).length),bt c (i:Int)=(((bl c)[i]).toNat:Int):=fun c h=>by
   unfold bt
   rw [Int.toNat_natCast,List.getD_eq_getElem?_getD,List.getElem?_eq_getElem h];rfl
  rw [hb a h1,hb b h2]
  refine wp_if (fun hd=>?_) fun hd=>?_
  ·refine wp_lt ?_
   refine wp_pass (wp_pass ⟨rfl,?_,hs⟩)
   have hne:(bl a)[i]≠(bl b)[i]:=fun e=>by rw [e] at hd;simp at hd
   rw [alikeL_eq (i:=i) (by omega) (by omega) ht (.inr (.inr (by rw [List.getElem?_eq_getElem h1,List.getElem?_eq_getElem h2];simpa using hne)))]
  ·have he:(bl a)[i]=(bl b)[i]:=by
    apply UInt8.toNat_inj.1
    have:(((bl a)[i]).toNat:Int)=(((bl b)[i]).toNat:Int):=by simpa using hd
    omega
   refine wp_dn (us':=[.int .i64 ((i+1:Nat):Int)]) (by (try simp (disch:=omega) only [w64]);first|rfl|(congr;omega)) ?_
   refine wp_lp (min a.size b.size-(i+1)) ?_
   exact ⟨i+1,rfl,by omega,rfl,by rw [List.take_succ_eq_append_getElem h1,List.take_succ_eq_append_getElem h2,ht,he],hs⟩
end
theorem withinS_bd {lo hi:Int} (h:lo≤0∧0≤hi) (s:Lf):lo≤(withinS lo hi s).1∧(withinS lo hi s).1≤hi:=by
 unfold withinS
 split
 ·exact h
 ·split
  ·exact h
  ·simp only;omega
theorem uptoS_bd {most:Int} (h:0≤most) (s:Lf):0≤(uptoS most s).1∧(uptoS most s).1≤most+1:=by
 unfold uptoS
 simp only
 split <;> omega
theorem textS_bd (most:Nat) (s:Lf):(textS most s).1.size≤most:=by
 unfold textS
 split
 ·show 0≤most;omega
 ·split
  ·rename_i h
   show (List.take _ _).length≤most
   rw [List.length_take];omega
  ·show 0≤most;omega
section
variable {w:World} {l r:List HP} {p:Nat} {s:Lf}
theorem read1_c (time:Int) (ht:0≤time∧time≤1099511627776) (ahead:ByteArray) (ha:ahead.size≤100000) [hf:Fo l (rdS T.a36) p s r] (hs:Sat w l) :
  Ret P F.a44 #[.pointer (some ⟨p,0,none⟩),.int .i64 time,.string ahead] w fun vs w'=>∃ x:RecM,vs=[.agg (encR x).toArray,.bool (readS time ahead s).1.isSome]∧(∀ y,(readS time ahead s).1=some y→x=y)∧x.key.size≤2100∧Sat w' (rdS T.a36 p (readS time ahead s).2::r) :=
 zf51_calls _ _ _ <| by
  unfold zf51
  refine wp_newO hs fun a0 w' hs=>?_
  have hbd:=withinS_bd (lo := -1099511627776) (hi:=1099511627776) (by decide) s
  refine wp_call (withinS_c (p:=p) (-1099511627776) 1099511627776 hs) fun _ _ hs=>?_
  obtain ⟨rfl,hs⟩:=hs
  refine ret_of ?_
  refine wp_lt ?_
  refine wp_call (flagS_c (p:=p) hs) fun _ _ hs=>?_
  obtain ⟨rfl,hs⟩:=hs
  refine ret_of ?_
  refine wp_newO hs fun a4 w' hs=>?_
  rw [w64 (by omega) (by omega)]
  refine wp_stG hs fun w' hs=>?_
  refine wp_call (upto_c (p:=p) 1024 (by omega) hs) fun _ _ hs=>?_
  obtain ⟨rfl,hs⟩:=hs
  refine ret_of ?_
  refine wp_lt ?_
  refine wp_call (textS_c (p:=p) 1024 (by omega) hs) fun _ _ hs=>?_
  obtain ⟨rfl,hs⟩:=hs
  refine ret_of ?_
  refine wp_lt ?_
  have hR:readS time ahead s=if (uptoS 1024 (flagS (withinS (-1099511627776) 1099511627776 s).2).2).1>ahead.size then (none,(textS 1024 (uptoS 1024 (flagS (withinS (-1099511627776) 1099511627776 s).2).2).2).2) else
   let a:=withinS (-1099511627776) 1099511627776 s
   let b:=flagS a.2
   let c:=uptoS 1024 b.2
   let d:=textS 1024 c.2
   let e:=if b.1 then (⟨#[]⟩,d.2) else textS 1024 d.2
   if e.2.isSome=true∧(alikeL (bl ahead) (bl (keyS ahead c.1 d.1)):Int)=c.1 then (some ⟨keyS ahead c.1 d.1,e.1,b.1,time+a.1⟩,e.2) else (none,e.2):=rfl
  simp only at hR
  have hcb:=uptoS_bd (most:=1024) (by decide) (flagS (withinS (-1099511627776) 1099511627776 s).2).2
  have hdb:=textS_bd 1024 (uptoS 1024 (flagS (withinS (-1099511627776) 1099511627776 s).2).2).2
  generalize readS time ahead s=RR at *
  generalize withinS (-1099511627776) 1099511627776 s=a at *
  generalize flagS a.2=b at *
  generalize uptoS 1024 b.2=c at *
  generalize textS 1024 c.2=d at *
  refine wp_if (fun h=>?_) fun h=>?_
  ·rw [if_pos h] at hR
   subst hR
   refine wp_ldG hs ?_
   refine wp_stG hs fun w' hs=>?_
   refine wp_ldG hs ?_
   exact ⟨rfl,⟨⟨#[]⟩,⟨#[]⟩,b.1,time+a.1⟩,rfl,(fun y hy=>by cases hy),by show 0≤2100;omega,hs.sub⟩
  rw [if_neg h] at hR
  refine wp_must (by omega) ?_
  have hks:(ByteArray.extract ahead 0 (Int.toNat c.1)).size≤1025:=by
   rw [ByteArray.size_extract];omega
  refine wp_must (by omega) ?_
  refine wp_stO hs fun w' hs=>?_
  have ek:ByteArray.extract ahead 0 (Int.toNat c.1)++d.1=keyS ahead c.1 d.1:=rfl
  rw [ek] at hs
  refine wp_ldO hs ?_
  have hkey:(keyS ahead c.1 d.1).size≤2100:=by
   unfold keyS
   rw [ByteArray.size_append]
   omega
  refine wp_mid (fun _ w'=>Sat w' (pt a4 (.cells #[.string (keyS ahead c.1 d.1),.string (if b.1=true then ((⟨#[]⟩:ByteArray),d.2) else textS 1024 d.2).1,.bool b.1,.int .i64 (time+a.1)] T.a3)::rdS T.a36 p (if b.1=true then ((⟨#[]⟩:ByteArray),d.2) else textS 1024 d.2).2::pt a0 (.cells #[.string ⟨#[]⟩,.string ⟨#[]⟩,.bool false,.int .i64 0] T.a3)::r)) ?_ ?_
  ·refine wp_if (fun h2=>?_) fun h2=>?_
   ·have h2:b.1=false:=by simpa using h2
    refine wp_call (textS_c (p:=p) 1024 (by omega) hs) fun _ _ hs=>?_
    obtain ⟨rfl,hs⟩:=hs
    refine ret_of ?_
    refine wp_stO hs fun w' hs=>?_
    refine wp_lv ?_
    rw [if_neg (by rw [h2];simp)]
    exact hs.sub
   ·have h2:b.1=true:=by simpa using h2
    refine wp_lv ?_
    rw [if_pos h2]
    dsimp only
    exact hs.sub
  rintro _ w1 hs
  generalize (if b.1=true then ((⟨#[]⟩:ByteArray),d.2) else textS 1024 d.2)=e at *
  refine wp_mid (fun q w'=>q=(RR.1.isSome,())∧Sat w' (pt a0 (.cells #[.string (keyS ahead c.1 d.1),.string e.1,.bool b.1,.int .i64 (time+a.1)] T.a3)::rdS T.a36 p e.2::r)) ?_ ?_
  ·refine wp_tk hs fun w' hs=>?_
   refine wp_hdG hs ?_
   refine wp_call (errS_c (p:=p) hs) fun _ _ hs=>?_
   obtain ⟨er,rfl,her,hs⟩:=hs
   refine ret_of ?_ (by first|trivial|(repeat (first|exact trivial|exact fun _=>run_ldO hs|exact fun _=>run_ldG hs|refine And.intro ?_ ?_)))
   refine wp_ldO hs ?_
   refine wp_if (fun h2=>?_) fun h2=>?_
   ·have h2:e.2.isSome=true:=her.1 (by simpa using h2)
    refine wp_call (alike_c ahead (keyS ahead c.1 d.1) (by omega) hs) fun _ _ hs=>?_
    obtain ⟨rfl,hs⟩:=hs
    refine ret_of ?_ (by first|trivial|(repeat (first|exact trivial|exact fun _=>run_ldO hs|exact fun _=>run_ldG hs|refine And.intro ?_ ?_)))
    refine wp_untick ?_
    refine wp_stG hs fun w' hs=>?_
    refine wp_lt ?_
    refine wp_untick ?_
    refine wp_lv ⟨?_,hs.sub⟩
    have e3:(((alikeL (bl ahead) (bl (keyS ahead c.1 d.1)):Nat):Int) == c.1)=RR.1.isSome:=by
     rw [hR]
     by_cases h3:((alikeL (bl ahead) (bl (keyS ahead c.1 d.1)):Nat):Int)=c.1
     ·rw [if_pos ⟨h2,h3⟩];simpa using h3
     ·rw [if_neg fun h=>h3 h.2];simpa using h3
    rw [e3]
   ·have h2:¬ e.2.isSome=true:=fun h=>h2 (by simpa using her.2 h)
    refine wp_untick ?_
    refine wp_stG hs fun w' hs=>?_
    refine wp_untick ?_
    refine wp_lv ⟨?_,hs.sub⟩
    rw [hR,if_neg fun h=>h2 h.1]
    rfl
  rintro _ w1 ⟨rfl,hs⟩
  refine wp_ldG hs ?_
  refine ⟨rfl,⟨keyS ahead c.1 d.1,e.1,b.1,time+a.1⟩,rfl,fun y hy=>?_,hkey,?_⟩
  ·rw [hR] at hy
   split at hy
   ·simpa using hy
   ·cases hy
  ·have e4:RR.2=e.2:=by rw [hR];split <;> rfl
   rw [e4]
   exact hs.sub
end
section
variable {P:Program} {w:World} {l r:List HP} {Q:Post} {S:World→Prop} {t:TypeId} {sz:Nat}
theorem wp_u4 {α β γ δ:Type} {f:α→β→γ→δ→Prog} (a:α) (b:β) (c:γ) (d:δ) (h:(f a b c d).wp P S w Q):(u4 f (a,b,c,d,())).wp P S w Q:=h
theorem FocR.nil' (sz:Nat):FocR l ⟨none,0,0⟩ sz ([]:List Value):=⟨fun _ _=>⟨(Nat.zero_mul sz).symm,.inl rfl⟩⟩
theorem wp_lits {α:Type} {enc:α→List Value} {n:Nat} {ps:Array (Nat × Value)} {el:TypeId} {bytes:Nat} {k:Sl→Prog} (hs:Sat w l) [ht:SlT P t el sz bytes] [hE:EncN enc sz] (xs:List α)
  (h:∀ x w',Sat w' (slc el sz x (xs.flatMap enc)::l)→(k x).wp P S w' Q) (hc:bsCells P t n ps=some (el,(xs.flatMap enc).toArray):=by kernel_rfl) (hn:xs.length=n:=by rfl) (hS:∀ w',S w':=by exact fun _=>trivial) :
  (Prog.act (Instr.buildSlice t n ps) sL (u1 k)).wp P S w Q:=wp_slit hs xs hc (fun b w' hs=>h _ w' hs) (by simp) hn hS
end
section
variable {P:Program} {w:World} {l r:List HP} {Q:Post} {S:World→Prop} {α β γ δ ε ζ η θ:Type}
theorem wp_u2 {f:α→β→Prog} (a:α) (b:β) (h:(f a b).wp P S w Q):(u2 f (a,b,())).wp P S w Q:=h
theorem wp_u3 {f:α→β→γ→Prog} (a:α) (b:β) (c:γ) (h:(f a b c).wp P S w Q):(u3 f (a,b,c,())).wp P S w Q:=h
theorem wp_u5 {f:α→β→γ→δ→ε→Prog} (a:α) (b:β) (c:γ) (d:δ) (e:ε) (h:(f a b c d e).wp P S w Q):(u5 f (a,b,c,d,e,())).wp P S w Q:=h
theorem wp_u7 {f:α→β→γ→δ→ε→ζ→η→Prog} (a:α) (b:β) (c:γ) (d:δ) (e:ε) (z:ζ) (y:η) (h:(f a b c d e z y).wp P S w Q):(u7 f (a,b,c,d,e,z,y,())).wp P S w Q:=h
theorem wp_u8 {f:α→β→γ→δ→ε→ζ→η→θ→Prog} (a:α) (b:β) (c:γ) (d:δ) (e:ε) (z:ζ) (y:η) (x:θ) (h:(f a b c d e z y x).wp P S w Q):(u8 f (a,b,c,d,e,z,y,x,())).wp P S w Q:=h
theorem wp_callvc {f : FuncId} {cap : Array Value} {args : List Value} {s : Sh} {k : HL s.prims → Prog} {vs₀ : List Value} {R : World → Prop} (hok : (P.funcs[f]?).any (fun fn => fn.body.isSome && fn.name != "runtime.NumGoroutine") = true) (x : HL s.prims)
  (hc:Ret P f (args.toArray++cap) w fun vs w'=>vs=vs₀∧R w') (hx:pack vs₀=s.mk x) (h:∀ w',R w'→S w'∧(k x).wp P S w' Q):(Prog.callv (.func (.func f) #[] cap) args s k).wp P S w Q:=by
 refine ⟨f,#[],cap,rfl,hok,?_⟩
 have e:(#[]:Array Value)++args.toArray++cap=args.toArray++cap:=by simp
 rw [e]
 refine Calls.mono hc fun e w' ⟨vs,he,hv,hR⟩=>?_
 exact ⟨x,by rw [he,hv,hx],h w' hR⟩
end
section
variable {P:Program} {w:World} {l r:List HP} {Q:Post} {S:World→Prop} {T:TypeId} {sz:Nat} {x:Sl}
theorem At.part {A:Addr} {vs:List Value} (h:At w A vs) (j q:Nat):At w (A.add j) ((vs.drop j).take q):=by
 obtain ⟨b,o,arr,T',fr,rfl,hb,hc⟩:=h
 refine ⟨b,o+j,arr,T',fr,add_mk ..,hb,fun i hi=>?_⟩
 rw [List.length_take,List.length_drop] at hi
 rw [List.getElem?_take,if_pos (by omega),List.getElem?_drop,Nat.add_assoc,hc (j+i) (by omega)]
end
def zeroB:BatM:=⟨0,0,0,0,0,0,noSl,[]⟩
abbrev zeroC:Array Value:=#[.int .i64 0,.int .i64 0,.int .i64 0,.int .i64 0,.int .i64 0,.int .i64 0,.slice none 0 0]
theorem wp_esc {P:Program} {p:Prog} {S:World→Prop} {w:World} {Q0 Q:Post} (h:p.wp P S w Q0) (h0:∀ e vs w,Q0 e vs w→e=0) (hQ:∀ vs w,Q0 0 vs w→Q 0 vs w):p.wp P S w Q :=
 Prog.wp_mono p (fun e vs w h=>by have:=h0 e vs w h;subst this;exact hQ vs w h) h
theorem recsS_succ (time:Int) (n:Nat) (ahead:ByteArray) (s:Lf):recsS time (n+1) ahead s=match (readS time ahead s).1 with
  | none=>none
  | some x=>(recsS time n x.key (readS time ahead s).2).map fun q=>(x::q.1,q.2):=rfl
def BatM.at (b:BatM) (z:Sl):BatM:={ b with x:=z }
section
variable {w:World} {l r:List HP} {p:Nat} {s:Lf}
theorem decode_c (x:Sl) (raw:List UInt8) [hx:FocR l x 1 (raw.flatMap encU)] (hn:raw.length≤1000000000) (hs:Sat w l) :
  Ret P F.a33 #[x.v] w fun vs w'=>(∃ b z,decS raw=some b∧vs=[.agg (encB7 (b.at z)).toArray,.int .i64 0]∧Sat w' (slc T.a3 4 z (b.rs.flatMap encR)::l)) ∨
   (decS raw=none∧vs=[.agg (encB7 zeroB).toArray,.int .i64 6]∧Sat w' l) :=
 zf40_calls _ <| by
  unfold zf40
  refine wp_newO hs fun a0 w' hs=>?_
  refine wp_newO hs fun a1 w' hs=>?_
  refine wp_stG hs fun w' hs=>?_
  refine wp_call (newS_c x raw hn hs) fun _ w' hs=>?_
  obtain ⟨p,rfl,hs⟩:=hs
  refine ret_of ?_
  refine wp_call (byteS_c (p:=p) hs) fun _ _ hs=>?_
  obtain ⟨rfl,hs⟩:=hs
  refine ret_of ?_
  have hfail:∀ {w':World},Sat w' (pt a1 (.cells zeroC T.a1)::pt a0 (.cells zeroC T.a1)::l)→decS raw=none →
    (Prog.read True (ld T.a1 ⟨a1,0,none⟩) (sG [.int .i64,.int .i64,.int .i64,.int .i64,.int .i64,.int .i64,.slc]) (u7 fun n4 n5 n6 n7 n8 n9 l10 =>
     .actU (st T.a1 ⟨a0,0,none⟩ (.agg #[.int .i64 n4,.int .i64 n5,.int .i64 n6,.int .i64 n7,.int .i64 n8,.int .i64 n9,l10.v])) <|
     .read True (ld T.a1 ⟨a0,0,none⟩) (sG [.int .i64,.int .i64,.int .i64,.int .i64,.int .i64,.int .i64,.slc]) (u7 fun n11 n12 n13 n14 n15 n16 l17 =>
     .done 0 [.agg #[.int .i64 n11,.int .i64 n12,.int .i64 n13,.int .i64 n14,.int .i64 n15,.int .i64 n16,l17.v],.int .i64 6]))).wp P (fun _=>True) w' fun e vs w=>e=0∧((∃ b z,decS raw=some b∧vs=[.agg (encB7 (b.at z)).toArray,.int .i64 0]∧Sat w (slc T.a3 4 z (b.rs.flatMap encR)::l)) ∨
      (decS raw=none∧vs=[.agg (encB7 zeroB).toArray,.int .i64 6]∧Sat w l)):=by
   intro w' hs hd
   have hs:Sat w' (pt a1 (.cells [.int .i64 0,.int .i64 0,.int .i64 0,.int .i64 0,.int .i64 0,.int .i64 0,.slice none 0 0].toArray T.a1)::pt a0 (.cells [.int .i64 0,.int .i64 0,.int .i64 0,.int .i64 0,.int .i64 0,.int .i64 0,.slice none 0 0].toArray T.a1)::l):=hs
   refine wp_ldG hs ?_
   refine wp_stG hs fun w' hs=>?_
   refine wp_ldG hs ?_
   exact ⟨rfl,.inr ⟨hd,rfl,hs.sub⟩⟩
  replace hs:Sat _ (rdS T.a36 p (byteS (some raw)).2::pt a1 (.cells zeroC T.a1)::pt a0 (.cells zeroC T.a1)::l):=hs.sub
  refine wp_if (fun h=>?_) fun h=>?_
  ·refine hfail hs.sub ?_
   unfold decS
   rw [if_pos (by omega)]
  have hdec:decS raw=bodS (hdS (byteS (some raw)).2):=by
   unfold decS
   rw [if_neg (by omega)]
  generalize decS raw=DD at *
  generalize (byteS (some raw)).2=s at *
  have hH:hdS s=⟨byteS s,uptoS 1099511627776 (byteS s).2,uptoS 1048576 (uptoS 1099511627776 (byteS s).2).2,
   if (uptoS 1048576 (uptoS 1099511627776 (byteS s).2).2).1>0 then uptoS 32767 (uptoS 1048576 (uptoS 1099511627776 (byteS s).2).2).2 else (0,(uptoS 1048576 (uptoS 1099511627776 (byteS s).2).2).2),
   if (uptoS 1048576 (uptoS 1099511627776 (byteS s).2).2).1>0∧markK (byteS s).1=false then uptoS 2147483647 (if (uptoS 1048576 (uptoS 1099511627776 (byteS s).2).2).1>0 then uptoS 32767 (uptoS 1048576 (uptoS 1099511627776 (byteS s).2).2).2 else (0,(uptoS 1048576 (uptoS 1099511627776 (byteS s).2).2).2)).2 else (0,(if (uptoS 1048576 (uptoS 1099511627776 (byteS s).2).2).1>0 then uptoS 32767 (uptoS 1048576 (uptoS 1099511627776 (byteS s).2).2).2 else (0,(uptoS 1048576 (uptoS 1099511627776 (byteS s).2).2).2)).2),
   uptoS 1099511627776 (if (uptoS 1048576 (uptoS 1099511627776 (byteS s).2).2).1>0∧markK (byteS s).1=false then uptoS 2147483647 (if (uptoS 1048576 (uptoS 1099511627776 (byteS s).2).2).1>0 then uptoS 32767 (uptoS 1048576 (uptoS 1099511627776 (byteS s).2).2).2 else (0,(uptoS 1048576 (uptoS 1099511627776 (byteS s).2).2).2)).2 else (0,(if (uptoS 1048576 (uptoS 1099511627776 (byteS s).2).2).1>0 then uptoS 32767 (uptoS 1048576 (uptoS 1099511627776 (byteS s).2).2).2 else (0,(uptoS 1048576 (uptoS 1099511627776 (byteS s).2).2).2)).2)).2⟩:=rfl
  refine wp_call (byteS_c (p:=p) hs) fun _ _ hs=>?_
  obtain ⟨rfl,hs⟩:=hs
  refine ret_of ?_
  generalize byteS s=k at *
  refine wp_call (upto_c (p:=p) 1099511627776 (by omega) hs) fun _ _ hs=>?_
  obtain ⟨rfl,hs⟩:=hs
  refine ret_of ?_
  generalize uptoS 1099511627776 k.2=ba at *
  refine wp_call (upto_c (p:=p) 1048576 (by omega) hs) fun _ _ hs=>?_
  obtain ⟨rfl,hs⟩:=hs
  refine ret_of ?_
  generalize uptoS 1048576 ba.2=pi at *
  refine wp_newO hs fun a2 w' hs=>?_
  refine wp_stG hs fun w' hs=>?_
  refine wp_ldO hs ?_
  generalize hep:(if pi.1>0 then uptoS 32767 pi.2 else (0,pi.2))=ep at *
  generalize hsq:(if pi.1>0∧markK k.1=false then uptoS 2147483647 ep.2 else (0,ep.2))=sq at *
  refine wp_mid (fun _ w'=>Sat w' (pt a2 (.cells [.int .i64 ba.1,.int .i64 pi.1,.int .i64 ep.1,.int .i64 sq.1,.int .i64 k.1,.int .i64 0,.slice none 0 0].toArray T.a1)::rdS T.a36 p sq.2::pt a1 (.cells zeroC T.a1)::pt a0 (.cells zeroC T.a1)::l)) ?_ ?_
  ·refine wp_if (fun h=>?_) fun h=>?_
   ·rw [if_pos h] at hep
    refine wp_call (upto_c (p:=p) 32767 (by omega) hs) fun _ _ hs=>?_
    obtain ⟨rfl,hs⟩:=hs
    refine ret_of ?_
    rw [hep] at hs ⊢
    refine wp_stO hs fun w' hs=>?_
    refine wp_ldG hs ?_
    refine wp_call (rmark_c ⟨ba.1,pi.1,ep.1,0,k.1,0,noSl,[]⟩ hs) fun _ w' hs=>?_
    obtain ⟨rfl,hs⟩:=hs
    refine ret_of ?_
    have em:markB ⟨ba.1,pi.1,ep.1,0,k.1,0,noSl,[]⟩=markK k.1:=rfl
    rw [em]
    refine wp_bind ?_
    refine wp_if (fun h2=>?_) fun h2=>?_
    ·have h2:markK k.1=false:=by simpa using h2
     rw [if_pos ⟨h,h2⟩] at hsq
     refine wp_call (upto_c (p:=p) 2147483647 (by omega) hs) fun _ _ hs=>?_
     obtain ⟨rfl,hs⟩:=hs
     refine ret_of ?_
     rw [hsq] at hs ⊢
     refine wp_stO hs fun w' hs=>?_
     refine wp_go ?_
     refine wp_lv ?_
     exact hs.sub
    ·have h2:markK k.1≠false:=by simpa using h2
     rw [if_neg fun h=>h2 h.2] at hsq
     refine wp_go ?_
     refine wp_lv ?_
     rw [← hsq]
     exact hs.sub
   ·rw [if_neg h] at hep
    rw [if_neg fun h2=>h h2.1] at hsq
    refine wp_lv ?_
    rw [← hsq,← hep]
    exact hs.sub
  rintro _ w1 hs
  refine wp_call (upto_c (p:=p) 1099511627776 (by omega) hs) fun _ _ hs=>?_
  obtain ⟨rfl,hs⟩:=hs
  refine ret_of ?_
  have htb:=uptoS_bd (most:=1099511627776) (by decide) sq.2
  generalize uptoS 1099511627776 sq.2=tm at *
  refine wp_stO hs fun w' hs=>?_
  refine wp_call (errS_c (p:=p) hs) fun _ _ hs=>?_
  obtain ⟨er,rfl,her,hs⟩:=hs
  refine ret_of ?_
  refine wp_ldO hs ?_
  rw [hH] at hdec
  generalize hHH:(⟨k,ba,pi,ep,sq,tm⟩:HdS)=H at *
  have e1:H.tm=tm:=by rw [← hHH]
  have e2:H.k=k:=by rw [← hHH]
  unfold bodS at hdec
  rw [e1,e2] at hdec
  refine wp_if (fun h=>?_) fun h=>?_
  ·refine hfail hs.sub ?_
   rw [hdec,if_pos]
   rcases h with h|h
   ·left
    cases hi:tm.2.isSome with
    | false=>rfl
    | true=>exact absurd (her.2 hi) h
   ·right;omega
  have htm:tm.1≤1099511627776:=by
   apply Decidable.byContradiction
   intro hh
   exact h (.inr (by omega))
  have her0:tm.2.isSome=true:=her.1 (Decidable.byContradiction fun hh=>h (.inl hh))
  rw [if_neg (by rw [her0];rintro (h|h);cases h;omega)] at hdec
  refine wp_ldG hs ?_
  refine wp_call (rmark_c ⟨ba.1,pi.1,ep.1,sq.1,k.1,tm.1,noSl,[]⟩ hs) fun _ w' hs=>?_
  obtain ⟨rfl,hs⟩:=hs
  refine ret_of ?_
  have em:markB ⟨ba.1,pi.1,ep.1,sq.1,k.1,tm.1,noSl,[]⟩=markK k.1:=rfl
  rw [em]
  refine wp_mid (fun _ w'=>∃ (rs:List RecM) (z:Sl) (s1:Lf),DD=(if s1=some []∧validB (H.b rs)=0 then some (H.b rs) else none)∧Sat w' (slc T.a3 4 z (rs.flatMap encR)::pt a2 (.cells [.int .i64 ba.1,.int .i64 pi.1,.int .i64 ep.1,.int .i64 sq.1,.int .i64 k.1,.int .i64 tm.1,.slice z.a z.len z.cap].toArray T.a1)::rdS T.a36 p s1::pt a1 (.cells zeroC T.a1)::pt a0 (.cells zeroC T.a1)::l)) ?_ ?_
  ·refine wp_if (fun h2=>?_) fun h2=>?_
   rotate_left
   ·have h2:markK k.1=true:=by simpa using h2
    rw [if_pos h2] at hdec
    refine wp_lv ⟨[],⟨none,0,0⟩,tm.2,hdec,?_⟩
    have hs:Sat _ (slc T.a3 4 ⟨none,0,0⟩ (([]:List RecM).flatMap encR)::_):=hs.slc_nil
    exact hs.sub
   have h2:markK k.1=false:=by simpa using h2
   rw [if_neg (by rw [h2];simp)] at hdec
   refine wp_call (upto_c (p:=p) 64 (by omega) hs) fun _ _ hs=>?_
   obtain ⟨rfl,hs⟩:=hs
   refine ret_of ?_
   have hnb:=uptoS_bd (most:=64) (by decide) tm.2
   generalize uptoS 64 tm.2=n at *
   refine wp_lt ?_
   refine wp_if (fun h3=>?_) fun h3=>?_
   ·rw [if_pos h3] at hdec
    have hf:=hfail hs.sub hdec
    exact wp_esc hf (fun _ _ _ h=>h.1) fun vs w h=>catch_other (by decide) h
   rw [if_neg h3] at hdec
   refine wp_mid (fun _ w'=>∃ (rs:List RecM) (z:Sl) (s1:Lf),recsS tm.1 n.1.toNat ⟨#[]⟩ n.2=some (rs,s1)∧Sat w' (slc T.a3 4 z (rs.flatMap encR)::pt a2 (.cells [.int .i64 ba.1,.int .i64 pi.1,.int .i64 ep.1,.int .i64 sq.1,.int .i64 k.1,.int .i64 tm.1,.slice z.a z.len z.cap].toArray T.a1)::rdS T.a36 p s1::pt a1 (.cells zeroC T.a1)::pt a0 (.cells zeroC T.a1)::l)) ?_ ?_
   rotate_left
   ·rintro _ w1 ⟨rs,z,s1,hrs,hs⟩
    rw [hrs] at hdec
    exact wp_lv ⟨rs,z,s1,hdec,hs⟩
   refine wp_loop (fun m v w=>∃ (i:Nat) (done:List RecM) (ahead:ByteArray) (z:Sl) (s1:Lf),v=(ahead,((i:Int),()))∧i≤n.1.toNat∧n.1.toNat-i=m∧done.length=i∧ahead.size≤2100 ∧
    recsS tm.1 n.1.toNat ⟨#[]⟩ n.2=(recsS tm.1 (n.1.toNat-i) ahead s1).map (fun q=>(done++q.1,q.2))∧Sat w (slc T.a3 4 z (done.flatMap encR)::pt a2 (.cells [.int .i64 ba.1,.int .i64 pi.1,.int .i64 ep.1,.int .i64 sq.1,.int .i64 k.1,.int .i64 tm.1,.slice z.a z.len z.cap].toArray T.a1)::rdS T.a36 p s1::pt a1 (.cells zeroC T.a1)::pt a0 (.cells zeroC T.a1)::l)) n.1.toNat
    ⟨0,[],⟨#[]⟩,⟨none,0,0⟩,n.2,rfl,by omega,rfl,rfl,(by show 0≤2100;omega),?_,(show Sat _ (slc T.a3 4 ⟨none,0,0⟩ (([]:List RecM).flatMap encR)::_) from hs.slc_nil).sub⟩ ?_
   ·cases recsS tm.1 n.1.toNat ⟨#[]⟩ n.2 <;> simp
   clear hs
   rintro m _ w ⟨i,done,ahead,z,s1,rfl,hi,hm,hdl,hah,hrec,hs⟩
   refine wp_if (fun hc=>?_) fun hc=>?_
   rotate_left
   ·refine wp_pass (wp_lv ⟨done,z,s1,?_,hs⟩)
    have hc:¬ ((i:Int)<n.1):=hc
    rw [hrec,show n.1.toNat-i=0 by omega]
    simp [recsS]
   have hc:(i:Int)<n.1:=hc
   refine wp_ldO hs ?_
   refine wp_call (read1_c (p:=p) tm.1 ⟨htb.1,htm⟩ ahead (by omega) hs) fun _ w' hs=>?_
   obtain ⟨y,rfl,hy,hyk,hs⟩:=hs
   refine ⟨(y.key,y.value,y.gone,y.time,(readS tm.1 ahead s1).1.isSome,()),rfl,trivial,wp_u5 _ _ _ _ _ ?_⟩
   refine wp_newO hs fun a3 w' hs=>?_
   refine wp_stG hs fun w' hs=>?_
   refine wp_lt ?_
   have hsucc:n.1.toNat-i=(n.1.toNat-(i+1))+1:=by omega
   rw [hsucc] at hrec
   rw [recsS_succ] at hrec
   refine wp_if (fun h4=>?_) fun h4=>?_
   ·have h4:(readS tm.1 ahead s1).1=none:=by simpa using h4
    rw [h4] at hrec
    have hrec:recsS tm.1 n.1.toNat ⟨#[]⟩ n.2=none:=hrec
    rw [hrec] at hdec
    have hf:=hfail hs.sub hdec
    exact wp_esc hf (fun _ _ _ h=>h.1) fun vs w h=>catch_other (by decide) (catch_other (by decide) (catch_other (by decide) h))
   have h4:(readS tm.1 ahead s1).1.isSome=true:=by
    cases hq:(readS tm.1 ahead s1).1 with
    | none=>rw [hq] at h4;exact absurd (by simp) h4
    | some q=>rfl
   obtain ⟨y',hy'⟩:=Option.isSome_iff_exists.1 h4
   obtain rfl:=hy y' hy'
   rw [hy'] at hrec
   refine wp_ldO hs ?_
   refine wp_ldG hs ?_
   refine wp_ap0 (xs:=done) (enc:=encR) (y:=y) hs (fun z' w' hs=>?_) rfl (by omega)
   refine wp_stO hs fun w' hs=>?_
   refine wp_ldO hs ?_
   refine wp_lt ?_
   have e5:IntKind.wrap .i64 ((i:Int)+1)=((i+1:Nat):Int):=by rw [w64 (by omega) (by omega)];omega
   rw [e5]
   refine wp_lp (n.1.toNat-(i+1)) ?_
   refine ⟨i+1,done++[y],y.key,z',(readS tm.1 ahead s1).2,rfl,by omega,rfl,by simp [hdl],hyk,?_,hs.sub⟩
   rw [hrec,Option.map_map]
   congr 1
   funext q
   simp
  rintro _ w1 ⟨rs,z,s1,hDD,hs⟩
  have hb:H.b rs=⟨ba.1,pi.1,ep.1,sq.1,k.1,tm.1,noSl,rs⟩:=by rw [← hHH];rfl
  have hv0:validB (H.b rs)=validB ⟨ba.1,pi.1,ep.1,sq.1,k.1,tm.1,z,rs⟩:=by rw [hb];rfl
  refine wp_mid (fun q w'=>q=(DD.isNone,())∧Sat w' (slc T.a3 4 z (rs.flatMap encR)::pt a2 (.cells [.int .i64 ba.1,.int .i64 pi.1,.int .i64 ep.1,.int .i64 sq.1,.int .i64 k.1,.int .i64 tm.1,.slice z.a z.len z.cap].toArray T.a1)::pt a1 (.cells zeroC T.a1)::pt a0 (.cells zeroC T.a1)::l)) ?_ ?_
  ·refine wp_call (endS_c (p:=p) hs) fun _ w' hs=>?_
   obtain ⟨e,rfl,he,hs⟩:=hs
   refine ret_of ?_
   refine wp_ldG hs ?_
   refine wp_if (fun h5=>?_) fun h5=>?_
   ·refine wp_lv ⟨?_,hs.sub⟩
    rw [hDD,if_neg fun hh=>h5 (he.2 hh.1)]
    rfl
   ·have h5:s1=some []:=he.1 (Decidable.not_not.1 h5)
    refine wp_call (valid_c ⟨ba.1,pi.1,ep.1,sq.1,k.1,tm.1,z,rs⟩ hs) fun _ w' hs=>?_
    obtain ⟨rfl,hs⟩:=hs
    refine ret_of ?_
    refine wp_lv ⟨?_,hs.sub⟩
    rw [hDD,← hv0]
    by_cases h6:validB (H.b rs)=0
    ·rw [if_pos ⟨h5,h6⟩,h6];rfl
    ·rw [if_neg fun hh=>h6 hh.2]
     simpa using h6
  rintro _ w1 ⟨rfl,hs⟩
  refine wp_if (fun h6=>?_) fun h6=>?_
  ·exact hfail hs.sub (by simpa using h6)
  ·rw [hDD] at h6
   split at h6
   rotate_left
   ·exact absurd rfl h6
   rename_i h7
   rw [if_pos h7] at hDD
   refine wp_ldG hs ?_
   have hs:Sat w1 (slc T.a3 4 z (rs.flatMap encR)::pt a2 (.cells [.int .i64 ba.1,.int .i64 pi.1,.int .i64 ep.1,.int .i64 sq.1,.int .i64 k.1,.int .i64 tm.1,.slice z.a z.len z.cap].toArray T.a1)::pt a1 (.cells zeroC T.a1)::pt a0 (.cells [.int .i64 0,.int .i64 0,.int .i64 0,.int .i64 0,.int .i64 0,.int .i64 0,.slice none 0 0].toArray T.a1)::l):=hs
   refine wp_stG hs fun w' hs=>?_
   refine wp_ldG hs ?_
   refine ⟨rfl,.inl ⟨H.b rs,z,hDD,?_,?_⟩⟩
   ·rw [hb];rfl
   ·rw [hb];exact hs.sub
end
section
variable {w:World} {l r:List HP} {Q:Post} {S:World→Prop}
theorem wp_litS {P:Program} {t:TypeId} {sz:Nat} {α:Type} {enc:α→List Value} {n:Nat} {ps:Array (Nat × Value)} {el:TypeId} {bytes:Nat} {k:Sl→Prog} (hs:Sat w l) [ht:SlT P t el sz bytes] [hE:EncN enc sz] (xs:List α)
  (h:∀ x w',Sat w' (slc el sz x (xs.flatMap enc)::l)→S w'∧(k x).wp P S w' Q) (hc:bsCells P t n ps=some (el,(xs.flatMap enc).toArray):=by kernel_rfl) (hn:xs.length=n:=by rfl) :
  (Prog.act (Instr.buildSlice t n ps) sL (u1 k)).wp P S w Q:=by
 have hp:=hs.push (o:=.cells (xs.flatMap enc).toArray el) (w':={ w with heap:=w.heap.push (.cells (xs.flatMap enc).toArray el) }) rfl
 have hsz:(xs.flatMap enc).toArray.size=n*sz:=by rw [List.size_toArray,flat_len,hn]
 have h1:Sat { w with heap:=w.heap.push (.cells (xs.flatMap enc).toArray el) } (slc el sz ⟨some ⟨w.heap.size,0,none⟩,n,n⟩ (xs.flatMap enc)::l):=by
  have:=hp.slc_of (sz:=sz) hsz
  rwa [List.toList_toArray] at this
 have h2:=h ⟨some ⟨w.heap.size,0,none⟩,n,n⟩ _ h1
 exact ⟨(⟨some ⟨w.heap.size,0,none⟩,n,n⟩,()),_,run_bs hc,h2.1,h2.2⟩
theorem wp_app2 {P:Program} {α:Type} {enc:α→List Value} {xs ys:List α} {t tx ty el el':TypeId} {sz bytes sz' bytes':Nat} {x y:Sl} {k:Sl→Prog} (hs:Sat w l) [ht:SlT P t el sz bytes] [htx:SlT P tx el' sz' bytes'] [hf:FocS l x el sz (xs.flatMap enc) r] [hy:FocR l y sz (ys.flatMap enc)] [hE:EncN enc sz]
  (h:∀ z w',Sat w' (slc el sz z ((xs++ys).flatMap enc)::r)→S w'∧(k z).wp P S w' Q) (hb:(xs.length+ys.length)*bytes≤140737488355328∧xs.length+ys.length≤9223372036854775807:=by omega) :
  (Prog.act (app t tx ty (.slice x.a x.len x.cap) (.slice y.a y.len y.cap)) sL (u1 k)).wp P S w Q:=by
 have h1:x.len=xs.length:=(hs.focS x).rd.len hE.len hE.pos
 have h2:=hs.slen y (xs:=ys) (enc:=enc)
 refine wp_ap hs (hy.rd w hs) (fun u hu=>?_) (by rw [h1,h2];exact hb.1) (by rw [h1,h2];exact hb.2) fun z w' _ hs'=>h z w' ?_
 ·obtain ⟨a,-,hu⟩:=List.mem_flatMap.1 hu
  exact hE.one a u hu
 ·rw [List.flatMap_append];exact hs'
end
abbrev cB (b:BatM):Array Value:=#[.int .i64 b.base,.int .i64 b.pid,.int .i64 b.epoch,.int .i64 b.seq,.int .i64 b.kind,.int .i64 b.time,.slice b.x.a b.x.len b.x.cap]
abbrev cR (r:RecM):Array Value:=#[.string r.key,.string r.value,.bool r.gone,.int .i64 r.time]
theorem recsL_snoc (time:Int):∀ (rs:List RecM) (ahead:ByteArray) (r:RecM),recsL time ahead (rs++[r])=recsL time ahead rs++recL time (match rs.getLast? with|none=>ahead|some x=>x.key) r
 | [],ahead,r=>by simp [recsL]
 | a::rs,ahead,r=>by
  show recL time ahead a++recsL time a.key (rs++[r])=recL time ahead a++recsL time a.key rs++_
  rw [recsL_snoc time rs a.key r,List.append_assoc]
  congr 3
  cases rs with
  | nil=>rfl
  | cons b bs=>rfl
theorem recs_le {b:BatM} (hv:validB b=0) (i:Nat):(recsL b.time ⟨#[]⟩ (b.rs.take i)).length≤133696:=by
 obtain ⟨h64,hrs⟩:=valid_recs hv
 have h1:=recsL_len (time:=b.time) (n:=2048) (rs:=b.rs.take i) (ahead:=⟨#[]⟩) fun r hr=>by
  obtain ⟨h1,h2,-⟩:=recF_zero (hrs r (List.mem_of_mem_take hr))
  omega
 have h2:(b.rs.take i).length≤64:=by rw [List.length_take];omega
 have:(b.rs.take i).length*(41+2048)≤64*(41+2048):=Nat.mul_le_mul_right _ h2
 omega
def hdL (b:BatM):List UInt8:=1::UInt8.ofNat b.kind.toNat::(uI b.base++uI b.pid)
def midL (b:BatM):List UInt8:=if b.pid>0 then uI b.epoch++(if markB b then [] else uI b.seq) else []
theorem batL_eq (b:BatM):batL b=(hdL b++midL b++uI b.time)++if markB b then [] else uI b.rs.length++recsL b.time ⟨#[]⟩ b.rs:=by
 unfold batL hdL midL
 simp only [List.cons_append,List.append_assoc]
section
variable {w:World} {l r:List HP}
set_option maxHeartbeats 1000000 in
theorem encode_c (b:BatM) [hb:FocR l b.x 4 (b.rs.flatMap encR)] (hs:Sat w l) :
  Ret P F.a34 #[.agg (encB7 b).toArray] w fun vs w'=>(validB b≠0∧vs=[.slice none 0 0,.int .i64 (validB b)]∧Sat w' l)∨(validB b=0∧∃ z:Sl,vs=[z.v,.int .i64 0]∧Sat w' (slc T.a34 1 z ((batL b).flatMap encU)::l)) :=
 zf41_calls b.base b.pid b.epoch b.seq b.kind b.time b.x <| by
  unfold zf41
  have hlx:=hs.slen b.x (xs:=b.rs) (enc:=encR)
  refine wp_boxO hs fun a0 w' hs=>?_
  refine wp_ldG hs ?_
  refine wp_call (valid_c b hs) fun _ w' hs=>?_
  obtain ⟨rfl,hs⟩:=hs
  refine ret_of ?_
  refine wp_lt ?_
  refine wp_if (fun h=>?_) fun h=>?_
  ·refine wp_lt ?_
   exact ⟨rfl,.inl ⟨h,rfl,hs.tail⟩⟩
  have hv:validB b=0:=Decidable.not_not.1 h
  obtain ⟨-,-,⟨hk,hba,hpi,hep,hsq,htm⟩,hfit,-⟩:=span_le b hv
  obtain ⟨h64,hrs⟩:=valid_recs hv
  refine wp_mid (fun q w'=>∃ z:Sl,q=(z,())∧Sat w' (slc T.a34 1 z ((hdL b).flatMap encU)::pt a0 (.cells (cB b) T.a1)::l)) ?_ ?_
  ·have ek:IntKind.wrap .u8 b.kind=(((UInt8.ofNat b.kind.toNat).toNat:Nat):Int):=by
    rw [wu8 (by omega) (by omega),UInt8.toNat_ofNat'];omega
   have hul1:=uI_len b.base
   have hul2:=uI_len b.pid
   refine wp_tk hs fun w' hs=>?_
   refine wp_hdO hs ?_
   refine wp_hdO hs ?_
   refine wp_hdO hs ?_
   have fin:∀ {w':World} {z1 z2 z3:Sl},Sat w' (slc T.a34 1 z1 (([1,UInt8.ofNat b.kind.toNat]:List UInt8).flatMap encU)::slc T.a34 1 z2 ((uI b.base).flatMap encU)::slc T.a34 1 z3 ((uI b.pid).flatMap encU)::pt a0 (.cells (cB b) T.a1)::l) →
     (Prog.act (Instr.buildSlice T.a23 3 #[(0,z1.v),(1,z2.v),(2,z3.v)]) sL (u1 fun l17=>.call F.a126 [l17.v] sL (u1 fun l18=>.untick <| .done 1 [l18.v]))).wp P (fun _=>True) w' (Post.catch (fun e vs w'=>e=0∧((validB b≠0∧vs=[.slice none 0 0,.int .i64 (validB b)]∧Sat w' l)∨(validB b=0∧∃ z:Sl,vs=[z.v,.int .i64 0]∧Sat w' (slc T.a34 1 z ((batL b).flatMap encU)::l)))) 1 fun vs w'=>∃ x,vs=valsOf [.one .slc] x∧∃ z:Sl,x=(z,())∧Sat w' (slc T.a34 1 z ((hdL b).flatMap encU)::pt a0 (.cells (cB b) T.a1)::l)):=by
    intro w' z1 z2 z3 hs
    refine wp_litx hs (enc:=encSl) [z1,z2,z3] fun z4 w' hs=>?_
    refine wp_call (wjoin3_c z4 z1 z2 z3 [1,UInt8.ofNat b.kind.toNat] (uI b.base) (uI b.pid) (by simp only [List.length_cons,List.length_nil];omega) hs) fun _ w' hs=>?_
    obtain ⟨z5,rfl,hs⟩:=hs
    refine ret_of ?_
    refine wp_untick ?_
    refine wp_lv ⟨z5,rfl,?_⟩
    have e:[1,UInt8.ofNat b.kind.toNat]++(uI b.base++uI b.pid)=hdL b:=by unfold hdL;simp
    rw [e] at hs
    exact hs.sub
   rw [ek]
   refine wp_both ?_ ?_
   ·refine wp_litS hs (enc:=encU) [1,UInt8.ofNat b.kind.toNat] fun z1 w' hs=>⟨(by first|trivial|(repeat (first|exact trivial|exact fun _=>run_ldO hs|exact fun _=>run_ldG hs|refine And.intro ?_ ?_))),?_⟩
    refine wp_call (wint_c b.base (by omega) hs) fun _ w' hs=>?_
    obtain ⟨z2,rfl,hs⟩:=hs
    refine ret_of ?_ (by first|trivial|(repeat (first|exact trivial|exact fun _=>run_ldO hs|exact fun _=>run_ldG hs|refine And.intro ?_ ?_)))
    refine wp_call (wint_c b.pid (by omega) hs) fun _ w' hs=>?_
    obtain ⟨z3,rfl,hs⟩:=hs
    refine ret_of ?_ (by first|trivial|(repeat (first|exact trivial|exact fun _=>run_ldO hs|exact fun _=>run_ldG hs|refine And.intro ?_ ?_)))
    refine wp_untick ?_
    exact fin hs.sub
   ·refine wp_call (wint_c b.base (by omega) hs) fun _ w' hs=>?_
    obtain ⟨z2,rfl,hs⟩:=hs
    refine ret_of ?_ (by first|trivial|(repeat (first|exact trivial|exact fun _=>run_ldO hs|exact fun _=>run_ldG hs|refine And.intro ?_ ?_)))
    refine wp_both ?_ ?_
    ·refine wp_litS hs (enc:=encU) [1,UInt8.ofNat b.kind.toNat] fun z1 w' hs=>⟨(by first|trivial|(repeat (first|exact trivial|exact fun _=>run_ldO hs|exact fun _=>run_ldG hs|refine And.intro ?_ ?_))),?_⟩
     refine wp_call (wint_c b.pid (by omega) hs) fun _ w' hs=>?_
     obtain ⟨z3,rfl,hs⟩:=hs
     refine ret_of ?_ (by first|trivial|(repeat (first|exact trivial|exact fun _=>run_ldO hs|exact fun _=>run_ldG hs|refine And.intro ?_ ?_)))
     refine wp_untick ?_
     exact fin hs.sub
    ·refine wp_call (wint_c b.pid (by omega) hs) fun _ w' hs=>?_
     obtain ⟨z3,rfl,hs⟩:=hs
     refine ret_of ?_ (by first|trivial|(repeat (first|exact trivial|exact fun _=>run_ldO hs|exact fun _=>run_ldG hs|refine And.intro ?_ ?_)))
     refine wp_litS hs (enc:=encU) [1,UInt8.ofNat b.kind.toNat] fun z1 w' hs=>⟨(by first|trivial|(repeat (first|exact trivial|exact fun _=>run_ldO hs|exact fun _=>run_ldG hs|refine And.intro ?_ ?_))),?_⟩
     refine wp_untick ?_
     exact fin hs.sub
  rintro _ w1 ⟨z,rfl,hs⟩
  have hdl:(hdL b).length≤22:=by
   have hul1:=uI_len b.base
   have hul2:=uI_len b.pid
   unfold hdL
   simp only [List.length_cons,List.length_append]
   omega
  refine wp_ldO hs ?_
  refine wp_mid (fun q w'=>∃ z:Sl,q=(z,())∧Sat w' (slc T.a34 1 z ((hdL b++midL b).flatMap encU)::pt a0 (.cells (cB b) T.a1)::l)) ?_ ?_
  ·refine wp_if (fun h2=>?_) fun h2=>?_
   rotate_left
   ·refine wp_lv ⟨z,rfl,?_⟩
    have e:midL b=[]:=by unfold midL;rw [if_neg h2]
    rw [e,List.append_nil]
    exact hs
   have hul:=uI_len b.epoch
   refine wp_ldO hs ?_
   refine wp_call (wint_c b.epoch (by omega) hs) fun _ w' hs=>?_
   obtain ⟨z2,rfl,hs⟩:=hs
   refine ret_of ?_
   refine wp_app' (xs:=hdL b) (ys:=uI b.epoch) (enc:=encU) hs fun z3 w' hs=>?_
   refine wp_ldG hs ?_
   refine wp_call (rmark_c b hs) fun _ w' hs=>?_
   obtain ⟨rfl,hs⟩:=hs
   refine ret_of ?_
   refine wp_bind ?_
   refine wp_if (fun h3=>?_) fun h3=>?_
   ·have h3:markB b=false:=by simpa using h3
    have hul2:=uI_len b.seq
    refine wp_ldO hs ?_
    refine wp_call (wint_c b.seq (by omega) hs) fun _ w' hs=>?_
    obtain ⟨z4,rfl,hs⟩:=hs
    refine ret_of ?_
    refine wp_app' (xs:=hdL b++uI b.epoch) (ys:=uI b.seq) (enc:=encU) hs (fun z5 w' hs=>?_) (by rw [List.length_append];omega)
    refine wp_go ?_
    refine wp_lv ⟨z5,rfl,?_⟩
    have e:midL b=uI b.epoch++uI b.seq:=by unfold midL;rw [if_pos h2,h3];rfl
    rw [e,← List.append_assoc]
    exact hs.sub
   ·have h3:markB b=true:=by simpa using h3
    refine wp_go ?_
    refine wp_lv ⟨z3,rfl,?_⟩
    have e:midL b=uI b.epoch:=by unfold midL;rw [if_pos h2,h3,if_pos rfl,List.append_nil]
    rw [e]
    exact hs.sub
  rintro _ w2 ⟨z2,rfl,hs⟩
  have hml:(midL b).length≤20:=by
   have hul1:=uI_len b.epoch
   have hul2:=uI_len b.seq
   unfold midL
   split
   ·split
    ·simp only [List.length_append,List.length_nil];omega
    ·simp only [List.length_append];omega
   ·simp
  have htl:=uI_len b.time
  refine wp_ldO hs ?_
  refine wp_call (wint_c b.time (by omega) hs) fun _ w' hs=>?_
  obtain ⟨z3,rfl,hs⟩:=hs
  refine ret_of ?_
  refine wp_app' (xs:=hdL b++midL b) (ys:=uI b.time) (enc:=encU) hs (fun z4 w' hs=>?_) (by rw [List.length_append];omega)
  refine wp_ldG hs ?_
  refine wp_call (rmark_c b hs) fun _ w' hs=>?_
  obtain ⟨rfl,hs⟩:=hs
  refine ret_of ?_
  refine wp_if (fun h3=>?_) fun h3=>?_
  ·refine ⟨rfl,.inr ⟨hv,z4,rfl,?_⟩⟩
   rw [batL_eq,h3,if_pos rfl,List.append_nil]
   exact hs.sub
  have h3:markB b=false:=by simpa using h3
  have hcl:=uI_len ((b.rs.length:Nat):Int)
  refine wp_ldO hs ?_
  rw [hlx]
  refine wp_call (wint_c ((b.rs.length:Nat):Int) (by omega) hs) fun _ w' hs=>?_
  obtain ⟨z5,rfl,hs⟩:=hs
  refine ret_of ?_
  generalize hX:hdL b++midL b++uI b.time=X at hs
  have hXl:X.length≤60:=by rw [← hX];simp only [List.length_append];omega
  refine wp_app' (xs:=X) (ys:=uI (b.rs.length:Nat)) (enc:=encU) hs (fun z6 w' hs=>?_) (by omega)
  refine wp_ldO hs ?_
  generalize hY:X++uI ((b.rs.length:Nat):Int)=Y at hs
  have hYl:Y.length≤80:=by rw [← hY];simp only [List.length_append];omega
  have hfin:batL b=Y++recsL b.time ⟨#[]⟩ b.rs:=by
   rw [batL_eq,hX,h3,if_neg (by simp),← hY,List.append_assoc]
  refine wp_mid (fun q w'=>∃ z:Sl,q=(z,())∧Sat w' (slc T.a34 1 z ((batL b).flatMap encU)::l)) ?_ ?_
  rotate_left
  ·rintro _ w' ⟨z,rfl,hs⟩
   exact ⟨rfl,.inr ⟨hv,z,rfl,hs⟩⟩
  have hrec:=recs_le hv
  refine wp_loop (fun m v w=>∃ (i:Nat) (z:Sl),v=(z,((match (b.rs.take i).getLast? with|none=>(⟨#[]⟩:ByteArray)|some x=>x.key),((i:Int),())))∧i≤b.rs.length∧b.rs.length-i=m∧Sat w (slc T.a34 1 z ((Y++recsL b.time ⟨#[]⟩ (b.rs.take i)).flatMap encU)::pt a0 (.cells (cB b) T.a1)::l)) b.rs.length ⟨0,z6,rfl,by omega,rfl,by
   rw [List.take_zero]
   show Sat _ (slc T.a34 1 z6 ((Y++[]).flatMap encU)::_)
   rw [List.append_nil]
   exact hs.sub⟩ ?_
  clear hs
  rintro m _ w ⟨i,z,rfl,hi,hm,hs⟩
  refine wp_if (fun hc=>?_) fun hc=>?_
  rotate_left
  ·refine wp_pass (wp_lv ⟨z,rfl,?_⟩)
   have hc:¬ ((i:Int)<((b.x.len:Nat):Int)):=hc
   have hi2:i=b.rs.length:=by omega
   rw [hi2,List.take_length,← hfin] at hs
   exact hs.sub
  have hc:((i:Int)<((b.x.len:Nat):Int)):=hc
  have hil:i<b.rs.length:=by omega
  refine wp_ixA hs (xs:=b.rs) (enc:=encR) i hil ?_
  refine wp_newO hs fun a1 w' hs=>?_
  refine wp_stG hs fun w' hs=>?_
  refine wp_ldO hs ?_
  obtain ⟨hr1,hr2,hr3,hr4⟩:=recF_zero (hrs b.rs[i] (List.getElem_mem hil))
  have hah:∀ x,(match (b.rs.take i).getLast? with|none=>(⟨#[]⟩:ByteArray)|some x=>x.key)=x→x.size≤1024:=by
   intro x hx
   cases hq:(b.rs.take i).getLast? with
   | none=>rw [hq] at hx;subst hx;show 0≤1024;omega
   | some y =>
    rw [hq] at hx
    subst hx
    exact (recF_zero (hrs y (List.mem_of_mem_take (List.mem_of_getLast? hq)))).1
  have hsn:=recsL_snoc b.time (b.rs.take i) ⟨#[]⟩ b.rs[i]
  rw [← List.take_succ_eq_append_getElem hil] at hsn
  have hln:=hrec (i+1)
  rw [hsn,List.length_append] at hln
  have hlast:(match (b.rs.take (i+1)).getLast? with|none=>(⟨#[]⟩:ByteArray)|some x=>x.key)=b.rs[i].key:=by
   rw [List.take_succ_eq_append_getElem hil,getLast_snoc]
  generalize (match (b.rs.take i).getLast? with|none=>(⟨#[]⟩:ByteArray)|some x=>x.key)=ahead at *
  have hah:=hah ahead rfl
  refine wp_call (alike_c ahead b.rs[i].key (by omega) hs) fun _ w' hs=>?_
  obtain ⟨rfl,hs⟩:=hs
  refine ret_of ?_
  refine wp_lt ?_
  have hal:=alikeL_le (bl ahead) (bl b.rs[i].key)
  rw [size_bl,size_bl] at hal
  have hrl:recL b.time ahead b.rs[i]=(sintL (b.rs[i].time-b.time)++([flagB b.rs[i].gone]++(uI (alikeL (bl ahead) (bl b.rs[i].key):Nat)++tailL ahead b.rs[i].key)))++if b.rs[i].gone then [] else uI b.rs[i].value.size++bl b.rs[i].value:=by
   unfold recL
   simp only [List.append_assoc,List.cons_append,List.nil_append,List.singleton_append]
  generalize hZ:Y++recsL b.time ⟨#[]⟩ (b.rs.take i)=Z at *
  have hZl:Z.length≤200000:=by rw [← hZ,List.length_append];omega
  have htl1:=sintL_len (b.rs[i].time-b.time)
  have htl2:=uI_len ((alikeL (bl ahead) (bl b.rs[i].key):Nat):Int)
  have htl3:(tailL ahead b.rs[i].key).length≤1034:=by
   unfold tailL
   have:=uI_len (((b.rs[i].key.size-alikeL (bl ahead) (bl b.rs[i].key):Nat)):Int)
   rw [List.length_append,List.length_drop,size_bl]
   omega
  refine wp_mid (fun q w'=>∃ z:Sl,q=(z,())∧Sat w' (slc T.a34 1 z ((Z++(sintL (b.rs[i].time-b.time)++([flagB b.rs[i].gone]++(uI (alikeL (bl ahead) (bl b.rs[i].key):Nat)++tailL ahead b.rs[i].key)))).flatMap encU)::pt a1 (.cells (cR b.rs[i]) T.a3)::pt a0 (.cells (cB b) T.a1)::l)) ?_ ?_
  ·refine wp_tk hs fun w' hs=>?_
   refine wp_ldO hs ?_
   refine wp_ldO hs ?_
   refine wp_hdO hs ?_
   refine wp_hdO hs ?_
   refine wp_must (by omega) ?_
   rw [w64 (by omega) (by omega)]
   refine wp_call (wsint_c (b.rs[i].time-b.time) (by omega) hs) fun _ w' hs=>?_
   obtain ⟨u1_,rfl,hs⟩:=hs
   refine ret_of ?_ (by first|trivial|(repeat (first|exact trivial|exact fun _=>run_ldO hs|exact fun _=>run_ldG hs|refine And.intro ?_ ?_)))
   refine wp_call (wflag_c b.rs[i].gone hs) fun _ w' hs=>?_
   obtain ⟨u2_,rfl,hs⟩:=hs
   refine ret_of ?_ (by first|trivial|(repeat (first|exact trivial|exact fun _=>run_ldO hs|exact fun _=>run_ldG hs|refine And.intro ?_ ?_)))
   refine wp_call (wint_c ((alikeL (bl ahead) (bl b.rs[i].key):Nat):Int) (by omega) hs) fun _ w' hs=>?_
   obtain ⟨u3_,rfl,hs⟩:=hs
   refine ret_of ?_ (by first|trivial|(repeat (first|exact trivial|exact fun _=>run_ldO hs|exact fun _=>run_ldG hs|refine And.intro ?_ ?_)))
   refine wp_untick ?_
   have ext:(ByteArray.extract b.rs[i].key (alikeL (bl ahead) (bl b.rs[i].key)) b.rs[i].key.size).size=b.rs[i].key.size-alikeL (bl ahead) (bl b.rs[i].key):=by rw [ByteArray.size_extract];omega
   have exb:bl (ByteArray.extract b.rs[i].key (alikeL (bl ahead) (bl b.rs[i].key)) b.rs[i].key.size)=(bl b.rs[i].key).drop (alikeL (bl ahead) (bl b.rs[i].key)):=by
    unfold bl
    rw [ByteArray.data_extract,Array.toList_extract,List.extract_eq_take_drop]
    exact List.take_of_length_le (by rw [List.length_drop];exact Nat.le_refl _)
   rw [Int.toNat_natCast]
   refine wp_call (wtext_c (ByteArray.extract b.rs[i].key (alikeL (bl ahead) (bl b.rs[i].key)) b.rs[i].key.size) (by omega) hs) fun _ w' hs=>?_
   obtain ⟨u4_,rfl,hs⟩:=hs
   refine ret_of ?_
   rw [ext,exb] at hs
   have hs:Sat _ (slc T.a34 1 u4_ ((tailL ahead b.rs[i].key).flatMap encU)::_):=hs
   refine wp_litx hs (enc:=encSl) [u1_,u2_,u3_,u4_] fun u5_ w' hs=>?_
   refine wp_call (wjoin4_c u5_ u1_ u2_ u3_ u4_ (sintL (b.rs[i].time-b.time)) [flagB b.rs[i].gone] (uI (alikeL (bl ahead) (bl b.rs[i].key):Nat)) (tailL ahead b.rs[i].key) (by simp only [List.length_cons,List.length_nil];omega) hs) fun _ w' hs=>?_
   obtain ⟨u6_,rfl,hs⟩:=hs
   refine ret_of ?_
   refine wp_app' (xs:=Z) (ys:=sintL (b.rs[i].time-b.time)++([flagB b.rs[i].gone]++(uI (alikeL (bl ahead) (bl b.rs[i].key):Nat)++tailL ahead b.rs[i].key))) (enc:=encU) hs (fun z5 w' hs=>?_) (by simp only [List.length_append,List.length_cons,List.length_nil];omega)
   refine wp_untick ?_
   refine wp_lv ⟨z5,rfl,?_⟩
   exact hs.sub
  rintro _ w3 ⟨z5,rfl,hs⟩
  refine wp_ldO hs ?_
  refine wp_mid (fun q w'=>∃ z:Sl,q=(z,())∧Sat w' (slc T.a34 1 z ((Z++recL b.time ahead b.rs[i]).flatMap encU)::pt a1 (.cells (cR b.rs[i]) T.a3)::pt a0 (.cells (cB b) T.a1)::l)) ?_ ?_
  ·refine wp_if (fun h5=>?_) fun h5=>?_
   ·have h5:b.rs[i].gone=false:=by simpa using h5
    refine wp_ldO hs ?_
    refine wp_call (wtext_c b.rs[i].value (by omega) hs) fun _ w' hs=>?_
    obtain ⟨u,rfl,hs⟩:=hs
    refine ret_of ?_
    have hvl:=uI_len ((b.rs[i].value.size:Nat):Int)
    have hvs:=size_bl b.rs[i].value
    refine wp_app' (xs:=Z++(sintL (b.rs[i].time-b.time)++([flagB b.rs[i].gone]++(uI (alikeL (bl ahead) (bl b.rs[i].key):Nat)++tailL ahead b.rs[i].key)))) (ys:=uI (b.rs[i].value.size:Nat)++bl b.rs[i].value) (enc:=encU) hs (fun z7 w' hs=>?_) (by simp only [List.length_append,List.length_cons,List.length_nil];omega)
    refine wp_lv ⟨z7,rfl,?_⟩
    rw [hrl,if_neg (by rw [h5];simp),← List.append_assoc]
    exact hs.sub
   ·have h5:b.rs[i].gone=true:=by simpa using h5
    refine wp_lv ⟨z5,rfl,?_⟩
    rw [hrl,if_pos h5,List.append_nil]
    exact hs.sub
  rintro _ w4 ⟨z7,rfl,hs⟩
  refine wp_ldO hs ?_
  refine wp_lt ?_
  have e5:IntKind.wrap .i64 ((i:Int)+1)=((i+1:Nat):Int):=by rw [w64 (by omega) (by omega)];omega
  rw [e5]
  refine wp_lp (b.rs.length-(i+1)) ?_
  refine ⟨i+1,z7,by rw [hlast],by omega,rfl,?_⟩
  rw [hsn,← List.append_assoc,hZ]
  exact hs.sub
end
def partB (b:BatM) (k:Nat):BatM:=⟨b.base+k,b.pid,b.epoch,if b.pid>0 then b.seq+k else b.seq,b.kind,b.time,b.x,b.rs.drop k⟩
def fromB (off:Int) (b:BatM):Option BatM:=if validB b≠0∨off≥nextB b then none else if markB b=true∨off≤b.base then some b else some (partB b (off-b.base).toNat)
def rsP (b:BatM):HP:=slc T.a3 4 b.x (b.rs.flatMap encR)
def batsP (bs:List BatM):HP:=HP.all (bs.map rsP)
section
variable {w:World} {l r:List HP}
theorem rcopy_c (b:BatM) [hb:FocR l b.x 4 (b.rs.flatMap encR)] (hlen:b.rs.length≤1000000) (hs:Sat w l):Ret P F.a32 #[.agg (encB7 b).toArray] w fun vs w'=>∃ z:Sl,vs=[.agg (encB7 (b.at z)).toArray]∧Sat w' (slc T.a3 4 z (b.rs.flatMap encR)::l) :=
 zf39_calls b.base b.pid b.epoch b.seq b.kind b.time b.x <| by
  unfold zf39
  refine wp_boxO hs fun a0 w' hs=>?_
  refine wp_newO hs fun a1 w' hs=>?_
  refine wp_ldO hs ?_
  have hs:Sat w' (slc T.a3 4 ⟨none,0,0⟩ (([]:List RecM).flatMap encR)::_):=hs.slc_nil
  refine wp_app' (x:=⟨none,0,0⟩) (xs:=([]:List RecM)) (ys:=b.rs) (enc:=encR) hs (fun z w' hs=>?_) (by simp only [List.length_nil];omega)
  rw [List.nil_append] at hs
  refine wp_stO hs fun w' hs=>?_
  refine wp_ldG hs ?_
  refine wp_stG hs fun w' hs=>?_
  refine wp_ldG hs ?_
  refine ⟨rfl,z,rfl,?_⟩
  exact hs.sub
theorem rpart_c (b:BatM) (k:Nat) (hk:k≤b.rs.length) (hcap:b.x.len≤b.x.cap) (hv:validB b=0) [hb:FocR l b.x 4 (b.rs.flatMap encR)] (hs:Sat w l):Ret P F.a43 #[.agg (encB7 b).toArray,.int .i64 (k:Int),.int .i64 (b.x.len:Nat)] w fun vs w'=>∃ z:Sl,vs=[.agg (encB7 ((partB b k).at z)).toArray]∧Sat w' (slc T.a3 4 z ((b.rs.drop k).flatMap encR)::l) :=
 zf50_calls b.base b.pid b.epoch b.seq b.kind b.time b.x _ _ <| by
  unfold zf50
  have hl:=hs.slen b.x (xs:=b.rs) (enc:=encR)
  obtain ⟨h64,-⟩:=valid_recs hv
  obtain ⟨-,-,⟨-,hba,hpi,-,hsq,-⟩,-,-⟩:=span_le b hv
  refine wp_boxO hs fun a0 w' hs=>?_
  refine wp_newO hs fun a1 w' hs=>?_
  refine wp_ldG hs ?_
  refine wp_newO hs fun a9 w' hs=>?_
  refine wp_stG hs fun w' hs=>?_
  refine wp_ldO hs ?_
  refine wp_must (by omega) ?_
  rw [Int.toNat_natCast,Int.toNat_natCast]
  have hf:FocR (pt a9 (.cells #[.int .i64 b.base,.int .i64 b.pid,.int .i64 b.epoch,.int .i64 b.seq,.int .i64 b.kind,.int .i64 b.time,.slice b.x.a b.x.len b.x.cap] T.a1)::pt a1 (.cells #[.int .i64 0,.int .i64 0,.int .i64 0,.int .i64 0,.int .i64 0,.int .i64 0,.slice none 0 0] T.a1)::pt a0 (.cells #[.int .i64 b.base,.int .i64 b.pid,.int .i64 b.epoch,.int .i64 b.seq,.int .i64 b.kind,.int .i64 b.time,.slice b.x.a b.x.len b.x.cap] T.a1)::l) ⟨cutA b.x.a 4 k b.x.cap,b.x.len-k,b.x.cap-k⟩ 4 ((b.rs.drop k).flatMap encR):=FocR.post hcap
  have hs:Sat w' (slc T.a3 4 ⟨none,0,0⟩ (([]:List RecM).flatMap encR)::_):=hs.slc_nil
  refine wp_app' (x:=⟨none,0,0⟩) (y:=⟨cutA b.x.a 4 k b.x.cap,b.x.len-k,b.x.cap-k⟩) (xs:=([]:List RecM)) (ys:=b.rs.drop k) (enc:=encR) hs (fun z w' hs=>?_) (by simp only [List.length_nil,List.length_drop];omega)
  rw [List.nil_append] at hs
  refine wp_stO hs fun w' hs=>?_
  refine wp_ldO hs ?_
  rw [w64 (by omega) (by omega)]
  refine wp_stO hs fun w' hs=>?_
  refine wp_ldO hs ?_
  refine wp_mid (fun _ w'=>Sat w' (pt a9 (.cells [.int .i64 (b.base+k),.int .i64 b.pid,.int .i64 b.epoch,.int .i64 (if b.pid>0 then b.seq+k else b.seq),.int .i64 b.kind,.int .i64 b.time,.slice z.a z.len z.cap].toArray T.a1)::slc T.a3 4 z ((b.rs.drop k).flatMap encR)::pt a1 (.cells #[.int .i64 0,.int .i64 0,.int .i64 0,.int .i64 0,.int .i64 0,.int .i64 0,.slice none 0 0] T.a1)::l)) ?_ ?_
  ·refine wp_if (fun h=>?_) fun h=>?_
   ·refine wp_ldO hs ?_
    rw [w64 (by omega) (by omega)]
    refine wp_stO hs fun w' hs=>?_
    refine wp_lv ?_
    rw [if_pos h]
    exact hs.sub
   ·refine wp_lv ?_
    rw [if_neg h]
    exact hs.sub
  clear hs
  rintro _ w2 hs
  refine wp_ldG hs ?_
  refine wp_stG hs fun w' hs=>?_
  refine wp_ldG hs ?_
  refine ⟨rfl,z,rfl,?_⟩
  exact hs.sub
theorem from_c6 (b:BatM) (off:Int) (ho : -9223372036854775808≤off∧off<9223372036854775808) (hcap:b.x.len≤b.x.cap) [hb:FocR l b.x 4 (b.rs.flatMap encR)] (hs:Sat w l):Ret P F.a35 #[.agg (encB7 b).toArray,.int .i64 off] w fun vs w' =>
  (fromB off b=none∧vs=[.agg (encB7 zeroB).toArray,.bool false]∧Sat w' l)∨(∃ (c:BatM) (z:Sl),fromB off b=some c∧vs=[.agg (encB7 (c.at z)).toArray,.bool true]∧Sat w' (slc T.a3 4 z (c.rs.flatMap encR)::l)) :=
 zf42_calls b.base b.pid b.epoch b.seq b.kind b.time b.x off <| by
  unfold zf42
  have hl:=hs.slen b.x (xs:=b.rs) (enc:=encR)
  refine wp_boxO hs fun a0 w' hs=>?_
  refine wp_newO hs fun a1 w' hs=>?_
  refine wp_mid (fun q w'=>q=(decide (validB b≠0∨off≥nextB b),())∧Sat w' (pt a1 (.cells #[.int .i64 0,.int .i64 0,.int .i64 0,.int .i64 0,.int .i64 0,.int .i64 0,.slice none 0 0] T.a1)::pt a0 (.cells (cB b) T.a1)::l)) ?_ ?_
  ·refine wp_ldG hs ?_
   refine wp_call (valid_c b hs) fun _ w' hs=>?_
   obtain ⟨rfl,hs⟩:=hs
   refine ret_of ?_
   refine wp_ldG hs ?_
   refine wp_if (fun h=>?_) fun h=>?_
   ·exact wp_lv ⟨by rw [decide_eq_true (.inl h)],hs⟩
   ·refine wp_call (next_c_ b hs) fun _ w' hs=>?_
    obtain ⟨rfl,hs⟩:=hs
    refine ret_of ?_
    refine wp_lt ?_
    refine wp_lv ⟨?_,hs⟩
    rw [decide_eq_decide.2 (show (validB b≠0∨off≥nextB b)↔off≥nextB b from ⟨fun hh=>hh.resolve_left h,.inr⟩)]
  rintro _ w2 ⟨rfl,hs⟩
  refine wp_if (fun h=>?_) fun h=>?_
  ·have h:validB b≠0∨off≥nextB b:=by simpa using h
   refine wp_stG hs fun w' hs=>?_
   refine wp_ldG hs ?_
   refine ⟨rfl,.inl ⟨by unfold fromB;rw [if_pos h],rfl,hs.tail.tail⟩⟩
  have h:¬ (validB b≠0∨off≥nextB b):=by simpa using h
  have hv:validB b=0:=Decidable.byContradiction fun hh=>h (.inl hh)
  have hno:off<nextB b:=by
   apply Decidable.byContradiction;intro hh;exact h (.inr (by omega))
  have hnx:nextB b=b.base+spanB b:=by unfold nextB;rw [if_neg (by rw [hv];simp)]
  obtain ⟨h64,-⟩:=valid_recs hv
  obtain ⟨-,-,⟨-,hba,-⟩,-,-⟩:=span_le b hv
  refine wp_ldG hs ?_
  refine wp_call (rmark_c b hs) fun _ w' hs=>?_
  obtain ⟨rfl,hs⟩:=hs
  refine ret_of ?_
  refine wp_ldO hs ?_
  refine wp_lt ?_
  refine wp_if (fun h2=>?_) fun h2=>?_
  ·refine wp_ldG hs ?_
   refine wp_call (rcopy_c b (by omega) hs) fun _ w' hs=>?_
   obtain ⟨z,rfl,hs⟩:=hs
   refine ⟨(b.base,b.pid,b.epoch,b.seq,b.kind,b.time,z,()),rfl,trivial,wp_u7 _ _ _ _ _ _ _ ?_⟩
   refine wp_stG hs fun w' hs=>?_
   refine wp_ldG hs ?_
   refine ⟨rfl,.inr ⟨b,z,by unfold fromB;rw [if_neg h,if_pos h2],rfl,hs.sub⟩⟩
  ·have hm:markB b=false:=by
    cases hm:markB b with
    | false=>rfl
    | true=>exact absurd (.inl hm) h2
   have hob:¬ off≤b.base:=fun hh=>h2 (.inr hh)
   have hsp:spanB b=b.rs.length:=by unfold spanB;rw [hm];simp
   refine wp_ldG hs ?_
   refine wp_ldO hs ?_
   refine wp_ldO hs ?_
   rw [w64 (by omega) (by omega)]
   have eo:off-b.base=(((off-b.base).toNat:Nat):Int):=by omega
   rw [eo]
   refine wp_call (rpart_c b (off-b.base).toNat (by omega) hcap hv hs) fun _ w' hs=>?_
   obtain ⟨z,rfl,hs⟩:=hs
   refine ⟨(b.base+(off-b.base).toNat,b.pid,b.epoch,(if b.pid>0 then b.seq+(off-b.base).toNat else b.seq),b.kind,b.time,z,()),rfl,trivial,wp_u7 _ _ _ _ _ _ _ ?_⟩
   refine wp_stG hs fun w' hs=>?_
   refine wp_ldG hs ?_
   refine ⟨rfl,.inr ⟨partB b (off-b.base).toNat,z,by unfold fromB;rw [if_neg h,if_neg h2],rfl,(show Sat w' (slc T.a3 4 z ((b.rs.drop (off-b.base).toNat).flatMap encR)::l) from hs.sub)⟩⟩
end
theorem bytes_ext {a b:ByteArray} (h:a.data.toList=b.data.toList):a=b:=by
 cases a;cases b;exact congrArg ByteArray.mk (Array.ext' h)
theorem less_irrefl:∀ x:List UInt8,Op.bytesLess x x=false
 | []=>rfl
 | a::x=>by rw [Op.bytesLess,less_irrefl x];simp
theorem less_trans:∀ {x y z:List UInt8},Op.bytesLess x y=true→Op.bytesLess y z=true→Op.bytesLess x z=true
 | [],_,[],_,h=>by cases ‹List UInt8› <;> simp [Op.bytesLess] at h
 | [],_,_::_,_,_=>rfl
 | _::_,[],_,h,_=>by simp [Op.bytesLess] at h
 | _::_,_::_,[],_,h=>by simp [Op.bytesLess] at h
 | a::x,b::y,c::z,h1,h2=>by
  simp only [Op.bytesLess,Bool.or_eq_true,decide_eq_true_eq,Bool.and_eq_true,beq_iff_eq] at h1 h2 ⊢
  rcases h1 with h1|⟨rfl,h1⟩
  ·rcases h2 with h2|⟨rfl,h2⟩
   ·exact .inl (UInt8.lt_trans h1 h2)
   ·exact .inl h1
  ·rcases h2 with h2|⟨rfl,h2⟩
   ·exact .inl h2
   ·exact .inr ⟨rfl,less_trans h1 h2⟩
theorem less_total:∀ (x y:List UInt8),Op.bytesLess x y=true∨x=y∨Op.bytesLess y x=true
 | [],[]=>.inr (.inl rfl)
 | [],_::_=>.inl rfl
 | _::_,[]=>.inr (.inr rfl)
 | a::x,b::y=>by
  simp only [Op.bytesLess,Bool.or_eq_true,decide_eq_true_eq,Bool.and_eq_true,beq_iff_eq,List.cons.injEq]
  rcases Nat.lt_trichotomy a.toNat b.toNat with h|h|h
  ·exact .inl (.inl (UInt8.lt_iff_toNat_lt.2 h))
  ·have:=UInt8.toNat_inj.1 h
   subst this
   rcases less_total x y with h|rfl|h
   ·exact .inl (.inr ⟨rfl,h⟩)
   ·exact .inr (.inl ⟨rfl,rfl⟩)
   ·exact .inr (.inr (.inr ⟨rfl,h⟩))
  ·exact .inr (.inr (.inl (UInt8.lt_iff_toNat_lt.2 h)))
def ltS (a b:ByteArray):Bool:=Op.bytesLess (ByteArray.toList a) (ByteArray.toList b)
theorem ltS_irrefl (a:ByteArray):ltS a a=false:=less_irrefl _
theorem ltS_trans {a b c:ByteArray} (h1:ltS a b=true) (h2:ltS b c=true):ltS a c=true:=less_trans h1 h2
theorem ltS_total (a b:ByteArray):ltS a b=true∨a=b∨ltS b a=true:=by
 rcases less_total (ByteArray.toList a) (ByteArray.toList b) with h|h|h
 ·exact .inl h
 ·exact .inr (.inl (bytes_toList.1 h))
 ·exact .inr (.inr h)
theorem ltS_asymm {a b:ByteArray} (h:ltS a b=true):ltS b a=false:=by
 cases hb:ltS b a with
 | false=>rfl
 | true=>have:=ltS_trans h hb;rw [ltS_irrefl] at this;cases this
structure FileA where
 name:ByteArray
 b:List UInt8
 kept:Nat
structure DiskA where
 room:Nat
 left:Int
 gone:Bool
 fs:List FileA
def used (fs:List FileA):Nat:=(fs.map fun f=>f.b.length).sum
def DiskA.free (A:DiskA):Nat:=A.room-used A.fs
def okC (c:UInt8):Bool:=(97≤c.toNat && c.toNat≤122) || (48≤c.toNat && c.toNat≤57) || c.toNat == 46 || c.toNat == 45
def nameF (s:ByteArray):Bool:=s.data.toList.all okC && (1≤s.size && s.size≤24)
def hasF (fs:List FileA) (n:ByteArray):Bool:=fs.any fun f=>decide (f.name=n)
def doneA (A:DiskA):DiskA:=if A.left>0 then { A with left:=A.left-1,gone:=decide (A.left-1=0) } else A
def updF (n:ByteArray) (g:FileA→FileA) (f:FileA):FileA:=if f.name=n then g f else f
def insF (x:FileA):List FileA→List FileA
 | []=>[x]
 | f::r=>if ltS x.name f.name then x::f::r else f::insF x r
def dropF (n:ByteArray) (fs:List FileA):List FileA:=fs.filter fun f=>!decide (f.name=n)
def appendA (A:DiskA) (n:ByteArray) (bs:List UInt8):Int × DiskA :=
 if A.gone then (9,A) else if nameF n=false then (2,A) else if bs.length>A.free∨(hasF A.fs n=false∧A.fs.length≥128) then (5,A) else
  (0,doneA { A with fs:=if hasF A.fs n then A.fs.map (updF n fun f=>{ f with b:=f.b++bs }) else insF ⟨n,bs,0⟩ A.fs })
def asked (ns:List ByteArray) (n:ByteArray):Bool:=ns.isEmpty || ns.any fun m=>decide (m=n)
def syncF (ns:List ByteArray) (f:FileA):FileA:=if asked ns f.name then { f with kept:=f.b.length } else f
def syncA (A:DiskA) (ns:List ByteArray):Int × DiskA :=
 if A.gone then (9,A) else if ns.all (hasF A.fs)=false then (3,A) else (0,doneA { A with fs:=A.fs.map (syncF ns) })
def lenF (fs:List FileA) (n:ByteArray):Nat:=match fs.find? fun f=>decide (f.name=n) with
 | some f=>f.b.length
 | none=>0
def cutA' (A:DiskA) (n:ByteArray) (k:Int):Int × DiskA :=
 if A.gone then (9,A) else if hasF A.fs n=false then (3,A) else if k<0∨k>lenF A.fs n then (2,A) else
  (0,doneA { A with fs:=A.fs.map (updF n fun f=>{ f with b:=f.b.take k.toNat,kept:=min f.kept k.toNat }) })
def remA (A:DiskA) (n:ByteArray):Int × DiskA :=
 if A.gone then (9,A) else if hasF A.fs n=false then (3,A) else (0,doneA { A with fs:=dropF n A.fs })
structure okA (A:DiskA):Prop where
 room:A.room≤4194304
 used:used A.fs≤4194304
 many:A.fs.length≤128
 left : -1≤A.left∧A.left≤9223372036854775807
 sorted:A.fs.Pairwise fun a b=>ltS a.name b.name=true
 kept:∀ f ∈ A.fs,f.kept≤f.b.length
 names:∀ f ∈ A.fs,f.name.size≤24
theorem used_cons (f:FileA) (fs:List FileA):used (f::fs)=f.b.length+used fs:=by simp [used]
theorem used_perm {a b:List FileA} (h:a.Perm b):used a=used b:=(h.map _).sum_nat
theorem used_mem:∀ {fs:List FileA} {f:FileA},f ∈ fs→f.b.length≤used fs
 | g::r,f,h=>by
  rw [used_cons]
  rcases List.mem_cons.1 h with rfl|h
  ·omega
  ·have:=used_mem h;omega
theorem names_nodup {fs:List FileA} (h:fs.Pairwise fun a b=>ltS a.name b.name=true):(fs.map (·.name)).Nodup:=by
 rw [List.Nodup,List.pairwise_map]
 exact h.imp fun {a b} hab e=>by rw [e,ltS_irrefl] at hab;cases hab
theorem hasF_iff {fs:List FileA} {n:ByteArray}:hasF fs n=true↔∃ f ∈ fs,f.name=n:=by simp [hasF]
theorem hasF_not {fs:List FileA} {n:ByteArray}:hasF fs n=false↔∀ f ∈ fs,f.name≠n:=by simp [hasF]
instance:ByE P T.a26 T.a34:=⟨by kernel_rfl,by kernel_rfl,by kernel_rfl⟩
instance:StT P T.a31:=⟨by kernel_rfl⟩
instance:KeyT P T.a31 ekS:=keyT_str (by kernel_rfl)
instance:MapT P T.a12 T.a31 (.pointer none):=⟨T.a14,by kernel_rfl,by kernel_rfl⟩
abbrev evF (b:Nat):Value:=.pointer (some ⟨b,0,none⟩)
structure FileM where
 at_:Nat
 x:Sl
 f:FileA
def fileP (t:FileM):HP:=HP.star (pt t.at_ (.cells #[t.x.v,.int .i64 t.f.kept] T.a6)) (slc T.a34 1 t.x (t.f.b.flatMap encU))
def dk (d:Nat) (A:DiskA):HP:=HP.ex fun m:Nat=>HP.ex fun FS:List FileM=>HP.and ((FS.map (·.f)).Perm A.fs∧okA A)
 (HP.star (pt d (.cells #[.int .i64 A.left,.bool A.gone,.int .i64 A.room,.int .i64 (used A.fs),.map (some m)] T.a5))
  (HP.star (mapP ekS evF m (FS.map fun t=>(t.f.name,t.at_))) (HP.all (FS.map fileP))))
section
variable {w:World} {l r:List HP}
theorem Sat.all_nil (hs:Sat w l):Sat w (HP.all []::l) :=
 ⟨⟨fun _=>none,World.env' w⟩,World.ph w,⟨(fun _ _ h=>by cases h),rfl⟩,PH.sub_refl _,(fun _=>Or.inl rfl),trivial,hs⟩
theorem Sat.all_cons {a:HP} {L:List HP} (hs:Sat w (HP.all (a::L)::l)):Sat w (a::HP.all L::l):=by
 refine Sat.star (A:=a) (B:=HP.all L) (hs.imp fun p h=>?_)
 obtain ⟨p1,p2,h1,h2,hd,hA,hl⟩:=h
 exact ⟨p1,p2,h1,h2,hd,hA,hl⟩
theorem Sat.all_put {a:HP} {L:List HP} (hs:Sat w (a::HP.all L::l)):Sat w (HP.all (a::L)::l):=by
 refine (Sat.star_mk (A:=a) (B:=HP.all L) hs).imp fun p h=>?_
 obtain ⟨p1,p2,h1,h2,hd,hA,hl⟩:=h
 exact ⟨p1,p2,h1,h2,hd,hA,hl⟩
theorem Sat.all_perm {L L':List HP} (hp:L.Perm L') (hs:Sat w (HP.all L::l)):Sat w (HP.all L'::l):=hs.imp fun p h=>satL_perm hp h
theorem dk_open {d:Nat} {A:DiskA} (hs:Sat w (dk d A::l)):∃ (m:Nat) (FS:List FileM),(FS.map FileM.f).Perm A.fs∧okA A ∧
  Sat w (pt d (.cells #[.int .i64 A.left,.bool A.gone,.int .i64 A.room,.int .i64 (used A.fs),.map (some m)] T.a5)::mapP ekS evF m (FS.map fun t=>(t.f.name,t.at_))::HP.all (FS.map fileP)::l):=by
 obtain ⟨m,hs⟩:=hs.ex
 obtain ⟨FS,hs⟩:=hs.ex
 obtain ⟨⟨h1,h2⟩,hs⟩:=hs.and
 have hs:=hs.star
 have hs:=(hs.pick [1]).star
 exact ⟨m,FS,h1,h2,hs.pick [2,0,0]⟩
theorem dk_shut {d:Nat} {A:DiskA} {m:Nat} {FS:List FileM} (hp:(FS.map FileM.f).Perm A.fs) (hok:okA A)
  (hs:Sat w (pt d (.cells #[.int .i64 A.left,.bool A.gone,.int .i64 A.room,.int .i64 (used A.fs:Nat),.map (some m)] T.a5)::mapP ekS evF m (FS.map fun t=>(t.f.name,t.at_))::HP.all (FS.map fileP)::l)):Sat w (dk d A::l):=by
 refine .ex_mk m (.ex_mk FS (.and_mk ⟨hp,hok⟩ (.star_mk ?_)))
 refine (Sat.star_mk (hs.pick [1,1])).pick [1]
theorem dk_close {d:Nat} {A:DiskA} (m:Nat) {FS:List FileM} {r1 r2 r3 l':List HP} {u:Int} (hp:(FS.map FileM.f).Perm A.fs) (hok:okA A) (hs:Sat w l)
  [h1:FocB l d (.cells [.int .i64 A.left,.bool A.gone,.int .i64 A.room,.int .i64 u,.map (some m)].toArray T.a5) r1] [h2:FoM r1 m ekS evF (FS.map fun t=>(t.f.name,t.at_)) r2] [h3:Foc r2 (HP.all (FS.map fileP)) r3] [h4:Sub r3 l']
  (hu:u=(used A.fs:Nat):=by rfl):Sat w (dk d A::l'):=by
 subst hu
 have h5:Sat w (dk d A::r3):=dk_shut hp hok (hs.perm (h1.perm.trans (.cons _ (h2.perm.trans (.cons _ h3.perm)))))
 exact h5.sub
theorem file_open {FS:List FileM} {t:FileM} (hs:Sat w l) [h:Foc l (HP.all (FS.map fileP)) r] (ht:t ∈ FS):∃ FS',FS.Perm (t::FS') ∧
  Sat w (pt t.at_ (.cells #[t.x.v,.int .i64 t.f.kept] T.a6)::slc T.a34 1 t.x (t.f.b.flatMap encU)::HP.all (FS'.map fileP)::r):=by
 obtain ⟨s,u,rfl⟩:=List.append_of_mem ht
 have hp:(s++t::u).Perm (t::(s++u)):=List.perm_middle
 exact ⟨s++u,hp,(((hs.perm h.perm).all_perm (hp.map fileP)).all_cons).star⟩
theorem file_close {FS:List FileM} (t:FileM) {r1 r2 r3:List HP} (hs:Sat w l) [h1:FocB l t.at_ (.cells [.slice t.x.a t.x.len t.x.cap,.int .i64 t.f.kept].toArray T.a6) r1] [h2:FocS r1 t.x T.a34 1 (t.f.b.flatMap encU) r2] [h3:Foc r2 (HP.all (FS.map fileP)) r3] :
  Sat w (HP.all ((t::FS).map fileP)::r3) :=
 Sat.all_put (Sat.star_mk (A:=pt t.at_ (.cells #[t.x.v,.int .i64 t.f.kept] T.a6)) (B:=slc T.a34 1 t.x (t.f.b.flatMap encU)) (hs.perm (h1.perm.trans (.cons _ (h2.perm.trans (.cons _ h3.perm))))))
end
section
variable {w:World} {l r:List HP} {d:Nat} {A:DiskA}
theorem new_ok (n:Nat) (hn:n≤4194304) (hs:Sat w l):Ret P F.a14 #[.int .i64 n] w fun vs w'=>∃ d,vs=[.pointer (some ⟨d,0,none⟩),.int .i64 0]∧Sat w' (dk d ⟨n,-1,false,[]⟩::l) :=
 zf14_calls n <| by
  unfold zf14
  refine wp_ifF ?_
  refine wp_mmake ekS evF hs fun m w' hs=>?_
  refine wp_boxO hs fun d w' hs=>?_
  refine ⟨rfl,d,rfl,?_⟩
  exact dk_shut (FS:=[]) (.refl _) ⟨hn,by simp [used],by simp,by simp,by simp,by simp,by simp⟩ ((hs.all_nil).pick [1,1,0])
theorem okC_int (c:UInt8):((!(decide ((c.toNat:Int)≥97) && decide ((c.toNat:Int)≤122)) && !(decide ((c.toNat:Int)≥48) && decide ((c.toNat:Int)≤57)) && (c.toNat:Int) != 46 && (c.toNat:Int) != 45)=true↔okC c=false):=by
 simp [okC];omega
theorem name_c (s:ByteArray) (hs:Sat w l):Ret P F.a13 #[.string s] w fun vs w'=>vs=[.bool (nameF s)]∧Sat w' l :=
 zf13_calls s <| by
  unfold zf13
  refine wp_if (fun h=>?_) fun h=>?_
  ·refine ⟨rfl,?_,hs⟩
   have:nameF s=false:=by simp [nameF];omega
   rw [this]
  refine wp_toB hs fun x w' hs=>?_
  have hl:=hs.slen x
  have hsz:s.data.toList.length=s.size:=by simp
  refine wp_mid (fun _ w'=>s.data.toList.all okC=true∧Sat w' l) ?_ ?_
  ·refine wp_loop (fun n v w=>∃ i:Nat,v=((i:Int),())∧i≤s.data.toList.length∧s.data.toList.length-i=n∧(s.data.toList.take i).all okC=true∧Sat w (slc T.a34 1 x (s.data.toList.flatMap encU)::l)) s.data.toList.length ⟨0,rfl,by omega,rfl,rfl,hs⟩ ?_
   clear hs
   rintro n _ w ⟨i,rfl,hi,hn,hall,hs⟩
   refine wp_on ?_
   refine wp_if (fun hc=>?_) fun hc=>?_
   ·have hil:i<s.data.toList.length:=by omega
    refine wp_ix1 hs i hil ?_
    refine wp_lt (wp_lt (wp_lt ?_))
    have htk:(s.data.toList.take (i+1)).all okC=okC s.data.toList[i]:=by
     rw [List.take_add_one,List.getElem?_eq_getElem hil,List.all_append,hall];simp
    refine wp_ite (fun h3=>?_) fun h3=>?_
    ·have h3:=(okC_int _).1 h3
     refine wp_pass (wp_pass ?_)
     refine ⟨rfl,?_,hs.tail⟩
     have:nameF s=false:=by
      have:s.data.toList.all okC=false:=by
       rw [← List.take_append_drop (i+1) s.data.toList,List.all_append,htk,h3];rfl
      simp only [nameF,this,Bool.false_and]
     rw [this]
    ·have h3:okC s.data.toList[i]=true:=by
      cases hk:okC s.data.toList[i] with
      | true=>rfl
      | false=>have:=(okC_int _).2 hk;rw [this] at h3;cases h3
     refine wp_dn (us':=[.int .i64 ((i+1:Nat):Int)]) (by (try simp (disch:=omega) only [w64]);first|rfl|(congr;omega)) ?_
     refine wp_lp (s.data.toList.length-(i+1)) ?_
     exact ⟨i+1,rfl,by omega,rfl,by rw [htk,h3],hs⟩
   ·refine wp_pass (wp_lv ⟨?_,hs.tail⟩)
    rwa [List.take_of_length_le (by omega)] at hall
  ·rintro _ w' ⟨hall,hs⟩
   refine wp_on ?_
   refine ⟨rfl,?_,hs⟩
   have:nameF s=true:=by simp only [nameF,hall,Bool.true_and,Bool.and_eq_true,decide_eq_true_eq];omega
   rw [this]
theorem may_c [hf:Fo l dk d A r] (hs:Sat w l):Ret P F.a12 #[.pointer (some ⟨d,0,none⟩)] w fun vs w'=>vs=[.int .i64 (if A.gone then 9 else 0)]∧Sat w' (dk d A::r) :=
 zf12_calls _ <| by
  unfold zf12
  obtain ⟨m,FS,hp,hok,hs⟩:=dk_open (hs.perm hf.perm)
  refine wp_lt (wp_ifF ?_ (by simp))
  (repeat (first|with_reducible (first|refine wp_on ?_|refine wp_nn ?_|refine wp_nng ?_|refine wp_ldO hs ?_|refine wp_ldG hs ?_|refine wp_untick ?_|refine wp_tk hs fun _ hs=>?_|refine wp_newO hs fun _ _ hs=>?_|refine wp_boxO hs fun _ _ hs=>?_|refine wp_stO hs fun _ hs=>?_|refine wp_stG hs fun _ hs=>?_)|(apply wp_must;(focus first|trivial|omega|assumption))|refine wp_ltw ?_|refine wp_lt ?_))
  refine wp_if (fun h=>?_) fun h=>?_
  ·exact ⟨rfl,by rw [if_pos h],dk_close m hp hok hs⟩
  ·exact ⟨rfl,by rw [if_neg h],dk_close m hp hok hs⟩
theorem spend_c {m:Nat} {n room u:Int} (hn:n≤9223372036854775807 ∧ -1≤n) [hf:FocB l d (.cells #[.int .i64 n,.bool false,.int .i64 room,.int .i64 u,.map (some m)] T.a5) r] (hs:Sat w l) :
  Ret P F.a15 #[.pointer (some (Addr.add ⟨d,0,none⟩ 0))] w fun vs w'=>vs=[] ∧
   Sat w' (pt d (.cells #[.int .i64 (if n>0 then n-1 else n),.bool (if n>0 then decide (n-1=0) else false),.int .i64 room,.int .i64 u,.map (some m)] T.a5)::r) :=
 zf15_calls _ <| by
  unfold zf15
  have hs:=hs.focB d
  (repeat (first|with_reducible (first|refine wp_on ?_|refine wp_nn ?_|refine wp_nng ?_|refine wp_ldO hs ?_|refine wp_ldG hs ?_|refine wp_untick ?_|refine wp_tk hs fun _ hs=>?_|refine wp_newO hs fun _ _ hs=>?_|refine wp_boxO hs fun _ _ hs=>?_|refine wp_stO hs fun _ hs=>?_|refine wp_stG hs fun _ hs=>?_)|(apply wp_must;(focus first|trivial|omega|assumption))|refine wp_ltw ?_|refine wp_lt ?_))
  refine wp_mid (fun _ w'=>Sat w' (pt d (.cells #[.int .i64 (if n>0 then n-1 else n),.bool (if n>0 then decide (n-1=0) else false),.int .i64 room,.int .i64 u,.map (some m)] T.a5)::r)) ?_ ?_
  ·refine wp_if (fun h=>?_) fun h=>?_
   ·(repeat (first|with_reducible (first|refine wp_on ?_|refine wp_nn ?_|refine wp_nng ?_|refine wp_ldO hs ?_|refine wp_ldG hs ?_|refine wp_untick ?_|refine wp_tk hs fun _ hs=>?_|refine wp_newO hs fun _ _ hs=>?_|refine wp_boxO hs fun _ _ hs=>?_|refine wp_stO hs fun _ hs=>?_|refine wp_stG hs fun _ hs=>?_)|(apply wp_must;(focus first|trivial|omega|assumption))|refine wp_ltw ?_|refine wp_lt ?_))
    refine wp_lv ?_
    rw [if_pos h,if_pos h]
    rw [w64 (x:=n-1) (by omega) (by omega)] at hs
    exact hs
   ·refine wp_lv ?_
    rw [if_neg h,if_neg h];exact hs
  ·rintro _ w' hs
   refine wp_on ?_
   exact ⟨rfl,rfl,hs⟩
theorem doneA_eq (A:DiskA) (h:A.gone=false):doneA A=⟨A.room,if A.left>0 then A.left-1 else A.left,if A.left>0 then decide (A.left-1=0) else false,A.fs⟩:=by
 unfold doneA
 split
 ·rfl
 ·rw [← h]
theorem free_c [hf:Fo l dk d A r] (hs:Sat w l):Ret P F.a5 #[.pointer (some ⟨d,0,none⟩)] w fun vs w'=>vs=[.int .i64 (A.free:Nat)]∧Sat w' (dk d A::r) :=
 zf6_calls _ <| by
  unfold zf6
  obtain ⟨m,FS,hp,hok,hs⟩:=dk_open (hs.perm hf.perm)
  refine wp_ifF ?_ (by simp)
  have h1:=hok.room
  have h2:=hok.used
  refine wp_tk hs fun w' hs=>?_
  refine wp_nn ?_
  refine wp_ldO hs ?_
  refine wp_nn ?_
  refine wp_ldO hs ?_
  refine wp_lw (y:=(A.free:Nat)) ?_ ?_
  ·have e:IntKind.wrap .i64 ((A.room:Int)-(used A.fs:Nat))=(A.room:Int)-(used A.fs:Nat):=w64e
   rw [e]
   unfold DiskA.free
   split <;> omega
  exact wp_untick ⟨rfl,rfl,dk_close m hp hok hs⟩
theorem gone_c [hf:Fo l dk d A r] (hs:Sat w l):Ret P F.a6 #[.pointer (some ⟨d,0,none⟩)] w fun vs w'=>vs=[.bool A.gone]∧Sat w' (dk d A::r) :=
 zf7_calls _ <| by
  unfold zf7
  obtain ⟨m,FS,hp,hok,hs⟩:=dk_open (hs.perm hf.perm)
  (repeat (first|with_reducible (first|refine wp_on ?_|refine wp_nn ?_|refine wp_nng ?_|refine wp_ldO hs ?_|refine wp_ldG hs ?_|refine wp_untick ?_|refine wp_tk hs fun _ hs=>?_|refine wp_newO hs fun _ _ hs=>?_|refine wp_boxO hs fun _ _ hs=>?_|refine wp_stO hs fun _ hs=>?_|refine wp_stG hs fun _ hs=>?_)|(apply wp_must;(focus first|trivial|omega|assumption))|refine wp_ltw ?_|refine wp_lt ?_))
  exact ⟨rfl,by simp,dk_close m hp hok hs⟩
end
theorem find_name {fs:List FileA} {n:ByteArray} (hs:(fs.map (·.name)).Nodup) {f:FileA} (hf:f ∈ fs) (hn:f.name=n):fs.find? (fun f=>decide (f.name=n))=some f:=by
 subst hn
 induction fs with
 | nil=>cases hf
 | cons g r ih =>
  rw [List.map_cons,List.nodup_cons] at hs
  rcases List.mem_cons.1 hf with rfl|hf
  ·rw [List.find?_cons_of_pos (by simp)]
  ·rw [List.find?_cons_of_neg (by simp;exact fun e=>hs.1 (List.mem_map.2 ⟨f,hf,e.symm⟩))]
   exact ih hs.2 hf
theorem lenF_eq {fs:List FileA} {n:ByteArray} (hs:(fs.map (·.name)).Nodup) {f:FileA} (hf:f ∈ fs) (hn:f.name=n):lenF fs n=f.b.length:=by rw [lenF,find_name hs hf hn]
section
variable {w:World} {l r:List HP} {d:Nat} {A:DiskA}
theorem in_fs {FS:List FileM} (hp:(FS.map FileM.f).Perm A.fs) {n:ByteArray} {b:Nat} (h:(n,b) ∈ FS.map fun t=>(t.f.name,t.at_)):∃ t ∈ FS,t.at_=b∧t.f.name=n∧t.f ∈ A.fs:=by
 obtain ⟨t,ht,he⟩:=List.mem_map.1 h
 simp only [Prod.mk.injEq] at he
 exact ⟨t,ht,he.2,he.1,hp.mem_iff.1 (List.mem_map.2 ⟨t,ht,rfl⟩)⟩
theorem not_fs {FS:List FileM} (hp:(FS.map FileM.f).Perm A.fs) {n:ByteArray} (h:∀ b,(n,b) ∉ FS.map fun t=>(t.f.name,t.at_)):∀ f ∈ A.fs,f.name≠n:=fun f hf e=>by
 obtain ⟨t,ht,rfl⟩:=List.mem_map.1 (hp.mem_iff.2 hf)
 exact h t.at_ (List.mem_map.2 ⟨t,ht,by rw [e]⟩)
theorem apart {FS FS':List FileM} {t:FileM} (hp:(FS.map FileM.f).Perm A.fs) (hok:okA A) (h:FS.Perm (t::FS')) :
  A.fs.Perm (t.f::FS'.map FileM.f)∧(∀ f ∈ FS'.map FileM.f,f.name≠t.f.name)∧t.f ∈ A.fs:=by
 have h1:A.fs.Perm (t.f::FS'.map FileM.f):=hp.symm.trans (h.map FileM.f)
 have h2:((t.f::FS'.map FileM.f).map (·.name)).Nodup:=(h1.map _).nodup_iff.1 (names_nodup hok.sorted)
 rw [List.map_cons,List.nodup_cons] at h2
 exact ⟨h1,fun f hf e=>h2.1 (List.mem_map.2 ⟨f,hf,e⟩),h1.mem_iff.2 (List.mem_cons_self ..)⟩
theorem clone_c (x:Sl) (bs:List UInt8) (hb:bs.length≤100000000) [hf:FocR l x 1 (bs.flatMap encU)] (hs:Sat w l):Ret P F.a0 #[x.v] w fun vs w'=>∃ z:Sl,vs=[z.v]∧Sat w' (slc T.a34 1 z (bs.flatMap encU)::l) :=
 zf0_calls x <| by
  unfold zf0
  refine wp_if (fun h=>?_) fun h=>?_
  ·have:bs=[]:=by
    obtain ⟨hlen,h0|⟨b,off,arr,T',fr,ha,-⟩⟩:=hf.rd w hs
    ·rw [flat_len,h0] at hlen;exact List.length_eq_zero_iff.1 (by omega)
    ·rw [h] at ha;cases ha
   subst this
   exact ⟨rfl,⟨none,0,0⟩,rfl,hs.slc_nil⟩
  ·refine wp_slit hs ([]:List UInt8) (enc:=encU) bs0 fun b w' hs=>?_
   refine wp_app' hs (xs:=([]:List UInt8)) (ys:=bs) (enc:=encU) (fun z w' hs=>?_) (by simp;omega)
   exact ⟨rfl,z,rfl,hs⟩
theorem read_c (n:ByteArray) [hf:Fo l dk d A r] (hs:Sat w l):Ret P F.a8 #[.pointer (some ⟨d,0,none⟩),.string n] w fun vs w' =>
  (∃ f ∈ A.fs,f.name=n∧∃ z:Sl,vs=[z.v,.int .i64 0]∧Sat w' (slc T.a34 1 z (f.b.flatMap encU)::dk d A::r))∨((∀ f ∈ A.fs,f.name≠n)∧vs=[.slice none 0 0,.int .i64 3]∧Sat w' (dk d A::r)) :=
 zf8_calls _ n <| by
  unfold zf8
  obtain ⟨m,FS,hp,hok,hs⟩:=dk_open (hs.perm hf.perm)
  refine wp_ifF ?_ (by simp)
  (repeat (first|with_reducible (first|refine wp_on ?_|refine wp_nn ?_|refine wp_nng ?_|refine wp_ldO hs ?_|refine wp_ldG hs ?_|refine wp_untick ?_|refine wp_tk hs fun _ hs=>?_|refine wp_newO hs fun _ _ hs=>?_|refine wp_boxO hs fun _ _ hs=>?_|refine wp_stO hs fun _ hs=>?_|refine wp_stG hs fun _ hs=>?_)|(apply wp_must;(focus first|trivial|omega|assumption))|refine wp_ltw ?_|refine wp_lt ?_))
  refine wp_look hs (fun b hb=>?_) fun hb=>?_
  ·obtain ⟨t,ht,rfl,rfl,hA⟩:=in_fs hp hb
   obtain ⟨FS',hpm,hs⟩:=file_open hs ht
   refine wp_ifF ?_ (by simp)
   (repeat (first|with_reducible (first|refine wp_on ?_|refine wp_nn ?_|refine wp_nng ?_|refine wp_ldO hs ?_|refine wp_ldG hs ?_|refine wp_untick ?_|refine wp_tk hs fun _ hs=>?_|refine wp_newO hs fun _ _ hs=>?_|refine wp_boxO hs fun _ _ hs=>?_|refine wp_stO hs fun _ hs=>?_|refine wp_stG hs fun _ hs=>?_)|(apply wp_must;(focus first|trivial|omega|assumption))|refine wp_ltw ?_|refine wp_lt ?_))
   have hlen:t.f.b.length≤4194304:=Nat.le_trans (used_mem hA) hok.used
   refine wp_call (clone_c t.x t.f.b (by omega) hs) fun _ _ hs=>?_
   obtain ⟨z,rfl,hs⟩:=hs
   refine ret_of ?_
   (repeat (first|with_reducible (first|refine wp_on ?_|refine wp_nn ?_|refine wp_nng ?_|refine wp_ldO hs ?_|refine wp_ldG hs ?_|refine wp_untick ?_|refine wp_tk hs fun _ hs=>?_|refine wp_newO hs fun _ _ hs=>?_|refine wp_boxO hs fun _ _ hs=>?_|refine wp_stO hs fun _ hs=>?_|refine wp_stG hs fun _ hs=>?_)|(apply wp_must;(focus first|trivial|omega|assumption))|refine wp_ltw ?_|refine wp_lt ?_))
   refine ⟨rfl,.inl ⟨t.f,hA,rfl,z,rfl,?_⟩⟩
   have hs:=(file_close t hs).all_perm (hpm.symm.map fileP)
   have hs:=dk_close (d:=d) (A:=A) (l':=slc T.a34 1 z (t.f.b.flatMap encU)::r) m hp hok hs
   exact hs.sub
  ·refine wp_ifT ?_ (by rfl)
   exact ⟨rfl,.inr ⟨not_fs hp hb,rfl,dk_close m hp hok hs⟩⟩
end
theorem dropF_perm {fs fs':List FileA} {f:FileA} (hp:fs.Perm (f::fs')) (hne:∀ g ∈ fs',g.name≠f.name):(dropF f.name fs).Perm fs':=by
 have h1:=hp.filter fun g=>!decide (g.name=f.name)
 rw [List.filter_cons_of_neg (by simp)] at h1
 have h2:fs'.filter (fun g=>!decide (g.name=f.name))=fs':=List.filter_eq_self.2 fun g hg=>by simpa using hne g hg
 rw [h2] at h1
 exact h1
theorem dropF_none {fs:List FileA} {n:ByteArray} (h:∀ f ∈ fs,f.name≠n):dropF n fs=fs:=List.filter_eq_self.2 fun g hg=>by simpa using h g hg
theorem map_updF_perm {fs fs':List FileA} {f:FileA} {g:FileA→FileA} (hp:fs.Perm (f::fs')) (hne:∀ g ∈ fs',g.name≠f.name):(fs.map (updF f.name g)).Perm (g f::fs'):=by
 have h1:=hp.map (updF f.name g)
 rw [List.map_cons] at h1
 have h2:fs'.map (updF f.name g)=fs':=by
  conv=>rhs;rw [← List.map_id fs']
  exact List.map_congr_left fun x hx=>by rw [updF,if_neg (hne x hx)];rfl
 rw [h2,updF,if_pos rfl] at h1
 exact h1
theorem updF_name {n:ByteArray} {g:FileA→FileA} (hg:∀ f,(g f).name=f.name) (f:FileA):(updF n g f).name=f.name:=by
 unfold updF;split
 ·exact hg f
 ·rfl
theorem sorted_map {fs:List FileA} {g:FileA→FileA} (hg:∀ f,(g f).name=f.name) (h:fs.Pairwise fun a b=>ltS a.name b.name=true):(fs.map g).Pairwise fun a b=>ltS a.name b.name=true:=by
 rw [List.pairwise_map]
 exact h.imp fun {a b} hab=>by rw [hg,hg];exact hab
theorem sorted_dropF {fs:List FileA} (n:ByteArray) (h:fs.Pairwise fun a b=>ltS a.name b.name=true):(dropF n fs).Pairwise fun a b=>ltS a.name b.name=true:=h.filter _
theorem mem_dropF {fs:List FileA} {n:ByteArray} {f:FileA}:f ∈ dropF n fs↔f ∈ fs∧f.name≠n:=by simp [dropF,List.mem_filter]
theorem insF_perm (x:FileA):∀ fs:List FileA,(insF x fs).Perm (x::fs)
 | []=>.refl _
 | f::r=>by
  rw [insF];split
  ·exact .refl _
  ·exact (List.Perm.cons f (insF_perm x r)).trans (.swap _ _ _)
theorem mem_insF {x f:FileA} {fs:List FileA}:f ∈ insF x fs↔f=x∨f ∈ fs:=by rw [(insF_perm x fs).mem_iff,List.mem_cons]
theorem sorted_insF (x:FileA):∀ {fs:List FileA},(∀ f ∈ fs,f.name≠x.name)→(fs.Pairwise fun a b=>ltS a.name b.name=true)→(insF x fs).Pairwise fun a b=>ltS a.name b.name=true
 | [],_,_=>by simp [insF]
 | f::r,hne,h=>by
  rw [List.pairwise_cons] at h
  rw [insF];split
  ·rename_i hlt
   rw [List.pairwise_cons]
   refine ⟨fun g hg=>?_,by rw [List.pairwise_cons];exact h⟩
   rcases List.mem_cons.1 hg with rfl|hg
   ·exact hlt
   ·exact ltS_trans hlt (h.1 g hg)
  ·rename_i hlt
   rw [List.pairwise_cons]
   refine ⟨fun g hg=>?_,sorted_insF x (fun g hg=>hne g (List.mem_cons_of_mem _ hg)) h.2⟩
   rcases mem_insF.1 hg with rfl|hg
   ·rcases ltS_total f.name g.name with h1|h1|h1
    ·exact h1
    ·exact absurd h1 (hne f (List.mem_cons_self ..))
    ·exact absurd h1 hlt
   ·exact h.1 g hg
theorem okA_done {A:DiskA} (h:okA A):okA (doneA A):=by
 unfold doneA
 split
 ·exact ⟨h.room,h.used,h.many,by have:=h.left;show -1≤A.left-1∧A.left-1≤_;omega,h.sorted,h.kept,h.names⟩
 ·exact h
theorem doneA_fs (A:DiskA):(doneA A).fs=A.fs:=by unfold doneA;split <;> rfl
theorem doneA_room (A:DiskA):(doneA A).room=A.room:=by unfold doneA;split <;> rfl
section
variable {w:World} {l r:List HP} {d:Nat} {A:DiskA}
theorem spend_dk {m:Nat} {FS:List FileM} {fs':List FileA} {room left u:Int} {r1 r2 r3 l':List HP} (hg:A.gone=false) (hok':okA { A with fs:=fs' }) (hp:(FS.map FileM.f).Perm fs') (hs:Sat w l)
  [h1:FocB l d (.cells [.int .i64 left,.bool false,.int .i64 room,.int .i64 u,.map (some m)].toArray T.a5) r1] [h2:FoM r1 m ekS evF (FS.map fun t=>(t.f.name,t.at_)) r2] [h3:Foc r2 (HP.all (FS.map fileP)) r3] [h4:Sub r3 l']
  (hu:u=(used fs':Nat):=by rfl) (hl:left=A.left:=by rfl) (hr:room=A.room:=by rfl) :
  Ret P F.a15 #[.pointer (some (Addr.add ⟨d,0,none⟩ 0))] w fun vs w'=>vs=[]∧Sat w' (dk d (doneA { A with fs:=fs' })::l'):=by
 subst hu hl hr
 have hl:=hok'.left
 refine Calls.mono (spend_c (d:=d) (m:=m) ⟨hl.2,hl.1⟩ hs) fun e w' ⟨vs,he,hv,hs⟩=>⟨vs,he,hv,?_⟩
 have hd:=doneA_eq { A with fs:=fs' } hg
 rw [hd]
 have hok2:=okA_done hok'
 rw [hd] at hok2
 exact dk_close m (A:=⟨A.room,if A.left>0 then A.left-1 else A.left,if A.left>0 then decide (A.left-1=0) else false,fs'⟩) hp hok2 hs
theorem drop_c (n:ByteArray) (m:Nat) {FS:List FileM} (hp:(FS.map FileM.f).Perm A.fs) (hok:okA A)
  (hs:Sat w (pt d (.cells #[.int .i64 A.left,.bool A.gone,.int .i64 A.room,.int .i64 (used A.fs),.map (some m)] T.a5)::mapP ekS evF m (FS.map fun t=>(t.f.name,t.at_))::HP.all (FS.map fileP)::r)) :
  Ret P F.a11 #[.pointer (some ⟨d,0,none⟩),.string n] w fun vs w'=>vs=[]∧∃ FS':List FileM,(FS'.map FileM.f).Perm (dropF n A.fs)∧(∀ t ∈ FS',t ∈ FS∧t.f.name≠n)∧(∀ t ∈ FS,t.f.name≠n→t ∈ FS') ∧
   Sat w' (pt d (.cells #[.int .i64 A.left,.bool A.gone,.int .i64 A.room,.int .i64 (used (dropF n A.fs)),.map (some m)] T.a5)::mapP ekS evF m (FS'.map fun t=>(t.f.name,t.at_))::HP.all (FS'.map fileP)::r) :=
 zf11_calls _ n <| by
  unfold zf11
  (repeat (first|with_reducible (first|refine wp_on ?_|refine wp_nn ?_|refine wp_nng ?_|refine wp_ldO hs ?_|refine wp_ldG hs ?_|refine wp_untick ?_|refine wp_tk hs fun _ hs=>?_|refine wp_newO hs fun _ _ hs=>?_|refine wp_boxO hs fun _ _ hs=>?_|refine wp_stO hs fun _ hs=>?_|refine wp_stG hs fun _ hs=>?_)|(apply wp_must;(focus first|trivial|omega|assumption))|refine wp_ltw ?_|refine wp_lt ?_))
  refine wp_look hs (fun b hb=>?_) fun hb=>?_
  ·obtain ⟨t,ht,rfl,rfl,hA⟩:=in_fs hp hb
   obtain ⟨FS',hpm,hs⟩:=file_open hs ht
   obtain ⟨h1,h2,-⟩:=apart hp hok hpm
   have hd:=dropF_perm h1 h2
   have hu:used A.fs=t.f.b.length+used (dropF t.f.name A.fs):=by rw [used_perm h1,used_cons,used_perm hd]
   have h3:=hok.used
   refine wp_bind ?_
   refine wp_ifT ?_ (by simp)
   refine wp_tk hs fun w' hs=>?_
   refine wp_nn ?_
   refine wp_ldO hs ?_
   refine wp_nn ?_
   refine wp_ldO hs ?_
   rw [hs.slen t.x (xs:=t.f.b) (enc:=encU),w64e (y:=(used (dropF t.f.name A.fs):Nat))]
   (repeat (first|with_reducible (first|refine wp_on ?_|refine wp_nn ?_|refine wp_nng ?_|refine wp_ldO hs ?_|refine wp_ldG hs ?_|refine wp_untick ?_|refine wp_tk hs fun _ hs=>?_|refine wp_newO hs fun _ _ hs=>?_|refine wp_boxO hs fun _ _ hs=>?_|refine wp_stO hs fun _ hs=>?_|refine wp_stG hs fun _ hs=>?_)|(apply wp_must;(focus first|trivial|omega|assumption))|refine wp_ltw ?_|refine wp_lt ?_))
   refine wp_mdel hs (FS'.map fun t=>(t.f.name,t.at_)) (.inl ⟨t.at_,hpm.map _⟩) fun w' hs=>?_
   refine wp_go ?_
   refine ⟨rfl,rfl,FS',hd.symm,fun t' ht'=>⟨hpm.mem_iff.2 (List.mem_cons_of_mem _ ht'),h2 _ (List.mem_map.2 ⟨t',ht',rfl⟩)⟩,fun t' ht' hne=>?_,hs.sub⟩
   rcases List.mem_cons.1 (hpm.mem_iff.1 ht') with rfl|h
   ·exact absurd rfl hne
   ·exact h
  ·have hn:=not_fs hp hb
   refine wp_bind ?_
   refine wp_ifF ?_ (by simp)
   refine wp_go ?_
   rw [dropF_none hn]
   exact ⟨rfl,rfl,FS,hp,fun t ht=>⟨ht,hn _ (hp.mem_iff.1 (List.mem_map.2 ⟨t,ht,rfl⟩))⟩,fun t ht _=>ht,hs⟩
theorem okA_drop {A:DiskA} (h:okA A) (n:ByteArray):okA { A with fs:=dropF n A.fs }:=by
 have hle:used (dropF n A.fs)≤used A.fs:=by
  have:∀ fs:List FileA,used (dropF n fs)≤used fs:=fun fs=>by
   induction fs with
   | nil=>exact Nat.le_refl _
   | cons f r ih =>
    unfold dropF at *
    rw [used_cons,List.filter_cons]
    split
    ·rw [used_cons];omega
    ·omega
  exact this _
 exact ⟨h.room,Nat.le_trans hle h.used,Nat.le_trans (List.length_filter_le _ _) h.many,h.left,sorted_dropF n h.sorted,fun f hf=>h.kept f (mem_dropF.1 hf).1,fun f hf=>h.names f (mem_dropF.1 hf).1⟩
theorem may_if {k:Prog} {Q:List Value→World→Prop} (hs:Sat w l) [hf:Fo l dk d A r] (h1:A.gone=true→∀ w',Sat w' (dk d A::r)→Q [.int .i64 9] w') (h0:A.gone=false→∀ w',Sat w' (dk d A::r)→k.wp P tt w' fun e vs w=>e=0∧Q vs w) :
  (Prog.call F.a12 [.pointer (some ⟨d,0,none⟩)] (sI .i64) (u1 fun (n0:Int)=>.lt (.int .i64) (n0) fun (n1:Int)=>.ite (n1 != 0) (.lt (.int .i64) (n1) fun (n2:Int)=>.done 0 [.int .i64 n2]) k)).wp P tt w fun e vs w=>e=0∧Q vs w:=by
 refine wp_call (may_c hs) fun _ _ hs=>?_
 obtain ⟨rfl,hs⟩:=hs
 refine ret_of ?_
 refine wp_lt ?_
 by_cases hg:A.gone=true
 ·rw [if_pos hg]
  refine wp_ifT ?_ (by decide)
  exact wp_lt ⟨rfl,h1 hg _ hs⟩
 ·rw [if_neg hg]
  refine wp_ifF ?_ (by decide)
  exact h0 (by simpa using hg) _ hs
theorem remove_c (n:ByteArray) [hf:Fo l dk d A r] (hs:Sat w l):Ret P F.a9 #[.pointer (some ⟨d,0,none⟩),.string n] w fun vs w'=>vs=[.int .i64 (remA A n).1]∧Sat w' (dk d (remA A n).2::r) :=
 zf9_calls _ n <| by
  unfold zf9 remA
  refine may_if hs (fun hg w' hs=>?_) fun hg w' hs=>?_
  ·rw [if_pos hg];exact ⟨rfl,hs⟩
  rw [if_neg (by rw [hg];simp)]
  obtain ⟨m,FS,hp,hok,hs⟩:=dk_open hs
  (repeat (first|with_reducible (first|refine wp_on ?_|refine wp_nn ?_|refine wp_nng ?_|refine wp_ldO hs ?_|refine wp_ldG hs ?_|refine wp_untick ?_|refine wp_tk hs fun _ hs=>?_|refine wp_newO hs fun _ _ hs=>?_|refine wp_boxO hs fun _ _ hs=>?_|refine wp_stO hs fun _ hs=>?_|refine wp_stG hs fun _ hs=>?_)|(apply wp_must;(focus first|trivial|omega|assumption))|refine wp_ltw ?_|refine wp_lt ?_))
  refine wp_look hs (fun b hb=>?_) fun hb=>?_
  ·obtain ⟨t,ht,rfl,rfl,hA⟩:=in_fs hp hb
   refine wp_ifF ?_ (by simp)
   rw [if_neg (by rw [hasF_iff.2 ⟨_,hA,rfl⟩];simp)]
   refine wp_call (drop_c t.f.name m hp hok hs) fun _ _ hs=>?_
   obtain ⟨rfl,FS',hp',-,-,hs⟩:=hs
   refine ret_of ?_
   (repeat (first|with_reducible (first|refine wp_on ?_|refine wp_nn ?_|refine wp_nng ?_|refine wp_ldO hs ?_|refine wp_ldG hs ?_|refine wp_untick ?_|refine wp_tk hs fun _ hs=>?_|refine wp_newO hs fun _ _ hs=>?_|refine wp_boxO hs fun _ _ hs=>?_|refine wp_stO hs fun _ hs=>?_|refine wp_stG hs fun _ hs=>?_)|(apply wp_must;(focus first|trivial|omega|assumption))|refine wp_ltw ?_|refine wp_lt ?_))
   rw [hg] at hs
   refine wp_call (spend_dk (l':=r) hg (okA_drop hok t.f.name) hp' hs) fun _ _ hs=>?_
   obtain ⟨rfl,hs⟩:=hs
   refine ret_of ?_
   (repeat (first|with_reducible (first|refine wp_on ?_|refine wp_nn ?_|refine wp_nng ?_|refine wp_ldO hs ?_|refine wp_ldG hs ?_|refine wp_untick ?_|refine wp_tk hs fun _ hs=>?_|refine wp_newO hs fun _ _ hs=>?_|refine wp_boxO hs fun _ _ hs=>?_|refine wp_stO hs fun _ hs=>?_|refine wp_stG hs fun _ hs=>?_)|(apply wp_must;(focus first|trivial|omega|assumption))|refine wp_ltw ?_|refine wp_lt ?_))
   exact ⟨rfl,rfl,hs⟩
  ·refine wp_ifT ?_ (by rfl)
   rw [if_pos (hasF_not.2 (not_fs hp hb))]
   exact ⟨rfl,rfl,dk_close m hp hok hs⟩
theorem used_upd {fs fs':List FileA} {f:FileA} {g:FileA→FileA} (hp:fs.Perm (f::fs')) (hne:∀ g ∈ fs',g.name≠f.name):used (fs.map (updF f.name g))=(g f).b.length+used fs':=by
 rw [used_perm (map_updF_perm hp hne),used_cons]
theorem cut_c (n:ByteArray) (k:Int) [hf:Fo l dk d A r] (hs:Sat w l):Ret P F.a4 #[.pointer (some ⟨d,0,none⟩),.string n,.int .i64 k] w fun vs w'=>vs=[.int .i64 (cutA' A n k).1]∧Sat w' (dk d (cutA' A n k).2::r) :=
 zf5_calls _ n k <| by
  unfold zf5 cutA'
  refine may_if hs (fun hg w' hs=>?_) fun hg w' hs=>?_
  ·rw [if_pos hg];exact ⟨rfl,hs⟩
  rw [if_neg (by rw [hg];simp)]
  obtain ⟨m,FS,hp,hok,hs⟩:=dk_open hs
  (repeat (first|with_reducible (first|refine wp_on ?_|refine wp_nn ?_|refine wp_nng ?_|refine wp_ldO hs ?_|refine wp_ldG hs ?_|refine wp_untick ?_|refine wp_tk hs fun _ hs=>?_|refine wp_newO hs fun _ _ hs=>?_|refine wp_boxO hs fun _ _ hs=>?_|refine wp_stO hs fun _ hs=>?_|refine wp_stG hs fun _ hs=>?_)|(apply wp_must;(focus first|trivial|omega|assumption))|refine wp_ltw ?_|refine wp_lt ?_))
  refine wp_look hs (fun b hb=>?_) fun hb=>?_
  ·obtain ⟨t,ht,rfl,rfl,hA⟩:=in_fs hp hb
   refine wp_lt ?_
   refine wp_ifF ?_ (by simp)
   rw [if_neg (by rw [hasF_iff.2 ⟨_,hA,rfl⟩];simp),lenF_eq (names_nodup hok.sorted) hA rfl]
   obtain ⟨FS',hpm,hs⟩:=file_open hs ht
   obtain ⟨h1,h2,-⟩:=apart hp hok hpm
   have hlen:=hs.slen t.x (xs:=t.f.b) (enc:=encU)
   have hcap:=(hs.focS t.x).slc_cap
   (repeat (first|with_reducible (first|refine wp_on ?_|refine wp_nn ?_|refine wp_nng ?_|refine wp_ldO hs ?_|refine wp_ldG hs ?_|refine wp_untick ?_|refine wp_tk hs fun _ hs=>?_|refine wp_newO hs fun _ _ hs=>?_|refine wp_boxO hs fun _ _ hs=>?_|refine wp_stO hs fun _ hs=>?_|refine wp_stG hs fun _ hs=>?_)|(apply wp_must;(focus first|trivial|omega|assumption))|refine wp_ltw ?_|refine wp_lt ?_))
   refine wp_if (fun h=>?_) fun h=>?_
   ·rw [if_pos (by omega)]
    have hs:=(file_close t hs).all_perm (hpm.symm.map fileP)
    exact ⟨rfl,rfl,dk_close m hp hok hs⟩
   ·rw [if_neg (by omega)]
    obtain ⟨k,rfl⟩:∃ j:Nat,k=j:=⟨k.toNat,by omega⟩
    rw [Int.toNat_natCast]
    have hk:k≤t.f.b.length:=by omega
    have hu0:used A.fs=t.f.b.length+used (FS'.map FileM.f):=by rw [used_perm h1,used_cons]
    have hu1:=used_upd (g:=fun f=>{ f with b:=f.b.take k,kept:=min f.kept k }) h1 h2
    have hu2:used (A.fs.map (updF t.f.name fun f=>{ f with b:=f.b.take k,kept:=min f.kept k }))=k+used (FS'.map FileM.f):=by
     rw [hu1];show (t.f.b.take k).length+_=_;rw [List.length_take,Nat.min_eq_left hk]
    have hou:=hok.used
    refine wp_tk hs fun w' hs=>?_
    refine wp_nn ?_
    refine wp_ldO hs ?_
    refine wp_nn ?_
    refine wp_ldO hs ?_
    have e1:IntKind.wrap .i64 ((used A.fs:Nat)-IntKind.wrap .i64 (((t.x.len:Nat):Int)-(k:Int)))=(used (A.fs.map (updF t.f.name fun f=>{ f with b:=f.b.take k,kept:=min f.kept k })):Nat):=by
     rw [w64 (x:=((t.x.len:Nat):Int)-(k:Int)) (by omega) (by omega),w64 (by omega) (by omega)];omega
    rw [e1]
    (repeat (first|with_reducible (first|refine wp_on ?_|refine wp_nn ?_|refine wp_nng ?_|refine wp_ldO hs ?_|refine wp_ldG hs ?_|refine wp_untick ?_|refine wp_tk hs fun _ hs=>?_|refine wp_newO hs fun _ _ hs=>?_|refine wp_boxO hs fun _ _ hs=>?_|refine wp_stO hs fun _ hs=>?_|refine wp_stG hs fun _ hs=>?_)|(apply wp_must;(focus first|trivial|omega|assumption))|refine wp_ltw ?_|refine wp_lt ?_))
    have hs:=(hs.focS t.x).slc_cut (n:=k) (by omega)
    rw [take_flat] at hs
    have e2:(if (k:Int)<((t.f.kept:Nat):Int) then (k:Int) else ((t.f.kept:Nat):Int))=((min t.f.kept k:Nat):Int):=by split <;> omega
    rw [e2] at hs
    have hs:=file_close (FS:=FS') ⟨t.at_,⟨t.x.a,k,k⟩,⟨t.f.name,t.f.b.take k,min t.f.kept k⟩⟩ hs
    have hp':(((⟨t.at_,⟨t.x.a,k,k⟩,⟨t.f.name,t.f.b.take k,min t.f.kept k⟩⟩:FileM)::FS').map FileM.f).Perm (A.fs.map (updF t.f.name fun f=>{ f with b:=f.b.take k,kept:=min f.kept k })) :=
     (map_updF_perm (g:=fun f=>{ f with b:=f.b.take k,kept:=min f.kept k }) h1 h2).symm
    have hok':okA { A with fs:=A.fs.map (updF t.f.name fun f=>{ f with b:=f.b.take k,kept:=min f.kept k }) }:=by
     refine ⟨hok.room,by show used (A.fs.map _)≤_;omega,by show (A.fs.map _).length≤_;rw [List.length_map];exact hok.many,hok.left,sorted_map (updF_name fun _=>rfl) hok.sorted,fun f hf=>?_,fun f hf=>?_⟩
     rotate_left
     ·obtain ⟨g,hg,rfl⟩:=List.mem_map.1 hf
      rw [updF_name (by intro _;rfl)];exact hok.names g hg
     obtain ⟨g,hg,rfl⟩:=List.mem_map.1 hf
     have:=hok.kept g hg
     unfold updF
     split
     ·show min g.kept k≤(g.b.take k).length;rw [List.length_take];omega
     ·exact this
    have hs:Sat _ (mapP ekS evF m (((⟨t.at_,⟨t.x.a,k,k⟩,⟨t.f.name,t.f.b.take k,min t.f.kept k⟩⟩:FileM)::FS').map fun t=>(t.f.name,t.at_))::_):=(hs.pick [2]).mapPerm (hpm.map fun t=>(t.f.name,t.at_))
    rw [hg] at hs
    refine wp_call (spend_dk (l':=r) hg hok' hp' hs) fun _ _ hs=>?_
    obtain ⟨rfl,hs⟩:=hs
    refine ret_of ?_
    (repeat (first|with_reducible (first|refine wp_on ?_|refine wp_nn ?_|refine wp_nng ?_|refine wp_ldO hs ?_|refine wp_ldG hs ?_|refine wp_untick ?_|refine wp_tk hs fun _ hs=>?_|refine wp_newO hs fun _ _ hs=>?_|refine wp_boxO hs fun _ _ hs=>?_|refine wp_stO hs fun _ hs=>?_|refine wp_stG hs fun _ hs=>?_)|(apply wp_must;(focus first|trivial|omega|assumption))|refine wp_ltw ?_|refine wp_lt ?_))
    exact ⟨rfl,rfl,hs⟩
  ·refine wp_lt ?_
   refine wp_ifT ?_ (by rfl)
   rw [if_pos (hasF_not.2 (not_fs hp hb))]
   exact ⟨rfl,rfl,dk_close m hp hok hs⟩
end
section
variable {w:World} {l r:List HP} {d:Nat} {A:DiskA}
theorem nameF_size {s:ByteArray} (h:nameF s=true):s.size≤24:=by
 simp only [nameF,Bool.and_eq_true,decide_eq_true_eq] at h;exact h.2.2
theorem dropF_len (n:ByteArray) (fs:List FileA):(dropF n fs).length≤fs.length:=List.length_filter_le _ _
end
def hexC (n:Nat):UInt8:=if n<10 then UInt8.ofNat (48+n) else UInt8.ofNat (87+n)
def hexD (c:UInt8):Option Nat:=if 48≤c.toNat∧c.toNat≤57 then some (c.toNat-48) else if 97≤c.toNat∧c.toNat≤102 then some (c.toNat-87) else none
theorem hexD_C {n:Nat} (h:n<16):hexD (hexC n)=some n:=by
 unfold hexC hexD
 split
 ·rw [UInt8.toNat_ofNat',if_pos (by omega)]
  congr 1;omega
 ·rw [UInt8.toNat_ofNat',if_neg (by omega),if_pos (by omega)]
  congr 1;omega
theorem hexC_D {c:UInt8} {n:Nat} (h:hexD c=some n):hexC n=c∧n<16:=by
 unfold hexD at h
 unfold hexC
 split at h
 ·simp only [Option.some.injEq] at h
  subst h
  rw [if_pos (by omega)]
  exact ⟨UInt8.toNat_inj.1 (by rw [UInt8.toNat_ofNat'];omega),by omega⟩
 ·split at h
  ·simp only [Option.some.injEq] at h
   subst h
   rw [if_neg (by omega)]
   exact ⟨UInt8.toNat_inj.1 (by rw [UInt8.toNat_ofNat'];omega),by omega⟩
  ·cases h
def hexL:Nat→Nat→List UInt8
 | 0,_=>[]
 | k+1,n=>hexL k (n / 16)++[hexC (n % 16)]
def hexV (x:Nat):List UInt8→Option Nat
 | []=>some x
 | c::r=>match hexD c with
  | none=>none
  | some d=>hexV (16*x+d) r
theorem hexL_len:∀ (k n:Nat),(hexL k n).length=k
 | 0,_=>rfl
 | k+1,n=>by unfold hexL;rw [List.length_append,hexL_len k];rfl
theorem hexV_app (x:Nat) (a b:List UInt8):hexV x (a++b)=(hexV x a).bind fun y=>hexV y b:=by
 induction a generalizing x with
 | nil=>rfl
 | cons c r ih =>
  rw [List.cons_append]
  cases hd:hexD c with
  | none=>simp only [hexV,hd];rfl
  | some d=>simp only [hexV,hd];exact ih _
theorem hexV_L:∀ (k n x:Nat),hexV x (hexL k n)=some (x*16 ^ k+n % 16 ^ k)
 | 0,n,x=>by simp [hexL,hexV,Nat.mod_one]
 | k+1,n,x=>by
  unfold hexL
  rw [hexV_app,hexV_L k]
  show hexV _ [hexC (n % 16)]=_
  unfold hexV
  rw [hexD_C (Nat.mod_lt _ (by omega))]
  show some _=some _
  congr 1
  have h1:n % 16 ^ (k+1)=16*(n / 16 % 16 ^ k)+n % 16:=by
   rw [Nat.pow_succ,Nat.mul_comm (16 ^ k) 16,Nat.mod_mul];omega
  have h2:x*16 ^ (k+1)=16*(x*16 ^ k):=by rw [Nat.pow_succ];ac_rfl
  omega
theorem snoc_ind {α:Type} {p:List α→Prop} (h0:p []) (h1:∀ l x,p l→p (l++[x])) (l:List α):p l:=by
 have:∀ (n:Nat) (l:List α),l.length=n→p l:=by
  intro n
  induction n with
  | zero=>intro l h;rw [List.length_eq_zero_iff.1 h];exact h0
  | succ n ih =>
   intro l h
   have hne:l≠[]:=by rintro rfl;cases h
   rw [← List.dropLast_concat_getLast hne]
   exact h1 _ _ (ih _ (by rw [List.length_dropLast,h];rfl))
 exact this _ l rfl
def logX:List UInt8:=[46,108,111,103]
def newX:List UInt8:=[46,110,101,119]
def nameS (pre:ByteArray) (base:Int) (x:List UInt8):ByteArray:=⟨(bl pre++(45::(hexL 11 base.toNat++x))).toArray⟩
def baseN (pre n:ByteArray) (x:List UInt8):Option Nat :=
 if (bl n).length=(bl pre).length+1+11+x.length∧(bl n).drop ((bl pre).length+1+11)=x then hexV 0 (((bl n).drop ((bl pre).length+1)).take 11) else none
def dashN (pre:ByteArray):ByteArray:=⟨(bl pre++[45]).toArray⟩
def logN (pre n:ByteArray) (x:List UInt8):Option Nat:=if (bl (dashN pre)).isPrefixOf (bl n) then baseN pre n x else none
theorem bl_nameS (pre:ByteArray) (base:Int) (x:List UInt8):bl (nameS pre base x)=bl pre++(45::(hexL 11 base.toNat++x)):=bl_mk _
theorem bl_dash (pre:ByteArray):bl (dashN pre)=bl pre++[45]:=bl_mk _
theorem pre_nameS (pre:ByteArray) (base:Int) (x:List UInt8):(bl (dashN pre)).isPrefixOf (bl (nameS pre base x))=true:=by
 rw [bl_nameS,bl_dash,List.isPrefixOf_iff_prefix]
 exact ⟨hexL 11 base.toNat++x,by simp⟩
theorem baseN_nameS (pre:ByteArray) {base:Int} (h:0≤base∧base<17592186044416) (x:List UInt8):baseN pre (nameS pre base x) x=some base.toNat:=by
 have hl:=hexL_len 11 base.toNat
 have e1:(bl (nameS pre base x)).drop ((bl pre).length+1)=hexL 11 base.toNat++x:=by
  rw [bl_nameS,← List.drop_drop,List.drop_left]
  rfl
 have e2:(bl (nameS pre base x)).drop ((bl pre).length+1+11)=x:=by
  rw [← List.drop_drop,e1]
  exact List.drop_left' hl
 unfold baseN
 rw [e1,e2,if_pos ⟨by rw [bl_nameS];simp [hl];omega,rfl⟩,List.take_left' hl,hexV_L,Nat.zero_mul,Nat.zero_add,Nat.mod_eq_of_lt (by omega)]
theorem baseN_end {pre n:ByteArray} {x y:List UInt8} {v:Nat} (h:baseN pre n x=some v) (hxy:x≠y):baseN pre n y=none:=by
 unfold baseN at h ⊢
 split at h
 ·rename_i h1
  rw [if_neg]
  rintro ⟨h2,h3⟩
  exact hxy (h1.2.symm.trans h3)
 ·cases h
theorem logN_nameS (pre:ByteArray) {base:Int} (h:0≤base∧base<17592186044416) (x:List UInt8):logN pre (nameS pre base x) x=some base.toNat:=by
 unfold logN
 rw [if_pos (pre_nameS _ _ _),baseN_nameS pre h]
theorem logN_end {pre n:ByteArray} {x y:List UInt8} {v:Nat} (h:logN pre n x=some v) (hxy:x≠y):logN pre n y=none:=by
 unfold logN at h ⊢
 split at h
 ·rename_i hp;rw [if_pos hp];exact baseN_end h hxy
 ·cases h
theorem nameS_inj {pre:ByteArray} {a b:Int} {x y:List UInt8} (ha:0≤a∧a<17592186044416) (hb:0≤b∧b<17592186044416) (h:nameS pre a x=nameS pre b y):a=b∧x=y:=by
 have h1:=logN_nameS pre ha x
 rw [h] at h1
 by_cases hxy:x=y
 ·subst hxy
  rw [logN_nameS pre hb] at h1
  simp only [Option.some.injEq] at h1
  exact ⟨by omega,rfl⟩
 ·rw [logN_end (logN_nameS pre hb y) (fun e=>hxy e.symm)] at h1
  cases h1
def preS (pre:ByteArray):Bool:=decide (1≤pre.size∧pre.size≤8) && (bl pre).all fun c=>(97≤c.toNat && c.toNat≤122) || (48≤c.toNat && c.toNat≤57)
theorem hexC_ok {n:Nat} (h:n<16):okC (hexC n)=true:=by
 unfold hexC okC
 split <;> rw [UInt8.toNat_ofNat'] <;> simp <;> omega
theorem hexL_ok:∀ (k n:Nat),(hexL k n).all okC=true
 | 0,_=>rfl
 | k+1,n=>by
  unfold hexL
  rw [List.all_append,hexL_ok k]
  simp [hexC_ok (Nat.mod_lt n (by omega:(16:Nat)>0))]
theorem nameF_nameS {pre:ByteArray} (h:preS pre=true) (base:Int) {x:List UInt8} (hx:x.length=4) (hxo:x.all okC=true):nameF (nameS pre base x)=true:=by
 unfold preS at h
 rw [Bool.and_eq_true,decide_eq_true_eq] at h
 have hall:(bl pre).all okC=true:=by
  rw [List.all_eq_true] at h ⊢
  intro c hc
  have:=h.2 c hc
  unfold okC
  rw [this]
  rfl
 have hsz:(nameS pre base x).size=pre.size+16:=by
  rw [← size_bl,bl_nameS,← size_bl]
  simp [hexL_len,hx]
 unfold nameF
 rw [hsz,show (nameS pre base x).data.toList=_ from bl_nameS pre base x]
 simp [List.all_append,hall,hexL_ok,hxo]
 exact ⟨by decide,by omega⟩
theorem dash_two {p q n:ByteArray} (hp:preS p=true) (hq:preS q=true) (h1:(bl (dashN p)).isPrefixOf (bl n)=true) (h2:(bl (dashN q)).isPrefixOf (bl n)=true):p=q:=by
 have key:∀ (a b:List UInt8),(∀ c ∈ a,c≠45)→(∀ c ∈ b,c≠45)→∀ s t:List UInt8,a++45::s=b++45::t→a=b:=by
  intro a
  induction a with
  | nil =>
   intro b _ hb s t h
   cases b with
   | nil=>rfl
   | cons c cs=>simp at h;exact absurd h.1.symm (hb c (List.mem_cons_self ..))
  | cons c cs ih =>
   intro b ha hb s t h
   cases b with
   | nil=>simp at h;exact absurd h.1 (ha c (List.mem_cons_self ..))
   | cons d ds =>
    simp at h
    rw [h.1,ih ds (fun x hx=>ha x (List.mem_cons_of_mem _ hx)) (fun x hx=>hb x (List.mem_cons_of_mem _ hx)) s t h.2]
 have no:∀ {p:ByteArray},preS p=true→∀ c ∈ bl p,c≠45:=fun {p} hp c hc e=>by
  unfold preS at hp
  rw [Bool.and_eq_true,List.all_eq_true] at hp
  have:=hp.2 c hc
  subst e
  revert this
  decide
 rw [List.isPrefixOf_iff_prefix,bl_dash] at h1 h2
 obtain ⟨s,hs⟩:=h1
 obtain ⟨t,ht⟩:=h2
 refine bl_ext (key _ _ (no hp) (no hq) s t ?_)
 rw [← ht] at hs
 simpa using hs
theorem less_app:∀ (a x y:List UInt8),Op.bytesLess (a++x) (a++y)=Op.bytesLess x y
 | [],x,y=>rfl
 | c::a,x,y=>by
  rw [List.cons_append,List.cons_append,Op.bytesLess,less_app a]
  simp
theorem less_snoc:∀ (a b x y:List UInt8),a.length=b.length→(Op.bytesLess (a++x) (b++y)=true↔Op.bytesLess a b=true∨(a=b∧Op.bytesLess x y=true))
 | [],[],x,y,_=>by simp [Op.bytesLess]
 | c::a,d::b,x,y,h=>by
  rw [List.cons_append,List.cons_append,Op.bytesLess,Op.bytesLess]
  have ih:=less_snoc a b x y (by simpa using h)
  simp only [Bool.or_eq_true,decide_eq_true_eq,Bool.and_eq_true,beq_iff_eq,List.cons.injEq]
  rw [ih]
  constructor
  ·rintro (h|⟨h,h2|⟨h2,h3⟩⟩)
   ·exact .inl (.inl h)
   ·exact .inl (.inr ⟨h,h2⟩)
   ·exact .inr ⟨⟨h,h2⟩,h3⟩
  ·rintro ((h|⟨h,h2⟩)|⟨⟨h,h2⟩,h3⟩)
   ·exact .inl h
   ·exact .inr ⟨h,.inl h2⟩
   ·exact .inr ⟨h,.inr ⟨h2,h3⟩⟩
theorem hexC_lt {a b:Nat} (ha:a<16) (hb:b<16):(hexC a<hexC b)↔a<b:=by
 rw [UInt8.lt_iff_toNat_lt]
 unfold hexC
 split <;> split <;> rw [UInt8.toNat_ofNat',UInt8.toNat_ofNat'] <;> omega
theorem hexL_less:∀ (k a b:Nat),a<16 ^ k→b<16 ^ k→(Op.bytesLess (hexL k a) (hexL k b)=true↔a<b)
 | 0,a,b,ha,hb=>by simp at ha hb;subst ha hb;simp [hexL,Op.bytesLess]
 | k+1,a,b,ha,hb=>by
  have h1:a / 16<16 ^ k:=by rw [Nat.pow_succ] at ha;omega
  have h2:b / 16<16 ^ k:=by rw [Nat.pow_succ] at hb;omega
  unfold hexL
  rw [less_snoc _ _ _ _ (by rw [hexL_len,hexL_len]),hexL_less k _ _ h1 h2]
  have h3:Op.bytesLess [hexC (a % 16)] [hexC (b % 16)]=true↔a % 16<b % 16:=by
   simp only [Op.bytesLess,Bool.or_eq_true,decide_eq_true_eq,Bool.and_eq_true,Bool.false_eq_true,and_false,or_false]
   exact hexC_lt (Nat.mod_lt _ (by omega)) (Nat.mod_lt _ (by omega))
  rw [h3]
  have h4:hexL k (a / 16)=hexL k (b / 16)→a / 16=b / 16:=fun h=>by
   have e1:=hexV_L k (a / 16) 0
   rw [h,hexV_L] at e1
   simp only [Option.some.injEq] at e1
   rw [Nat.mod_eq_of_lt h1,Nat.mod_eq_of_lt h2] at e1
   omega
  constructor
  ·rintro (h|⟨h,h5⟩)
   ·omega
   ·have:=h4 h;omega
  ·intro h
   by_cases h5:a / 16=b / 16
   ·right;exact ⟨by rw [h5],by omega⟩
   ·left;omega
theorem ltS_nameS (pre:ByteArray) {a b:Int} (ha:0≤a∧a<17592186044416) (hb:0≤b∧b<17592186044416) (x:List UInt8):ltS (nameS pre a x) (nameS pre b x)=true↔a<b:=by
 have e:∀ s:ByteArray,ByteArray.toList s=bl s:=fun s=>by rw [ByteArray.toList_eq]
 unfold ltS
 rw [e,e,bl_nameS,bl_nameS,less_app]
 have e2:∀ y z:List UInt8,Op.bytesLess (45::y) (45::z)=Op.bytesLess y z:=less_app [45]
 rw [e2,less_snoc _ _ _ _ (by rw [hexL_len,hexL_len]),hexL_less 11 _ _ (by omega) (by omega),less_irrefl]
 constructor
 ·rintro (h|⟨-,h⟩)
  ·omega
  ·cases h
 ·intro h;left;omega
end Go.Dec
namespace Go.Proofs.YtfnldnodhfkojaaGreat
open Go.RowKit Go.Maps Go.Sort Go.Proofs
set_option maxRecDepth 100000 in
set_option maxHeartbeats 1000000 in
theorem keys1_in {H:Type} (F:Fence) (n:Nat) (h10:F.fn 143) (hro:F.round=none) (hn:1≤n) (l Bm b nn:Nat) (D0:DataW H) {R:Value→Option (DataW H × List MemPlace)} (J Jx:List (List UInt8)→World→Prop)
  (hY:∀ pre x W,J pre W→pre.length<Maps.size D0→YieldAt F (n-1) Tryz.prog l #[encStr x] W fun e W'=>(e=.returned (.bool true)∧J (pre++[x]) W'∧KeepsWalks W W')∨(e=.returned (.bool false)∧Jx (pre++[x]) W'))
  (W:World) (hJ:AbidesFrom W.heap.size J) (hm:W.cell? ⟨Bm,0,none⟩=some (.map (some b))) (hown:W.ownsMap Tryz.prog 9 R b nn D0) (h0:J [] W) :
  CallsIn F n Tryz.prog 143 #[.func (.yield l) #[] #[],.pointer (some ⟨Bm,0,none⟩)] W fun e W'=>(∃ v,e=.returned v)∧((∃ ss:List (List UInt8),ss.Perm (strKeys D0)∧J ss W')∨(∃ pre,True∧Jx pre W')):=by
 refine callsIn_of_wp Tryz.func143 rfl h10 ?_ hro
 simp only [Tryz.ntmps143,List.size_toArray,List.length_cons,List.length_nil,Nat.reduceAdd,Nat.reduceSub,Array.replicate_succ,Array.replicate_zero,List.push_toArray,List.append_toArray,List.nil_append,List.cons_append]
 gi_wp2_with (first
  | (gi_at_range;refine wpListIn_range_own _ rfl _ 110 rfl 9 157 (string_keyed Tryz.underlying9) Tryz.underlying110 _ b nn _ rfl hown ?_;intro w0 hrg0 hg0 hs0)
  | gi_in)
 go_frame
 gi_loopw [3] (fun _ wr=>∃ (left:Lit→Bool) (cnt:Nat) (ss:List (List UInt8)),wr.ranges Tryz.prog 9 R b W.heap.size nn D0 left cnt∧ss.length+cnt≤Maps.size D0∧Collected D0 left ss∧J ss wr)
  (fun _ wr=>wr.rangeLeft b W.heap.size)
 case atStart =>
  exact ⟨_,_,[],hrg0,by simp,Collected.start D0,hJ [] W w0 none h0 hg0 (fun r e=>by cases e)⟩
 case round =>
  obtain ⟨left,cnt,ss,hrg,hcs,hC,hJs⟩:=hrel
  gi_wp2_with (first
   | (gi_at_next;refine wpListIn_next_ranges _ rfl _ rfl 9 (string_keyed Tryz.underlying9) R encStr id (fun key kl hk=>by obtain ⟨x,hx,_⟩:=Maps.keyOf_str Tryz.underlying9 hk;exact ⟨x,hx⟩) (fun v _ _=>⟨v,rfl⟩) b W.heap.size nn _ _ _ rfl hrg ?_ ?_)
   | gi_in)
  ·intro hc0 hl0
   gi_wp2
   go_end0
   exact ⟨⟨_,rfl⟩,.inl ⟨ss,hC.perm hown (string_keyed Tryz.underlying9) Tryz.underlying9 hl0,hJs⟩⟩
  ·intro x c kl yd yp w2 cnt2 hkey hlk hv hat hrg2 hlt hg2 hs2 hen
   obtain ⟨x',ex,rfl,_⟩:=Maps.keyOf_str Tryz.underlying9 hkey
   obtain rfl:x=x':=encStr_inj ex
   have hJ2:J ss w2:=hJ ss wr w2 (some W.heap.size) hJs hg2 (fun r e=>by cases e;exact ⟨Nat.le_refl _,hrg.iter_walk⟩)
   obtain ⟨fn,tmps,assign,body,hy,hR⟩:=hY ss x w2 hJ2 (by omega)
   clear hs2
   gi_wp2
   refine hR.mono ?_
   rintro e W3 (⟨rfl,hJ3,hk3⟩|⟨rfl,hJx3⟩)
   ·gi_wp2
    have hrg3:=hrg2.of_walks hk3
    go_roundw
    case rel=>exact ⟨_,cnt2,ss++[x],hrg3,by simp;omega,hC.step hlk hat,hJ3⟩
    case measure=>rw [hrg3.left_eq,hrg.left_eq];exact hlt
   ·gi_wp2
    refine bodyPost_ret (results_none rfl _ _ _) rfl ?_
    exact ⟨⟨_,rfl⟩,.inr ⟨ss++[x],trivial,hJx3⟩⟩
theorem keys_in (mb:Option Nat) (w:World) :
  Calls Tryz.prog 97 #[.map mb] w fun e w'=>e=.returned (.func (.func 143) #[] #[.pointer (some ⟨w.heap.size,0,none⟩)])∧w'=w.alloc (.cells #[.map mb] 110):=by
 refine Calls.mono (Dec.zf34_calls mb (w:=w) (R:=fun vs w'=>vs=[.func (.func 143) #[] #[.pointer (some ⟨w.heap.size,0,none⟩)]]∧w'=w.alloc (.cells #[.map mb] 110)) ?_) fun e w' ⟨vs,he,hv,hw⟩=>⟨by rw [he,hv];rfl,hw⟩
 unfold Dec.zf34
 refine ⟨(⟨w.heap.size,0,none⟩,()),w.alloc (.cells #[.map mb] 110),?_,trivial,?_⟩
 ·simp only [Instr.box,Sem.run_bind,Dec.run_newVar,Result.andThen_ok,Sem.run_pure];rfl
 ·exact ⟨rfl,rfl,rfl⟩
def preF (p s:ByteArray):Bool:=p.toList.isPrefixOf s.toList
theorem pre_eq (s p:ByteArray):(decide (((ByteArray.size s:Nat):Int)≥((ByteArray.size p:Nat):Int)) && ByteArray.toList (ByteArray.extract s 0 (Int.toNat (((ByteArray.size p:Nat):Int)))) == ByteArray.toList p)=preF p s:=by
 unfold preF
 rw [Int.toNat_natCast,ByteArray.toList_eq,ByteArray.toList_eq,ByteArray.toList_eq]
 have e1:(ByteArray.extract s 0 p.size).data.toList=s.data.toList.take p.size:=by simp [ByteArray.data_extract]
 have e2:p.size=p.data.toList.length:=by simp
 rw [e1,Bool.eq_iff_iff,Bool.and_eq_true,decide_eq_true_eq,beq_iff_eq,List.isPrefixOf_iff_prefix]
 constructor
 ·rintro ⟨-,h⟩
  rw [← h];exact List.take_prefix _ _
 ·intro h
  have hl:=h.length_le
  refine ⟨?_,?_⟩
  ·have:s.size=s.data.toList.length:=by simp
   omega
  ·rw [e2];exact (List.prefix_iff_eq_take.1 h).symm
theorem prefix_c (s p:ByteArray) (w:World):Calls Tryz.prog 98 #[.string s,.string p] w fun e w'=>e=.returned (.bool (preF p s))∧w'=w:=by
 refine Calls.mono (Dec.zf103_calls s p (w:=w) (R:=fun vs w'=>vs=[.bool (preF p s)]∧w'=w) ?_) fun e w' ⟨vs,he,hv,hw⟩=>⟨by rw [he,hv];rfl,hw⟩
 unfold Dec.zf103
 refine Dec.wp_callS (preF p s,()) (Dec.zf30_calls s p (R:=fun vs w'=>vs=[.bool (preF p s)]∧w'=w) ?_) rfl fun w' hw=>⟨trivial,?_⟩
 ·unfold Dec.zf30
  refine Dec.wp_must (fun h=>?_) (Dec.wp_lt ⟨rfl,by rw [pre_eq],rfl⟩)
  have h:=of_decide_eq_true h
  omega
 ·exact Dec.wp_lt ⟨rfl,rfl,hw⟩
end Go.Proofs.YtfnldnodhfkojaaGreat
namespace Go.Proofs.YtfnldnodhfkojaaGreat
open Go.RowKit Go.Maps Go.Sort Go.Proofs Go.Shelf
attribute [local go_sem] Oper.semAt_some
def posF (p:ByteArray) (ss:List (List UInt8)):List (List UInt8):=ss.filter fun x=>preF p ⟨x.toArray⟩
theorem pos_hit (p:ByteArray) (pre:List (List UInt8)) {x:List UInt8} (h:preF p ⟨x.toArray⟩=true):posF p (pre++[x])=posF p pre++[x]:=by simp [posF,h]
theorem pos_miss (p:ByteArray) (pre:List (List UInt8)) {x:List UInt8} (h:¬ preF p ⟨x.toArray⟩=true):posF p (pre++[x])=posF p pre:=by simp [posF,h]
theorem info9:(Tryz.prog.info? 9).map (fun i=>(i.zero,i.size,i.bytes))=some (some (.string ByteArray.empty),1,16):=by kernel_rfl
set_option maxRecDepth 100000 in
set_option maxHeartbeats 2000000 in
theorem names_in {H : Type} (n : Nat) (hn : 3 ≤ n) (d b nn : Nat) (p : ByteArray) (w : World) (D0 : DataW H) {R : Value → Option (DataW H × List MemPlace)} (hown : w.ownsMap Tryz.prog 9 R b nn D0) (hd : d < w.heap.size)
    (hc : w.cell? ⟨d, 4, none⟩ = some (.map (some b))) (hmax : Maps.size D0 ≤ 1000) (fin : Value → World → Prop)
    (hsort : ∀ (D : Nat) (ss : List (List UInt8)) (v : Value) (W : World), w.heap.size + 2 ≤ D → ss.Perm (strKeys D0) → Boxed W (w.heap.size + 1) 68 v → W.ownsRow (w.heap.size + 1) 9 1 v (posF p ss).length ((posF p ss).map encStr) → Below w.heap.size w W →
      W.heap[D]? = some (.deferred (some [])) → CallsIn Fence.wide (n - 1) Tryz.prog 99 #[v] W fun e W' => e = .returned (.tuple #[]) ∧ W'.cell? ⟨w.heap.size + 1, 0, none⟩ = some v ∧ W'.heap[D]? = some (.deferred (some [])) ∧ fin v (W'.putObj D (.deferred none))) :
    CallsIn Fence.wide n Tryz.prog 33 #[.pointer (some ⟨d, 0, none⟩), .string p] w fun e W' => ∃ v, e = .returned v ∧ fin v W' := by
  have h1 : 1 ≤ n := by omega
  obtain ⟨i0, hi, hz0, hz1, hz2⟩ := info_parts info9
  have hbl := hown.lt
  have hc2 : ((w.alloc (.cells #[.string p] 9)).alloc (.cells #[.slice none 0 0] 68)).cell? ⟨d, 4, none⟩ = some (.map (some b)) := by
    rw [World.cell?_alloc_past _ _ _ (by simp; omega), World.cell?_alloc_past _ _ _ hd]; exact hc
  refine callsIn_of_wp_marks Tryz.func33 rfl trivial ?_ rfl
  simp only [Tryz.ntmps33, List.size_toArray, List.length_cons, List.length_nil, Nat.reduceAdd, Nat.reduceSub, Array.replicate_succ, Array.replicate_zero, List.push_toArray, List.append_toArray, List.nil_append, List.cons_append]
  gi_wp2_with (refine ⟨trivial, ?_⟩; gi_at_call 97; refine (callsIn_wide.2 (keys_in _ _)).mono ?_; rintro e w' ⟨rfl, rfl⟩)
  have bP := Boxed.new w 9 (.string p)
  have bO := Boxed.new (w.alloc (.cells #[.string p] 9)) 68 (.slice none 0 0)
  have bM := Boxed.new ((w.alloc (.cells #[.string p] 9)).alloc (.cells #[.slice none 0 0] 68)) 110 (.map (some b))
  rw [World.size_alloc] at bO bM
  rw [World.size_alloc] at bM
  have hB0 : Below w.heap.size w (((w.alloc (.cells #[.string p] 9)).alloc (.cells #[.slice none 0 0] 68)).alloc (.cells #[.map (some b)] 110)) := (((Below.refl _ w).alloc (Nat.le_refl _) _).alloc (by simp) _).alloc (by simp; omega) _
  have hown0 : (((w.alloc (.cells #[.string p] 9)).alloc (.cells #[.slice none 0 0] 68)).alloc (.cells #[.map (some b)] 110)).ownsMap Tryz.prog 9 R b nn D0 := by
    obtain ⟨es, clock, hb, Ft, hs, hD⟩ := hown
    exact ⟨es, clock, (hB0.block b hbl).trans hb, Ft, hs, hD⟩
  have hseq : SeqStops Fence.wide (n - 1) Tryz.prog 143 #[.pointer (some ⟨w.heap.size + 1 + 1, 0, none⟩)] encStr (fun ss => ss.Perm (strKeys D0)) (fun _ => True) (Maps.size D0) (((w.alloc (.cells #[.string p] 9)).alloc (.cells #[.slice none 0 0] 68)).alloc (.cells #[.map (some b)] 110)) := fun l J Jx W hW hJ hJx hY h0 => by
    have hown' : W.ownsMap Tryz.prog 9 R b nn D0 := by
      obtain ⟨es, clock, hb, Ft, hs, hD⟩ := hown0
      exact ⟨es, clock, (hW.block b (by simp; omega)).trans hb, Ft, hs, hD⟩
    exact keys1_in Fence.wide (n - 1) trivial rfl (by omega) l (w.heap.size + 1 + 1) b nn D0 J Jx hY W hJ ((hW.cell (p := ⟨w.heap.size + 1 + 1, 0, none⟩) (by simp)).trans bM.cell) hown' h0
  refine wpIn_rangeFunc_ownG rfl h1 (gf := 143) (lb := #[.pointer (some ⟨w.heap.size + 1 + 1, 0, none⟩)]) rfl trivial (enters_of Tryz.func143 (by kernel_rfl) rfl)
    (encs := fun x => #[encStr x]) (Kp := KeepsWalks) (S := fun ss => ss.Perm (strKeys D0)) (Sp := fun _ => True) (N := Maps.size D0) hseq walksK_t (fun W l o o' _ h _ hw => KeepsWalks.putObj _ h hw) (Below.refl _ _) (fun _ => rfl)
    (fun pre W => ((∃ v, Boxed W (w.heap.size + 1) 68 v ∧ W.ownsRow (w.heap.size + 1) 9 1 v (posF p pre).length ((posF p pre).map encStr) ∧ True) ∧ Boxed W w.heap.size 9 (.string p)) ∧ Below w.heap.size w W)
    (fun _ _ _ => False)
    (OwnFrom.and (OwnFrom.and (Own.from (holdsRow_own (w.heap.size + 1) (w.heap.size + 1) 68 9 1 (fun pre => (posF p pre).length) (fun pre => (posF p pre).map encStr) (fun _ _ => True)) _) (Own.from (boxed_own w.heap.size 9 (fun _ => .string p)) _)) (ownFrom_below (Nat.le_refl _) (by simp; omega)))
    (fun _ _ _ _ _ hs _ _ => hs)
    ⟨⟨⟨_, bO.alloc _, World.ownsRow_nil _ _ _ _, trivial⟩, (bP.alloc _).alloc _⟩, hB0⟩
    (fun x => { tmps := #[Value.pointer (some { block := d, off := 0 }), Value.string p, undef,
                Value.pointer (some { block := w.heap.size, off := 0 }), Value.slice none 0 0,
                Value.pointer (some { block := w.heap.size + 1, off := 0 }), encStr x,
                Value.pointer (some { block := d, off := 0 }), Value.bool false,
                Value.pointer (some { block := d, off := 0 }), Value.pointer (some { block := d, off := 0 }),
                Value.pointer (some { block := d, off := 4 }), Value.map (some b), .func (.func 143) #[] #[.pointer (some ⟨w.heap.size + 1 + 1, 0, none⟩)], encStr x, undef, undef, undef, undef, undef,
                undef, undef, undef, undef, undef], defers := [] }) ?assign ?body ?done ?stop
  case assign =>
    intro l x W K hK
    gi_wp2
    exact hK
  case body =>
    rintro l pre x W ⟨⟨⟨v, hv, hrow, -⟩, hbp⟩, hB⟩ hlt
    have hcv := hv.cell
    have hcp := hbp.cell
    have hpl : (posF p pre).length ≤ pre.length := List.length_filter_le _ _
    have hml : 1000 ≤ maxLen := by decide
    have hvl := hv.lt
    gi_wp2_with (first
      | (refine ⟨trivial, fun _ => by omega, ?_⟩; gi_at_call 98; refine (CallsIn.inRound l (callsIn_wide.2 (prefix_c ⟨x.toArray⟩ p W))).mono ?_; rintro e w' ⟨rfl, he⟩; have he := he.symm; subst he)
      | (gi_at_builtin; refine wpListIn_append_own _ rfl _ _ 68 rfl (w.heap.size + 1) 9 i0 (.string ByteArray.empty) 1 16 Tryz.underlying68 hi hz0 hz1 hz2 rfl (by decide) _ _ _ rfl (hrow.alloc _) ⟨W.heap.size, 0, none⟩ 1 1 [encStr x] rfl rfl (cell_one_new _ _ _) (by simp [Value.oneCell', encStr]) (by omega) (by omega) (by simp; omega) ?_; intro v' w1 hown' hgrow _; obtain ⟨g', cap', rfl⟩ := ownsRow_succ hown'; obtain ⟨hv1, hv2, hr2, hk2, hb2⟩ := hv.appended (by decide) hrow (by omega) (by omega) hown' hgrow; have hc1 := hv1.cell; have hf1 := hv1.frozen))
    · have hx : preF p ⟨x.toArray⟩ = true := by assumption
      exact ⟨hk2.from _, hk2.walks, ⟨⟨⟨_, hv2, by rw [pos_hit p pre hx]; simpa using hr2, trivial⟩, (hb2.block w.heap.size (by omega)).trans hbp⟩, hB.trans (hb2.mono (by omega))⟩⟩
    · have hx : ¬ preF p ⟨x.toArray⟩ = true := by rename_i hx; rw [hx]; simp
      exact ⟨KeepsFrom.refl _ _, (KeepsOthers.refl _).walks, ⟨⟨⟨v, hv, by rw [pos_miss p pre hx]; exact hrow, trivial⟩, hbp⟩, hB⟩⟩
  case done =>
    rintro D ys W hD hS ⟨⟨⟨v, hv, hrow, -⟩, hbp⟩, hB⟩ hK
    have hcv := hv.cell
    have hvl := hv.lt
    have hD2 : w.heap.size + 2 ≤ D := by simp at hD; omega
    gi_wp2_with (refine ⟨trivial, ?_⟩; gi_at_call 99; refine (hsort D ys v W hD2 hS hv hrow hB hK).mono ?_; rintro e w' ⟨rfl, hc1, hK1, hfin⟩)
    refine ⟨by simp, .inl ⟨_, _, rfl, run_takeDeferred hK1, ?_⟩⟩
    exact ⟨_, results_tmp rfl _ _ _, v, rfl, hfin⟩
  case stop =>
    rintro D c pre W _ _ h _
    exact h.elim
end Go.Proofs.YtfnldnodhfkojaaGreat
