/- What the claim of this folder leans on: our own texts, joined, without what it does not use. -/
import Derived.Test.YtgpcickgjngglaaGreatQLApart4
set_option linter.unusedVariables false
set_option linter.unusedSimpArgs false
namespace Go.Dec
abbrev Lf:=Option (List UInt8)
def z0o:Lf->Nat × Lf
 | none=>(0,none)
 | some bs=>match z3y 0 bs with
  | none=>(0,none)
  | some p=>(p.1,some (bs.drop p.2))
def z1q (lo hi:Int) (s:Lf):Int × Lf:=match (z0o s).2 with
 | none=>(0,none)
 | some t=>if zag (z0o s).1<lo\/zag (z0o s).1>hi then (0,none) else (zag (z0o s).1,some t)
def z11:Lf->Nat × Lf
 | some (c::t)=>(c.toNat,some t)
 | _=>(0,none)
def z4o:Lf->Bool × Lf
 | some (c::t)=>if c.toNat<=1 then (decide (c.toNat=1),some t) else (false,none)
 | _=>(false,none)
def z1o (most:Nat) (s:Lf):ByteArray × Lf:=match (z0o s).2 with
 | none=>(⟨#[]⟩,none)
 | some t=>if (z0o s).1<=most/\(z0o s).1<=t.length then (⟨(t.take (z0o s).1).toArray⟩,some (t.drop (z0o s).1)) else (⟨#[]⟩,none)
def z05 (most:Int) (s:Lf):Int × Lf:=(if ((z0o s).1:Int)>most then most+1 else (z0o s).1,(z0o s).2)
abbrev bl (s:ByteArray):List UInt8:=s.data.toList
theorem z82 {v:Nat} (h:v<18446744073709551616) (t:List UInt8):z0o (some (z3z v++t))=(v,some t):=by
 unfold z0o
 simp only [zjv h,List.drop_left]
theorem z7p {s:Lf} {t:List UInt8} (h:(z0o s).2=some t):(z0o s).1<18446744073709551616/\s=some (z3z (z0o s).1++t):=by
 cases s with
 | none=>cases h
 | some bs =>
  cases hn:z3y 0 bs with
  | none =>
   have e:z0o (some bs)=(0,none):=by unfold z0o;simp only [hn]
   rw [e] at h;cases h
  | some p =>
   obtain ⟨v,k⟩:=p
   have e:z0o (some bs)=(v,some (bs.drop k)):=by unfold z0o;simp only [hn]
   rw [e] at h ⊢
   obtain ⟨h1,h2⟩:=zme hn
   simp only [Option.some.injEq] at h ⊢
   subst h
   exact ⟨h2,by rw [<- h1,List.take_append_drop]⟩
theorem zne {lo hi n:Int} (h1:lo<=n) (h2:n<=hi) (hn : -9223372036854775808<=n/\n<9223372036854775808) (t:List UInt8):z1q lo hi (some (z5y n++t))=(n,some t):=by
 unfold z1q z5y
 simp only [z82 (zyd hn),z05p]
 rw [if_neg (by omega)]
theorem znw {lo hi:Int} {s:Lf} {t:List UInt8} (h:(z1q lo hi s).2=some t):(lo<=(z1q lo hi s).1/\(z1q lo hi s).1<=hi)/\s=some (z5y (z1q lo hi s).1++t):=by
 unfold z1q at h ⊢
 cases hu:(z0o s).2 with
 | none=>rw [hu] at h;cases h
 | some t' =>
  have h2:=z7p hu
  rw [hu] at h
  simp only at h ⊢
  split at h
  ·cases h
  rename_i h3
  simp only [Option.some.injEq] at h
  subst h
  rw [if_neg h3]
  refine ⟨by omega,?_⟩
  unfold z5y
  rw [z05q]
  exact h2.2
theorem zcx {s:Lf} {t:List UInt8} (h:(z11 s).2=some t):(z11 s).1<256/\s=some (UInt8.ofNat (z11 s).1::t):=by
 match s,h with
 | some (c::r),h =>
  have h:some r=some t:=h
  cases h
  refine ⟨c.toNat_lt,?_⟩
  show some (c::t)=some (UInt8.ofNat c.toNat::t)
  rw [UInt8.ofNat_toNat]
 | some [],h=>cases h
 | none,h=>cases h
def z8k (b:Bool):UInt8:=if b then 1 else 0
theorem zsg (b:Bool) (t:List UInt8):z4o (some (z8k b::t))=(b,some t):=by
 cases b <;> rfl
theorem zwi {s:Lf} {t:List UInt8} (h:(z4o s).2=some t):s=some (z8k (z4o s).1::t):=by
 match s,h with
 | some (c::r),h =>
  unfold z4o at h ⊢
  simp only at h ⊢
  split at h
  ·rename_i h1
   simp only [Option.some.injEq] at h
   subst h
   rw [if_pos h1]
   congr 2
   by_cases h2:c.toNat=1
   ·rw [decide_eq_true h2];exact UInt8.toNat_inj.1 h2
   ·rw [decide_eq_false h2];exact UInt8.toNat_inj.1 (by show c.toNat=0;omega)
  ·cases h
 | some [],h=>cases h
 | none,h=>cases h
theorem z1e (s:ByteArray):(bl s).length=s.size:=rfl
theorem zgo (l:List UInt8):bl ⟨l.toArray⟩=l:=by simp [bl]
theorem zcv {a b:ByteArray} (h:bl a=bl b):a=b:=by
 cases a;cases b;exact congrArg ByteArray.mk (Array.ext' h)
theorem zhq {most:Nat} (x:ByteArray) (h:x.size<=most) (hm:most<4294967296) (t:List UInt8):z1o most (some (uI x.size++(bl x++t)))=(x,some t):=by
 unfold z1o uI
 have e:((x.size:Int)).toNat=x.size:=by omega
 rw [e]
 simp only [z82 (show x.size<18446744073709551616 by omega)]
 rw [if_pos ⟨h,by rw [List.length_append,z1e];omega⟩,<- z1e,List.take_left,List.drop_left]
theorem zki {most:Nat} {s:Lf} {t:List UInt8} (h:(z1o most s).2=some t):(z1o most s).1.size<=most/\s=some (uI (z1o most s).1.size++(bl (z1o most s).1++t)):=by
 unfold z1o at h ⊢
 cases hu:(z0o s).2 with
 | none=>rw [hu] at h;cases h
 | some t' =>
  have h2:=z7p hu
  rw [hu] at h
  simp only at h ⊢
  split at h
  rotate_left
  ·cases h
  rename_i h3
  simp only [Option.some.injEq] at h
  subst h
  rw [if_pos h3]
  have e:(ByteArray.mk (t'.take (z0o s).1).toArray).size=(z0o s).1:=by
   show (t'.take (z0o s).1).length=_
   rw [List.length_take];omega
  refine ⟨by rw [e];exact h3.1,?_⟩
  rw [e,zgo,List.take_append_drop]
  unfold uI
  exact h2.2
theorem z5z {most n:Int} (h0:0<=n) (hn:n<=most) (hm:most<9223372036854775808) (t:List UInt8):z05 most (some (uI n++t))=(n,some t):=by
 unfold z05 uI
 rw [z82 (by omega),if_neg (by simp only;omega)]
 congr 1
 simp only;omega
theorem z6q {most:Int} (hm:0<=most) {s:Lf} {t:List UInt8} (h:(z05 most s).2=some t):(0<=(z05 most s).1/\(z05 most s).1<=most+1)/\((z05 most s).1<=most->s=some (uI (z05 most s).1++t)):=by
 have h2:=z7p (show (z0o s).2=some t from h)
 unfold z05
 simp only
 split
 ·exact ⟨⟨by omega,by omega⟩,λh3=>absurd h3 (by omega)⟩
 ·refine ⟨⟨by omega,by omega⟩,λh3=>?_⟩
  unfold uI
  rw [Int.toNat_natCast]
  exact h2.2
def z0p:List UInt8->List UInt8->Nat
 | a::x,b::y=>if a=b then z0p x y+1 else 0
 | _,_=>0
theorem za6:∀ x y:List UInt8,z0p x y<=x.length/\z0p x y<=y.length
 | [],_=>by simp [z0p]
 | _::_,[]=>by simp [z0p]
 | a::x,b::y=>by
  have:=za6 x y
  unfold z0p
  split <;> simp <;> omega
theorem zep:∀ x y:List UInt8,x.take (z0p x y)=y.take (z0p x y)
 | [],_=>by simp [z0p]
 | _::_,[]=>by simp [z0p]
 | a::x,b::y=>by
  unfold z0p
  split
  ·rename_i h
   rw [List.take_succ_cons,List.take_succ_cons,h,zep x y]
  ·rfl
theorem zcs:∀ {x y:List UInt8} {i:Nat} (h1:i<=x.length) (h2:i<=y.length),x.take i=y.take i->(i=x.length\/i=y.length\/x[i]? ≠ y[i]?)->z0p x y=i
 | [],y,i,h1,h2,_,_=>by simp at h1;simp [z0p,h1]
 | _::_,[],i,h1,h2,_,_=>by simp at h2;simp [z0p,h2]
 | a::x,b::y,0,_,_,_,h=>by
  unfold z0p
  rw [if_neg]
  rintro rfl
  rcases h with h|h|h
  ·simp at h
  ·simp at h
  ·simp at h
 | a::x,b::y,i+1,h1,h2,ht,h=>by
  rw [List.take_succ_cons,List.take_succ_cons,List.cons.injEq] at ht
  unfold z0p
  rw [if_pos ht.1,zcs (by simpa using h1) (by simpa using h2) ht.2]
  rcases h with h|h|h
  ·left;simpa using h
  ·right;left;simpa using h
  ·right;right;simpa using h
def z78 (ahead key:ByteArray):List UInt8:=uI (key.size-z0p (bl ahead) (bl key):Nat)++(bl key).drop (z0p (bl ahead) (bl key))
def z6o (time:Int) (ahead:ByteArray) (r:RecM):List UInt8 :=
 z5y (r.time-time)++(z8k r.gone::(uI (z0p (bl ahead) (bl r.key):Nat)++(z78 ahead r.key++if r.gone then [] else uI r.value.size++bl r.value)))
def z2m (time:Int):ByteArray->List RecM->List UInt8
 | _,[]=>[]
 | ahead,r::rs=>z6o time ahead r++z2m time r.key rs
def z2p (b:BatM):List UInt8 :=
 1::UInt8.ofNat b.kind.toNat::(uI b.base++(uI b.pid++((if b.pid>0 then uI b.epoch++(if z0b b then [] else uI b.seq) else [])++(uI b.time++if z0b b then [] else uI b.rs.length++z2m b.time ⟨#[]⟩ b.rs))))
def BatM.p (b:BatM):BatM:={ b with x:=⟨none,0,0⟩ }
def z5c (ahead:ByteArray) (n:Int) (rest:ByteArray):ByteArray:=ahead.extract 0 n.toNat++rest
def z3k (time:Int) (ahead:ByteArray) (s:Lf):Option RecM × Lf :=
 if (z05 1024 (z4o (z1q (-1099511627776) 1099511627776 s).2).2).1>ahead.size then (none,(z1o 1024 (z05 1024 (z4o (z1q (-1099511627776) 1099511627776 s).2).2).2).2) else
 let a:=z1q (-1099511627776) 1099511627776 s
 let b:=z4o a.2
 let c:=z05 1024 b.2
 let d:=z1o 1024 c.2
 let e:=if b.1 then (⟨#[]⟩,d.2) else z1o 1024 d.2
 if e.2.isSome=true/\(z0p (bl ahead) (bl (z5c ahead c.1 d.1)):Int)=c.1 then (some ⟨z5c ahead c.1 d.1,e.1,b.1,time+a.1⟩,e.2) else (none,e.2)
def z4w (time:Int):Nat->ByteArray->Lf->Option (List RecM × Lf)
 | 0,_,s=>some ([],s)
 | n+1,ahead,s=>match (z3k time ahead s).1 with
  | none=>none
  | some x=>(z4w time n x.key (z3k time ahead s).2).map λq=>(x::q.1,q.2)
theorem zq9 (ahead rest:ByteArray) (n:Int):bl (z5c ahead n rest)=(bl ahead).take n.toNat++bl rest:=by
 unfold z5c bl
 simp [List.extract_eq_take_drop]
theorem zwr (ahead key:ByteArray):z5c ahead (z0p (bl ahead) (bl key):Nat) ⟨((bl key).drop (z0p (bl ahead) (bl key))).toArray⟩=key:=by
 apply zcv
 rw [zq9,zgo,Int.toNat_natCast,zep,List.take_append_drop]
theorem z5m {r:RecM} (h:z1y r=0):r.key.size<=1024/\r.value.size<=1024/\(0<=r.time/\r.time<=1099511627776)/\(r.gone=true->r.value=⟨#[]⟩):=by
 unfold z1y at h
 split at h
 ·cases h
 rename_i h1
 split at h
 ·cases h
 rename_i h2
 refine ⟨by omega,by omega,by omega,λhg=>?_⟩
 apply Decidable.byContradiction
 intro h3
 exact h2 (.inr ⟨hg,zn1.2 h3⟩)
theorem zt9 {time:Int} (ht:0<=time/\time<=1099511627776) {r:RecM} (hr:z1y r=0) (ahead:ByteArray) (t:List UInt8):z3k time ahead (some (z6o time ahead r++t))=(some r,some t):=by
 obtain ⟨h1,h2,h3,h4⟩:=z5m hr
 have hle:=za6 (bl ahead) (bl r.key)
 rw [z1e,z1e] at hle
 have hd:(ByteArray.mk ((bl r.key).drop (z0p (bl ahead) (bl r.key))).toArray).size=r.key.size-z0p (bl ahead) (bl r.key):=by
  show ((bl r.key).drop _).length=_
  rw [List.length_drop,z1e]
 have e0:z6o time ahead r++t=z5y (r.time-time)++(z8k r.gone::(uI (z0p (bl ahead) (bl r.key):Nat)++(uI ((ByteArray.mk ((bl r.key).drop (z0p (bl ahead) (bl r.key))).toArray).size:Nat)++(bl (ByteArray.mk ((bl r.key).drop (z0p (bl ahead) (bl r.key))).toArray)++((if r.gone then [] else uI r.value.size++bl r.value)++t))))):=by
  rw [hd,zgo]
  unfold z6o z78
  simp only [List.append_assoc,List.cons_append]
 rw [e0]
 generalize hZ:(if r.gone then [] else uI r.value.size++bl r.value)++t=Z
 have e1:=zne (lo := -1099511627776) (hi:=1099511627776) (n:=r.time-time) (by omega) (by omega) (by omega)
 have e3:=z5z (most:=1024) (n:=(z0p (bl ahead) (bl r.key):Nat)) (by omega) (by omega) (by omega)
 have e4:=zhq (most:=1024) (ByteArray.mk ((bl r.key).drop (z0p (bl ahead) (bl r.key))).toArray) (by rw [hd];omega) (by omega)
 unfold z3k
 simp only [e1,zsg,e3,e4,zwr]
 rw [if_neg (by omega)]
 have e5:(if r.gone=true then ((⟨#[]⟩:ByteArray),some Z) else z1o 1024 (some Z))=(r.value,some t):=by
  by_cases hg:r.gone=true
  ·rw [if_pos hg] at hZ ⊢
   rw [h4 hg,<- hZ];rfl
  ·rw [if_neg hg] at hZ ⊢
   rw [<- hZ,List.append_assoc]
   exact zhq _ h2 (by omega) t
 rw [e5]
 simp only [Option.isSome_some,true_and]
 rw [if_pos trivial,show time+(r.time-time)=r.time by omega]
theorem zxf {time:Int} {ahead:ByteArray} (hah:ahead.size<=1024) {s:Lf} {r:RecM} (h:(z3k time ahead s).1=some r):∃ t,(z3k time ahead s).2=some t/\s=some (z6o time ahead r++t):=by
 unfold z3k at h ⊢
 split at h
 ·cases h
 rename_i hc
 rw [if_neg hc]
 simp only at h ⊢
 generalize ha:z1q (-1099511627776) 1099511627776 s=a at *
 generalize hb:z4o a.2=b at *
 generalize hcc:z05 1024 b.2=c at *
 generalize hd:z1o 1024 c.2=d at *
 generalize he:(if b.1=true then ((⟨#[]⟩:ByteArray),d.2) else z1o 1024 d.2)=e at *
 split at h
 rotate_left
 ·cases h
 rename_i h5
 rw [if_pos h5]
 obtain ⟨h5,h6⟩:=h5
 obtain ⟨t,ht⟩:=Option.isSome_iff_exists.1 h5
 refine ⟨t,ht,?_⟩
 simp only [Option.some.injEq] at h
 have hd2:d.2=some ((if b.1=true then [] else uI e.1.size++bl e.1)++t):=by
  by_cases hg:b.1=true
  ·rw [if_pos hg] at he ⊢
   rw [<- he] at ht
   exact ht
  ·rw [if_neg hg] at he ⊢
   rw [<- he] at ht ⊢
   rw [List.append_assoc]
   exact (zki ht).2
 rw [<- hd] at hd2
 have h7:=zki hd2
 rw [hd] at h7
 have hc2:c.2=_:=h7.2
 rw [<- hcc] at hc2
 have h8:=z6q (by omega) hc2
 rw [hcc] at h8
 have hle:=za6 (bl ahead) (bl (z5c ahead c.1 d.1))
 have hb2:=h8.2 (by omega)
 rw [<- hb] at hb2
 have ha2:=zwi hb2
 rw [hb,<- ha] at ha2
 have h9:=znw ha2
 rw [ha] at h9
 rw [h9.2,<- h]
 unfold z6o z78
 simp only
 have hn:c.1.toNat=z0p (bl ahead) (bl (z5c ahead c.1 d.1)):=by omega
 have hl1:((bl ahead).take c.1.toNat).length=c.1.toNat:=by rw [List.length_take,hn];omega
 have hdrop:(bl (z5c ahead c.1 d.1)).drop c.1.toNat=bl d.1:=by
  rw [zq9]
  exact List.drop_left' hl1
 have hsz:(z5c ahead c.1 d.1).size-c.1.toNat=d.1.size:=by
  rw [<- z1e,<- z1e,<- hdrop,List.length_drop]
 rw [<- hn,hdrop,hsz,show time+a.1-time=a.1 by omega,show ((c.1.toNat:Nat):Int)=c.1 by omega]
 simp only [List.append_assoc,List.cons_append]
theorem zhj {time:Int} (ht:0<=time/\time<=1099511627776):∀ {rs:List RecM} (hr:∀ r ∈ rs,z1y r=0) (ahead:ByteArray) (t:List UInt8),z4w time rs.length ahead (some (z2m time ahead rs++t))=some (rs,some t)
 | [],_,_,_=>rfl
 | r::rs,hr,ahead,t=>by
  have e:=zt9 ht (hr r (List.mem_cons_self ..)) ahead (z2m time r.key rs++t)
  show z4w time (rs.length+1) ahead (some ((z6o time ahead r++z2m time r.key rs)++t))=_
  rw [List.append_assoc]
  unfold z4w
  rw [e]
  simp only
  rw [zhj ht (λx hx=>hr x (List.mem_cons_of_mem _ hx)) r.key t]
  rfl
theorem zk1 {time:Int}:∀ {n:Nat} {ahead:ByteArray} (hah:ahead.size<=1024) {s:Lf} {rs:List RecM} {t:List UInt8} (hk:∀ r ∈ rs,r.key.size<=1024) (h:z4w time n ahead s=some (rs,some t)),rs.length=n/\s=some (z2m time ahead rs++t)
 | 0,ahead,hah,s,rs,t,hk,h=>by
  simp only [z4w,Option.some.injEq,Prod.mk.injEq] at h
  obtain ⟨rfl,rfl⟩:=h
  exact ⟨rfl,rfl⟩
 | n+1,ahead,hah,s,rs,t,hk,h=>by
  unfold z4w at h
  cases hx:(z3k time ahead s).1 with
  | none=>rw [hx] at h;cases h
  | some x =>
   rw [hx] at h
   simp only [Option.map_eq_some_iff,Prod.mk.injEq] at h
   obtain ⟨⟨rs',s'⟩,h1,rfl,rfl⟩:=h
   obtain ⟨t1,h2,h3⟩:=zxf hah hx
   rw [h2] at h1
   have hk1:x.key.size<=1024:=hk x (List.mem_cons_self ..)
   obtain ⟨h4,h5⟩:=zk1 hk1 (λr hr=>hk r (List.mem_cons_of_mem _ hr)) h1
   simp only [Option.some.injEq] at h5
   refine ⟨by rw [List.length_cons,h4],?_⟩
   rw [h3,h5]
   show some (z6o time ahead x++(z2m time x.key rs'++t))=some ((z6o time ahead x++z2m time x.key rs')++t)
   rw [List.append_assoc]
def z8b:Sl:=⟨none,0,0⟩
structure HdS where
 k:Nat × Lf
 ba:Int × Lf
 pi:Int × Lf
 ep:Int × Lf
 sq:Int × Lf
 tm:Int × Lf
def z3e (k:Nat):Bool:=decide ((k:Int)=2) || decide ((k:Int)=3)
def hdS (s:Lf):HdS :=
 let k:=z11 s
 let ba:=z05 1099511627776 k.2
 let pi:=z05 1048576 ba.2
 let ep:=if pi.1>0 then z05 32767 pi.2 else (0,pi.2)
 let sq:=if pi.1>0/\z3e k.1=false then z05 2147483647 ep.2 else (0,ep.2)
 ⟨k,ba,pi,ep,sq,z05 1099511627776 sq.2⟩
def HdS.b (h:HdS) (rs:List RecM):BatM:=⟨h.ba.1,h.pi.1,h.ep.1,h.sq.1,h.k.1,h.tm.1,z8b,rs⟩
def zle (h:HdS):Option BatM :=
 if h.tm.2.isSome=false\/h.tm.1>1099511627776 then none else
 if z3e h.k.1=true then (if h.tm.2=some []/\zy (h.b [])=0 then some (h.b []) else none) else
 if (z05 64 h.tm.2).1>64 then none else
 match z4w h.tm.1 (z05 64 h.tm.2).1.toNat ⟨#[]⟩ (z05 64 h.tm.2).2 with
 | none=>none
 | some q=>if q.2=some []/\zy (h.b q.1)=0 then some (h.b q.1) else none
def z6a (raw:List UInt8):Option BatM:=if (z11 (some raw)).1≠1 then none else zle (hdS (z11 (some raw)).2)
theorem zla:∀ {rs:List RecM},z54 rs=0->∀ r ∈ rs,z1y r=0
 | [],_,r,h=>by cases h
 | x::rs,h,r,hr=>by
  have h:(if z1y x≠0 then z1y x else z54 rs)=0:=h
  by_cases hx:z1y x≠0
  ·rw [if_pos hx] at h;exact absurd h hx
  rw [if_neg hx] at h
  rcases List.mem_cons.1 hr with rfl|hr
  ·exact Decidable.not_not.1 hx
  ·exact zla h r hr
theorem z2e {b:BatM} (hv:zy b=0):b.rs.length<=64/\∀ r ∈ b.rs,z1y r=0:=by
 unfold zy at hv
 split at hv
 ·cases hv
 split at hv
 ·cases hv
 rename_i h2
 split at hv
 ·rename_i h3;exact absurd hv h3
 rename_i h3
 exact ⟨by omega,zla (Decidable.not_not.1 h3)⟩
theorem zqv {b:BatM} (h:0<=b.kind):z3e b.kind.toNat=z0b b:=by
 unfold z3e z0b
 rw [Int.toNat_of_nonneg h]
theorem zz3 {b:BatM} (hv:zy b=0):∃ s1 s2 s3 s4 s5,hdS (z11 (some (z2p b))).2=⟨(b.kind.toNat,s1),(b.base,s2),(b.pid,s3),(b.epoch,s4),(b.seq,s5),(b.time,some (if z0b b then [] else uI b.rs.length++z2m b.time ⟨#[]⟩ b.rs))⟩:=by
 obtain ⟨-,-,⟨hk,hba,hpi,hep,hsq,htm⟩,hfit,-⟩:=z15 b hv
 unfold z2p
 generalize hY:(if z0b b then [] else uI b.rs.length++z2m b.time ⟨#[]⟩ b.rs)=Y
 have e1:∀ t,z11 (some (UInt8.ofNat b.kind.toNat::t))=(b.kind.toNat,some t):=λt=>by
  show ((UInt8.ofNat b.kind.toNat).toNat,some t)=_
  rw [UInt8.toNat_ofNat']
  congr 1
  omega
 have e2:=z5z (most:=1099511627776) (n:=b.base) hba.1 hba.2 (by omega)
 have e3:=z5z (most:=1048576) (n:=b.pid) hpi.1 hpi.2 (by omega)
 have e4:=z5z (most:=32767) (n:=b.epoch) hep.1 hep.2 (by omega)
 have e5:=z5z (most:=2147483647) (n:=b.seq) hsq.1 hsq.2 (by omega)
 have e6:=z5z (most:=1099511627776) (n:=b.time) htm.1 htm.2 (by omega)
 show ∃ s1 s2 s3 s4 s5,hdS (some (UInt8.ofNat b.kind.toNat::_))=_
 unfold hdS
 simp only [e1,e2,e3,zqv hk.1]
 by_cases hp:b.pid>0
 ·rw [if_pos hp,if_pos hp]
  by_cases hm:z0b b=true
  ·have hs0:b.seq=0:=by have:=hfit.2;rw [if_pos hm] at this;exact this.1
   simp only [hm,if_true,Bool.true_eq_false,and_false,if_false,List.append_nil,List.append_assoc,e4,e6]
   exact ⟨_,_,_,_,_,by rw [hs0]⟩
  ·have hm:z0b b=false:=by simpa using hm
   simp only [hm,hp,Bool.false_eq_true,and_self,if_true,if_false,List.append_assoc,e4,e5,e6]
   exact ⟨_,_,_,_,_,rfl⟩
 ·have h0:b.pid=0:=by omega
  have hz:b.kind=0/\b.epoch=0/\b.seq=0:=by
   have:=hfit.1
   refine ⟨?_,?_,?_⟩ <;> (apply Decidable.byContradiction;intro h;apply this;simp [h0,h])
  rw [if_neg hp,if_neg hp,if_neg (λh=>hp h.1)]
  simp only [List.nil_append,e6]
  exact ⟨_,_,_,_,_,by rw [hz.2.1,hz.2.2]⟩
theorem zj6 {b:BatM} (hv:zy b=0):z6a (z2p b)=some b.p:=by
 obtain ⟨s1,s2,s3,s4,s5,h⟩:=zz3 hv
 obtain ⟨-,-,⟨hk,hba,hpi,hep,hsq,htm⟩,hfit,-⟩:=z15 b hv
 obtain ⟨h64,hrs⟩:=z2e hv
 have hb:∀ rs,(HdS.mk (b.kind.toNat,s1) (b.base,s2) (b.pid,s3) (b.epoch,s4) (b.seq,s5) (b.time,some (if z0b b then [] else uI b.rs.length++z2m b.time ⟨#[]⟩ b.rs))).b rs={ b.p with rs:=rs }:=λrs=>by
  unfold HdS.b BatM.p
  simp only [Int.toNat_of_nonneg hk.1]
  rfl
 unfold z6a
 rw [h,if_neg (by show ¬ ((1:Nat)≠1);simp)]
 unfold zle
 rw [if_neg (by simp only [Option.isSome_some];rintro (h|h);cases h;omega)]
 simp only [hb,zqv hk.1]
 by_cases hm:z0b b=true
 ·have h0:b.rs=[]:=by have:=hfit.2;rw [if_pos hm] at this;exact List.length_eq_zero_iff.1 this.2
  rw [if_pos hm,if_pos hm]
  have e:{ b.p with rs:=[] }=b.p:=by rw [<- h0];rfl
  rw [e,if_pos ⟨rfl,hv⟩]
 ·have e1:=z5z (most:=64) (n:=(b.rs.length:Int)) (by omega) (by omega) (by omega) (z2m b.time ⟨#[]⟩ b.rs)
  have e2:=zhj htm hrs ⟨#[]⟩ []
  rw [List.append_nil] at e2
  rw [if_neg hm,if_neg hm]
  simp only [e1,Int.toNat_natCast,e2]
  rw [if_neg (by omega),if_pos (by first|exact ⟨rfl,hv⟩|exact ⟨trivial,hv⟩)]
  rfl
theorem zqj {s:Lf} {t:List UInt8} (h:(hdS s).tm.2=some t) (htm:(hdS s).tm.1<=1099511627776) {rs:List RecM} (hv:zy ((hdS s).b rs)=0) :
  s=some (UInt8.ofNat ((hdS s).b rs).kind.toNat::(uI ((hdS s).b rs).base++(uI ((hdS s).b rs).pid++((if ((hdS s).b rs).pid>0 then uI ((hdS s).b rs).epoch++(if z0b ((hdS s).b rs) then [] else uI ((hdS s).b rs).seq) else [])++(uI ((hdS s).b rs).time++t))))):=by
 obtain ⟨-,-,⟨hk,hba,hpi,hep,hsq,-⟩,hfit,-⟩:=z15 _ hv
 unfold hdS at *
 unfold HdS.b at *
 simp only at *
 generalize e1:z11 s=k at *
 generalize e2:z05 1099511627776 k.2=ba at *
 generalize e3:z05 1048576 ba.2=pi at *
 generalize e4:(if pi.1>0 then z05 32767 pi.2 else (0,pi.2))=ep at *
 generalize e5:(if pi.1>0/\z3e k.1=false then z05 2147483647 ep.2 else (0,ep.2))=sq at *
 have hmk:z0b (⟨ba.1,pi.1,ep.1,sq.1,k.1,(z05 1099511627776 sq.2).1,z8b,rs⟩:BatM)=z3e k.1:=rfl
 have h6:=(z6q (by omega) h).2 htm
 have h5:ep.2=some ((if pi.1>0/\z3e k.1=false then uI sq.1 else [])++(uI (z05 1099511627776 sq.2).1++t)):=by
  generalize (z05 1099511627776 sq.2).1=tm at *
  by_cases hc:pi.1>0/\z3e k.1=false
  ·rw [if_pos hc] at e5 ⊢
   rw [<- e5] at h6 hsq ⊢
   exact (z6q (by omega) h6).2 hsq.2
  ·rw [if_neg hc] at e5 ⊢
   rw [<- e5] at h6
   exact h6
 generalize (z05 1099511627776 sq.2).1=tm at *
 have h4:pi.2=some ((if pi.1>0 then uI ep.1 else [])++((if pi.1>0/\z3e k.1=false then uI sq.1 else [])++(uI tm++t))):=by
  by_cases hc:pi.1>0
  ·rw [if_pos hc] at e4 ⊢
   rw [<- e4] at h5 hep ⊢
   exact (z6q (by omega) h5).2 hep.2
  ·rw [if_neg hc] at e4 ⊢
   rw [<- e4] at h5
   exact h5
 rw [<- e3] at h4 hpi
 have h3:=(z6q (by omega) h4).2 hpi.2
 rw [e3] at h3
 rw [<- e2] at h3 hba
 have h2:=(z6q (by omega) h3).2 hba.2
 rw [e2] at h2
 rw [<- e1] at h2
 have h1:=(zcx h2).2
 rw [e1] at h1
 have e:(if pi.1>0 then uI ep.1 else [])++((if pi.1>0/\z3e k.1=false then uI sq.1 else [])++(uI tm++t))=(if pi.1>0 then uI ep.1++(if z3e k.1 then [] else uI sq.1) else [])++(uI tm++t):=by
  by_cases hp:pi.1>0
  ·by_cases hm:z3e k.1=true
   ·simp [hp,hm]
   ·simp [hp,hm]
  ·simp [hp]
 rw [h1,hmk,Int.toNat_natCast,e]
theorem zlm {raw:List UInt8} {b:BatM} (h:z6a raw=some b):zy b=0/\z2p b=raw/\b.p=b:=by
 unfold z6a at h
 split at h
 ·cases h
 rename_i h1
 have h1:(z11 (some raw)).1=1:=Decidable.not_not.1 h1
 generalize hs:(z11 (some raw)).2=s at h
 have hraw:∀ t,s=some t->raw=1::t:=λt ht=>by
  rw [<- hs] at ht
  have:=(zcx ht).2
  rw [h1] at this
  exact Option.some.inj this
 unfold zle at h
 split at h
 ·cases h
 rename_i h2
 have h3:(hdS s).tm.2.isSome=true:=by
  cases he:(hdS s).tm.2.isSome with
  | true=>rfl
  | false=>exact absurd (.inl he) h2
 have h4:(hdS s).tm.1<=1099511627776:=by omega
 obtain ⟨t,ht⟩:=Option.isSome_iff_exists.1 h3
 split at h
 ·rename_i hm
  split at h
  rotate_left
  ·cases h
  rename_i h5
  simp only [Option.some.injEq] at h
  subst h
  refine ⟨h5.2,?_,rfl⟩
  have h6:=hraw _ (zqj h5.1 h4 h5.2)
  rw [h6]
  have hm:z0b ((hdS s).b [])=true:=hm
  unfold z2p
  rw [hm]
  rfl
 ·rename_i hm
  split at h
  ·cases h
  rename_i h7
  cases hr:z4w (hdS s).tm.1 (z05 64 (hdS s).tm.2).1.toNat ⟨#[]⟩ (z05 64 (hdS s).tm.2).2 with
  | none=>rw [hr] at h;cases h
  | some q =>
   rw [hr] at h
   simp only at h
   split at h
   rotate_left
   ·cases h
   rename_i h5
   simp only [Option.some.injEq] at h
   subst h
   refine ⟨h5.2,?_,rfl⟩
   obtain ⟨rs,q2⟩:=q
   obtain ⟨rfl,h5⟩:=h5
   have hrs:=(z2e h5).2
   obtain ⟨h8,h9⟩:=zk1 (by decide) (λr hr=>(z5m (hrs r hr)).1) hr
   have h10:=z6q (by omega) h9
   have h11:=h10.2 (by omega)
   have h6:=hraw _ (zqj h11 h4 h5)
   rw [h6]
   have hm:z0b ((hdS s).b rs)≠true:=hm
   unfold z2p
   rw [if_neg hm,if_neg hm]
   have e:((hdS s).b rs).rs.length=(z05 64 (hdS s).tm.2).1:=by
    have h12:=h10.1
    have h13:rs.length=(z05 64 (hdS s).tm.2).1.toNat:=h8
    show ((rs.length:Nat):Int)=_
    rw [h13,Int.toNat_of_nonneg h12.1]
   rw [e,List.append_nil]
   rfl
abbrev polyB:BitVec 32:=0xEDB88320#32
def zyn (s:BitVec 32):BitVec 32:=(s >>> 1) ^^^ (polyB &&& (0#32-(s &&& 1#32)))
def zs6:Nat->BitVec 32->BitVec 32
 | 0,s=>s
 | k+1,s=>zyn (zs6 k s)
def zs5 (s:BitVec 32) (c:UInt8):BitVec 32:=zs6 8 (s ^^^ BitVec.ofNat 32 c.toNat)
def z62 (s:BitVec 32) (bs:List UInt8):BitVec 32:=bs.foldl zs5 s
def zsx (x:BitVec 32) (bs:List UInt8):BitVec 32 := ~~~ (z62 (~~~ x) bs)
def z9z (bs:List UInt8):Nat:=(zsx 0#32 bs).toNat
def z3u (n:Nat):List UInt8:=[UInt8.ofNat n,UInt8.ofNat (n / 256),UInt8.ofNat (n / 65536),UInt8.ofNat (n / 16777216)]
def z0m:List UInt8->Nat
 | a::b::c::d::_=>a.toNat+256*b.toNat+65536*c.toNat+16777216*d.toNat
 | _=>0
def z3c (bs:List UInt8):List UInt8:=z3u bs.length++bs
def z2n (bs:List UInt8):List UInt8:=if bs.length>262144 then [] else z3c bs++z3u (z9z (z3c bs))
def z12 (b:List UInt8):Option (List UInt8 × Nat) :=
 if b.length<8\/z0m b>262144\/z0m b+8>b.length then none else if z0m (b.drop (z0m b+4))=z9z (b.take (z0m b+4)) then some ((b.drop 4).take (z0m b),z0m b+8) else none
theorem zx6 (a b c d:UInt8) (r:List UInt8):z0m (a::b::c::d::r)=a.toNat+256*b.toNat+65536*c.toNat+16777216*d.toNat:=rfl
theorem zmd {n:Nat} (h:n<4294967296) (r:List UInt8):z0m (z3u n++r)=n:=by
 unfold z3u z0m
 simp
 omega
theorem zfw:∀ (b:List UInt8),4<=b.length->z3u (z0m b)=b.take 4/\z0m b<4294967296
 | a::b::c::d::r,_=>by
  have h1:=a.toNat_lt
  have h2:=b.toNat_lt
  have h3:=c.toNat_lt
  have h4:=d.toNat_lt
  rw [zx6]
  refine ⟨?_,by omega⟩
  have e:∀ (x:UInt8) (n:Nat),n % 256=x.toNat->UInt8.ofNat n=x:=λx n h=>by
   apply UInt8.toNat_inj.1
   simp [h]
  unfold z3u
  rw [e a _ (by omega),e b _ (by omega),e c _ (by omega),e d _ (by omega)]
  rfl
theorem z6d (n:Nat):(z3u n).length=4:=rfl
theorem zrl (bs:List UInt8):z9z bs<4294967296:=(zsx 0#32 bs).isLt
theorem z6v {bs:List UInt8} (h:bs.length<=262144) (r:List UInt8):z12 (z2n bs++r)=some (bs,bs.length+8):=by
 have hs:=zrl (z3c bs)
 have hl:(z3c bs).length=bs.length+4:=by unfold z3c;rw [List.length_append,z6d];omega
 have e0:z2n bs++r=z3c bs++(z3u (z9z (z3c bs))++r):=by unfold z2n;rw [if_neg (by omega),List.append_assoc]
 have e1:z0m (z2n bs++r)=bs.length:=by
  rw [e0];unfold z3c;rw [List.append_assoc];exact zmd (by omega) _
 have e2:(z2n bs++r).length=bs.length+8+r.length:=by
  rw [e0,List.length_append,List.length_append,hl,z6d];omega
 unfold z12
 rw [e1,e2,if_neg (by omega),e0,<- hl,List.drop_left,List.take_left,zmd hs,if_pos rfl]
 congr 2
 unfold z3c
 rw [List.append_assoc,show (4:Nat)=(z3u bs.length).length from rfl,List.drop_left,List.take_left]
theorem z6c {b body:List UInt8} {n:Nat} (h:z12 b=some (body,n)):n=body.length+8/\n<=b.length/\body.length<=262144/\b.take n=z2n body:=by
 unfold z12 at h
 split at h
 ·cases h
 rename_i h1
 split at h
 ·rename_i h2
  simp only [Option.some.injEq,Prod.mk.injEq] at h
  obtain ⟨rfl,rfl⟩:=h
  have hbl:((b.drop 4).take (z0m b)).length=z0m b:=by rw [List.length_take,List.length_drop];omega
  refine ⟨by rw [hbl],by omega,by rw [hbl];omega,?_⟩
  have hh:z3c ((b.drop 4).take (z0m b))=b.take (z0m b+4):=by
   unfold z3c
   rw [hbl,(zfw b (by omega)).1,Nat.add_comm,List.take_add]
  unfold z2n
  rw [if_neg (by rw [hbl];omega),hh,<- h2,(zfw (b.drop (z0m b+4)) (by rw [List.length_drop];omega)).1,show z0m b+8=(z0m b+4)+4 from rfl,List.take_add]
 ·cases h
theorem zwh (b:List UInt8):z12 b=if b.length<8\/z0m b>262144\/z0m b+8>b.length then none else if z2n ((b.drop 4).take (z0m b))=b.take (z0m b+8) then some ((b.drop 4).take (z0m b),z0m b+8) else none:=by
 by_cases h1:b.length<8\/z0m b>262144\/z0m b+8>b.length
 ·unfold z12;rw [if_pos h1,if_pos h1]
 rw [if_neg h1]
 by_cases h2:z2n ((b.drop 4).take (z0m b))=b.take (z0m b+8)
 ·rw [if_pos h2]
  have hbl:((b.drop 4).take (z0m b)).length=z0m b:=by rw [List.length_take,List.length_drop];omega
  have h3:=z6v (bs:=(b.drop 4).take (z0m b)) (by rw [hbl];omega) (b.drop (z0m b+8))
  rw [h2,List.take_append_drop,hbl] at h3
  exact h3
 ·rw [if_neg h2]
  cases hf:z12 b with
  | none=>rfl
  | some q =>
   obtain ⟨g1,g2,g3,g4⟩:=z6c (body:=q.1) (n:=q.2) hf
   unfold z12 at hf
   rw [if_neg h1] at hf
   split at hf
   ·simp only [Option.some.injEq] at hf
    subst hf
    exact absurd g4.symm h2
   ·cases hf
def shB (base fin:Int):List UInt8:=83::(uI base++uI fin)
def shL (base fin:Int):List UInt8:=z2n (shB base fin)
def frL (b:BatM):List UInt8:=z2n (z2p b)
structure SegA where
 base:Int
 fin:Int
 bs:List BatM
def SegA.file (s:SegA):List UInt8:=shL s.base s.fin++s.bs.flatMap frL
def z0i (bs:List BatM):Int:=match bs.getLast? with
 | none=>0
 | some b=>b.base+zp b
def SegA.reach (s:SegA):Int:=max (max s.base s.fin) (z0i s.bs)
def z67 (x:Int) (rs:List RecM):Int:=rs.foldl (λt r=>max t r.time) x
def z3d (b:BatM):Int:=if b.rs=[] then b.time else z67 (-1) b.rs
def z1i (x:Int) (bs:List BatM):Int:=bs.foldl (λt b=>max t (z3d b)) x
def zh (l:List SegA):Int:=match l.getLast? with
 | none=>0
 | some s=>s.reach
def z14 (l:List SegA):Int:=match l with
 | []=>0
 | s::_=>s.base
def z1p:Int->List BatM->Prop
 | _,[]=>True
 | n,b::bs=>zy b=0/\b.p=b/\n<=b.base/\z1p (b.base+zp b) bs
structure SegOk (s:SegA):Prop where
 base:0<=s.base/\s.base<=1099511627776
 fin:s.fin=0\/(s.base<s.fin/\s.fin<=1099511627776)
 bs:z1p s.base s.bs
def z0h:Int->List SegA->Prop
 | _,[]=>True
 | n,s::r=>n<=s.base/\SegOk s/\z0h (max s.reach (s.base+1)) r
def z64 (base:Int) (body:List UInt8):Option Int :=
 let a:=z11 (some body)
 let b:=z0o a.2
 let c:=z0o b.2
 if c.2=some []/\a.1=83/\(b.1:Int)=base/\base<=1099511627776/\c.1<=1099511627776/\(c.1=0\/base<c.1) then some c.1 else none
def z2h:Nat->Int->List UInt8->List BatM × Nat
 | 0,_,_=>([],0)
 | k+1,n,raw=>match z12 raw with
  | none=>([],0)
  | some (body,m)=>match z6a body with
   | none=>([],0)
   | some b=>if b.base<n then ([],0) else (b::(z2h k (b.base+zp b) (raw.drop m)).1,m+(z2h k (b.base+zp b) (raw.drop m)).2)
def z4y (base:Int) (raw:List UInt8):Option (SegA × Nat):=match z12 raw with
 | none=>none
 | some (body,m)=>match z64 base body with
  | none=>none
  | some fin=>some (⟨base,fin,(z2h raw.length base (raw.drop m)).1⟩,m+(z2h raw.length base (raw.drop m)).2)
theorem z8e {bs:List UInt8} (h:bs.length<=262144):(z2n bs).length=bs.length+8:=by
 unfold z2n
 rw [if_neg (by omega),List.length_append,z6d]
 show (z3u _++_).length+4=_
 rw [List.length_append,z6d]
 omega
theorem zee (base fin:Int):3<=(shB base fin).length/\(shB base fin).length<=21:=by
 have h1:=z22 base
 have h2:=z22 fin
 unfold shB
 rw [List.length_cons,List.length_append]
 omega
theorem zef (base fin:Int):11<=(shL base fin).length/\(shL base fin).length<=29:=by
 have h:=zee base fin
 unfold shL
 rw [z8e (by omega)]
 omega
theorem z00c {time:Int} {ahead:ByteArray} {r:RecM}:(z6o time ahead r).length<=31+r.key.size+10+r.value.size:=by
 unfold z6o z78
 have h1:=zka (r.time-time)
 have h2:=z22 ((z0p (bl ahead) (bl r.key):Nat):Int)
 have h3:=z22 (((r.key.size-z0p (bl ahead) (bl r.key):Nat)):Int)
 have h4:=z22 (r.value.size:Int)
 have h5:=z1e r.key
 have h6:=z1e r.value
 simp only [List.length_append,List.length_cons,List.length_drop]
 split
 ·simp only [List.length_nil];omega
 ·simp only [List.length_append];omega
theorem zdm {time:Int} {n:Nat}:∀ {rs:List RecM} {ahead:ByteArray},(∀ r ∈ rs,r.key.size+r.value.size<=n)->(z2m time ahead rs).length<=rs.length*(41+n)
 | [],_,_=>by simp [z2m]
 | r::rs,ahead,h=>by
  have h1:=z00c (time:=time) (ahead:=ahead) (r:=r)
  have h2:=zdm (time:=time) (n:=n) (rs:=rs) (ahead:=r.key) λx hx=>h x (List.mem_cons_of_mem _ hx)
  have h3:=h r (List.mem_cons_self ..)
  unfold z2m
  rw [List.length_append,List.length_cons,Nat.add_mul]
  omega
theorem zq7 {b:BatM} {n:Nat} (h:∀ r ∈ b.rs,r.key.size+r.value.size<=n):2<=(z2p b).length/\(z2p b).length<=62+b.rs.length*(41+n):=by
 have h1:=z22 b.base
 have h2:=z22 b.pid
 have h3:=z22 b.epoch
 have h4:=z22 b.seq
 have h5:=z22 b.time
 have h6:=z22 (b.rs.length:Nat)
 have h7:=zdm (time:=b.time) (ahead:=⟨#[]⟩) h
 unfold z2p
 simp only [List.length_cons,List.length_append]
 split <;> split <;> simp only [List.length_nil,List.length_append] <;> omega
theorem z68 {b:BatM} (hv:zy b=0):2<=(z2p b).length/\(z2p b).length<=262144:=by
 obtain ⟨h64,hrs⟩:=z2e hv
 have h:=zq7 (b:=b) (n:=2048) λr hr=>by
  obtain ⟨h1,h2,-⟩:=z5m (hrs r hr)
  omega
 have:b.rs.length*(41+2048)<=64*(41+2048):=Nat.mul_le_mul_right _ h64
 omega
theorem z5b {b:BatM} (hv:zy b=0):10<=(frL b).length/\(frL b).length=(z2p b).length+8:=by
 have h:=z68 hv
 unfold frL
 rw [z8e h.2]
 omega
theorem zsl {base fin:Int} (hb:0<=base/\base<=1099511627776) (hf:fin=0\/(base<fin/\fin<=1099511627776)):z64 base (shB base fin)=some fin:=by
 unfold z64 shB
 have e1:z11 (some (83::(uI base++uI fin)))=(83,some (uI base++uI fin)):=rfl
 have e2:z0o (some (uI base++uI fin))=(base.toNat,some (uI fin)):=z82 (by omega) _
 have e3:z0o (some (uI fin))=(fin.toNat,some []):=by
  have:=z82 (v:=fin.toNat) (by omega) []
  rwa [List.append_nil] at this
 simp only [e1,e2,e3]
 rw [if_pos ⟨trivial,trivial,by omega,by omega,by omega,by omega⟩]
 congr 1
 omega
theorem zjj {base fin:Int} {body:List UInt8} (h:z64 base body=some fin):(0<=base/\base<=1099511627776)/\(fin=0\/(base<fin/\fin<=1099511627776))/\body=shB base fin:=by
 unfold z64 at h
 simp only at h
 split at h
 rotate_left
 ·cases h
 rename_i hc
 obtain ⟨h1,h2,h3,h4,h5,h6⟩:=hc
 simp only [Option.some.injEq] at h
 have i1:=z7p h1
 have i2:=z7p i1.2
 have i3:=zcx i2.2
 refine ⟨by omega,by omega,?_⟩
 have e:=i3.2
 rw [h2] at e
 simp only [Option.some.injEq] at e
 rw [e]
 unfold shB uI
 have e1:base.toNat=(z0o (z11 (some body)).2).1:=by omega
 have e2:fin.toNat=(z0o (z0o (z11 (some body)).2).2).1:=by omega
 rw [e1,e2,List.append_nil]
 rfl
theorem z1p.mono {m n:Int} {bs:List BatM} (h:z1p n bs) (hm:m<=n):z1p m bs:=by
 cases bs with
 | nil=>trivial
 | cons b bs=>exact ⟨h.1,h.2.1,by have:=h.2.2.1;omega,h.2.2.2⟩
theorem z1p.valid:∀ {n:Int} {bs:List BatM},z1p n bs->∀ b ∈ bs,zy b=0/\b.p=b
 | _,b::bs,h,x,hx=>by
  rcases List.mem_cons.1 hx with rfl|hx
  ·exact ⟨h.1,h.2.1⟩
  ·exact h.2.2.2.valid x hx
theorem zjf:z12 []=none:=by
 rw [zwh,if_pos (by simp)]
theorem zez {bs r:List UInt8} (h:bs.length<=262144) {k:Nat} (hk:k<bs.length+8):z12 ((z2n bs++r).take k)=none:=by
 cases hf:z12 ((z2n bs++r).take k) with
 | none=>rfl
 | some q =>
  exfalso
  obtain ⟨body,n⟩:=q
  obtain ⟨h1,h2,h3,h4⟩:=z6c hf
  rw [List.length_take] at h2
  have e1:((z2n bs++r).take k).take n=(z2n bs++r).take n:=by rw [List.take_take,Nat.min_eq_left (by omega)]
  rw [e1] at h4
  have e2:=z6v h3 ((z2n bs++r).drop n)
  rw [<- h4,List.take_append_drop,z6v h] at e2
  simp only [Option.some.injEq,Prod.mk.injEq] at e2
  omega
theorem zhp:∀ {bs:List BatM} {n:Int} {k:Nat} {rest:List UInt8},z1p n bs->bs.length<=k->z12 rest=none->z2h k n (bs.flatMap frL++rest)=(bs,(bs.flatMap frL).length)
 | [],n,0,rest,_,_,_=>rfl
 | [],n,k+1,rest,_,_,hr=>by
  unfold z2h
  rw [List.flatMap_nil,List.nil_append,hr]
  rfl
 | b::bs,n,0,rest,_,hk,_=>by simp at hk
 | b::bs,n,k+1,rest,⟨hv,hp,hn,ho⟩,hk,hr=>by
  have hl:=z68 hv
  have hf:=z5b hv
  unfold z2h
  rw [List.flatMap_cons,List.append_assoc]
  have e:z12 (frL b++(bs.flatMap frL++rest))=some (z2p b,(z2p b).length+8):=z6v hl.2 _
  rw [e]
  simp only
  rw [zj6 hv]
  simp only
  rw [hp,if_neg (by omega),<- hf.2,List.drop_left,zhp ho (by simpa using hk) hr,List.length_append]
theorem zkg:∀ {k:Nat} {n:Int} {raw:List UInt8},z1p n (z2h k n raw).1/\raw.take (z2h k n raw).2=(z2h k n raw).1.flatMap frL/\(z2h k n raw).2<=raw.length
 | 0,n,raw=>⟨trivial,by simp [z2h],Nat.zero_le _⟩
 | k+1,n,raw=>by
  unfold z2h
  cases hf:z12 raw with
  | none=>exact ⟨trivial,by simp,Nat.zero_le _⟩
  | some q =>
   obtain ⟨body,m⟩:=q
   simp only
   cases hd:z6a body with
   | none=>exact ⟨trivial,by simp,Nat.zero_le _⟩
   | some b =>
    simp only
    by_cases hb:b.base<n
    ·rw [if_pos hb];exact ⟨trivial,by simp,Nat.zero_le _⟩
    rw [if_neg hb]
    obtain ⟨i1,i2,i3⟩:=zkg (k:=k) (n:=b.base+zp b) (raw:=raw.drop m)
    obtain ⟨d1,d2,d3⟩:=zlm hd
    obtain ⟨f1,f2,f3,f4⟩:=z6c hf
    rw [List.length_drop] at i3
    refine ⟨⟨d1,d3,by omega,i1⟩,?_,by simp only;omega⟩
    simp only
    rw [List.take_add,f4,i2,List.flatMap_cons,<- d2]
    rfl
theorem z9l:∀ {n:Int} {bs:List BatM},z1p n bs->bs.length*10<=(bs.flatMap frL).length
 | _,[],_=>by simp
 | _,b::bs,⟨h1,_,_,h⟩=>by
  have:=z9l h
  have:=z5b h1
  rw [List.flatMap_cons,List.length_append,List.length_cons]
  omega
theorem z2r (s:SegA):s.file.length=(shL s.base s.fin).length+(s.bs.flatMap frL).length:=by
 unfold SegA.file
 rw [List.length_append]
theorem zk7 {s:SegA} (h:SegOk s) {rest:List UInt8} (hr:z12 rest=none):z4y s.base (s.file++rest)=some (s,s.file.length):=by
 have hl:=zee s.base s.fin
 unfold z4y
 have e0:s.file++rest=z2n (shB s.base s.fin)++(s.bs.flatMap frL++rest):=by
  unfold SegA.file shL
  rw [List.append_assoc]
 have e:z12 (s.file++rest)=some (shB s.base s.fin,(shB s.base s.fin).length+8):=by
  rw [e0]
  exact z6v (by omega) _
 rw [e]
 simp only
 rw [zsl h.base h.fin]
 simp only
 have e2:(s.file++rest).drop ((shB s.base s.fin).length+8)=s.bs.flatMap frL++rest:=by
  rw [e0,<- z8e (show (shB s.base s.fin).length<=262144 by omega),List.drop_left]
 have e3:s.bs.length<=(s.file++rest).length:=by
  have:=z9l h.bs
  rw [List.length_append,z2r]
  omega
 rw [e2,zhp h.bs e3 hr,z2r]
 unfold shL
 rw [z8e (by omega)]
theorem zk6 {s:SegA} (h:SegOk s):z4y s.base s.file=some (s,s.file.length):=by
 have:=zk7 h zjf
 rwa [List.append_nil] at this
theorem zn0 {base:Int} {raw:List UInt8} {s:SegA} {m:Nat} (h:z4y base raw=some (s,m)):SegOk s/\s.base=base/\raw.take m=s.file/\m<=raw.length/\m=s.file.length:=by
 unfold z4y at h
 cases hf:z12 raw with
 | none=>rw [hf] at h;cases h
 | some q =>
  obtain ⟨body,k⟩:=q
  rw [hf] at h
  simp only at h
  cases hh:z64 base body with
  | none=>rw [hh] at h;cases h
  | some fin =>
   rw [hh] at h
   simp only [Option.some.injEq,Prod.mk.injEq] at h
   obtain ⟨rfl,rfl⟩:=h
   obtain ⟨h1,h2,h3⟩:=zjj hh
   obtain ⟨i1,i2,i3⟩:=zkg (k:=raw.length) (n:=base) (raw:=raw.drop k)
   obtain ⟨f1,f2,f3,f4⟩:=z6c hf
   rw [List.length_drop] at i3
   have e:raw.take (k+(z2h raw.length base (raw.drop k)).2)=SegA.file ⟨base,fin,(z2h raw.length base (raw.drop k)).1⟩:=by
    rw [List.take_add,f4,i2,h3]
    rfl
   refine ⟨⟨h1,h2,i1⟩,rfl,e,by omega,?_⟩
   rw [<- e,List.length_take]
   omega
theorem z1p.take:∀ {n:Int} {bs:List BatM} (k:Nat),z1p n bs->z1p n (bs.take k)
 | _,[],k,_=>by simp [z1p]
 | _,b::bs,0,_=>trivial
 | _,b::bs,k+1,⟨h1,h2,h3,h4⟩=>⟨h1,h2,h3,h4.take k⟩
theorem zlt:∀ {n:Int} {bs:List BatM} (k:Nat),z1p n bs->∃ j rest,j<=bs.length/\(bs.flatMap frL).take k=(bs.take j).flatMap frL++rest/\z12 rest=none/\∀ m,m<=bs.length->((bs.take m).flatMap frL).length<=k->m<=j
 | _,[],k,_=>⟨0,[],by simp,by simp,zjf,λm hm _=>hm⟩
 | n,b::bs,k,⟨h1,h2,h3,h4⟩=>by
  have hl:=z68 h1
  have hf:=z5b h1
  by_cases hk:k<(frL b).length
  ·refine ⟨0,(frL b++bs.flatMap frL).take k,by omega,by simp,zez hl.2 (by omega),λm hm h=>?_⟩
   cases m with
   | zero=>omega
   | succ m =>
    rw [List.take_succ_cons,List.flatMap_cons,List.length_append] at h
    omega
  ·obtain ⟨j,rest,i1,i2,i3,i4⟩:=zlt (k-(frL b).length) h4
   refine ⟨j+1,rest,by simp;omega,?_,i3,λm hm h=>?_⟩
   ·rw [List.flatMap_cons,List.take_append,List.take_of_length_le (by omega),i2,List.take_succ_cons,List.flatMap_cons,List.append_assoc]
   ·cases m with
    | zero=>omega
    | succ m =>
     rw [List.take_succ_cons,List.flatMap_cons,List.length_append] at h
     have:=i4 m (by simpa using hm) (by omega)
     omega
def SegA.cut (s:SegA) (j:Nat):SegA:=⟨s.base,s.fin,s.bs.take j⟩
theorem SegOk.cut {s:SegA} (h:SegOk s) (j:Nat):SegOk (s.cut j):=⟨h.base,h.fin,h.bs.take j⟩
theorem z00j {s:SegA} (h:SegOk s) (k:Nat):(k<(shL s.base s.fin).length/\z4y s.base (s.file.take k)=none) \/
  ∃ j,j<=s.bs.length/\(s.cut j).file.length<=k/\z4y s.base (s.file.take k)=some (s.cut j,(s.cut j).file.length)/\∀ m,m<=s.bs.length->(s.cut m).file.length<=k->m<=j:=by
 have hl:=zee s.base s.fin
 have hsl:(shL s.base s.fin).length=(shB s.base s.fin).length+8:=z8e (by omega)
 by_cases hk:k<(shL s.base s.fin).length
 ·left
  refine ⟨hk,?_⟩
  unfold z4y
  have e:z12 (s.file.take k)=none:=zez (by omega) (by omega)
  rw [e]
 ·right
  obtain ⟨j,rest,i1,i2,i3,i4⟩:=zlt (k-(shL s.base s.fin).length) h.bs
  have e:s.file.take k=(s.cut j).file++rest:=by
   unfold SegA.file SegA.cut
   rw [List.take_append,List.take_of_length_le (by omega),i2,List.append_assoc]
  refine ⟨j,i1,?_,by rw [e];exact zk7 (h.cut j) i3,λm hm h2=>i4 m hm ?_⟩
  ·have:=congrArg List.length e
   rw [List.length_take,List.length_append] at this
   omega
  ·rw [z2r] at h2
   have:(s.cut m).bs=s.bs.take m:=rfl
   rw [this] at h2
   have:(shL (s.cut m).base (s.cut m).fin).length=(shL s.base s.fin).length:=rfl
   omega
theorem z20 {α:Type} (l:List α) (x:α):(l++[x]).getLast? = some x:=by simp
theorem z3x (bs:List BatM) (b:BatM):z0i (bs++[b])=b.base+zp b:=by
 unfold z0i
 rw [z20]
theorem zh6 (x:Int) (bs:List BatM) (b:BatM):z1i x (bs++[b])=max (z1i x bs) (z3d b):=by
 unfold z1i
 rw [List.foldl_append]
 rfl
theorem z1p.next:∀ {n:Int} {bs:List BatM},0<=n->z1p n bs->(bs≠[]->n<z0i bs)/\(bs=[]->z0i bs=0)/\z0i bs<=1099511627777
 | _,[],_,_=>⟨λh=>absurd rfl h,λ_=>rfl,by decide⟩
 | n,b::bs,hn,⟨h1,h2,h3,h4⟩=>by
  obtain ⟨s1,-,⟨-,hba,-⟩,-,s2⟩:=z15 b h1
  obtain ⟨i1,i2,i3⟩:=h4.next (by omega)
  by_cases hb:bs=[]
  ·subst hb
   have e:z0i [b]=b.base+zp b:=z3x [] b
   rw [e]
   exact ⟨λ_=>by omega,(λh=>by cases h),by omega⟩
  ·have e:z0i (b::bs)=z0i bs:=by
    unfold z0i
    cases bs with
    | nil=>exact absurd rfl hb
    | cons c cs=>rfl
   rw [e]
   have:=i1 hb
   exact ⟨λ_=>by omega,(λh=>by cases h),i3⟩
theorem z1p.snoc:∀ {n:Int} {bs:List BatM} {b:BatM},0<=n->z1p n bs->zy b=0->b.p=b->n<=b.base->z0i bs<=b.base->z1p n (bs++[b])
 | n,[],b,_,_,hv,hp,hn,_=>⟨hv,hp,hn,trivial⟩
 | n,a::bs,b,h0,⟨h1,h2,h3,h4⟩,hv,hp,hn,hx=>by
  obtain ⟨s1,-,⟨-,hba,-⟩,-,s2⟩:=z15 a h1
  refine ⟨h1,h2,h3,?_⟩
  have i:=h4.next (by omega)
  by_cases hb:bs=[]
  ·subst hb
   have e:z0i [a]=a.base+zp a:=z3x [] a
   exact z1p.snoc (by omega) h4 hv hp (by omega) (by rw [i.2.1 rfl];omega)
  ·have e:z0i (a::bs)=z0i bs:=by
    unfold z0i
    cases bs with
    | nil=>exact absurd rfl hb
    | cons c cs=>rfl
   rw [e] at hx
   have:=i.1 hb
   exact z1p.snoc (by omega) h4 hv hp (by omega) hx
theorem z5v {s:SegA} (h:SegOk s):s.base<=s.reach/\s.fin<=s.reach/\z0i s.bs<=s.reach/\s.reach<=1099511627777/\(s.bs≠[]->s.base<z0i s.bs):=by
 obtain ⟨i1,i2,i3⟩:=h.bs.next h.base.1
 have h1:=h.base
 have h2:=h.fin
 unfold SegA.reach
 refine ⟨by omega,by omega,by omega,by omega,i1⟩
structure EntA where
 offset:Int
 place:Int
 before:Int
structure IdxA where
 offset:Int
 place:Int
 late:Int
 gap:Int
 l:List EntA
def zda (gap:Int):IdxA:=⟨-1,-1,-1,gap,[]⟩
def zc2 (o p t:Int):Prop:=(0<=o/\o<=1099511627776)/\(0<=p/\p<=4194304)/\(0<=t/\t<=1099511627776)
instance (o p t:Int):Decidable (zc2 o p t):=by unfold zc2;infer_instance
def zzn (x:IdxA) (p:Int):Bool:=match x.l.getLast? with
 | none=>true
 | some e=>decide (p-e.place>=x.gap)
def z4u (x:IdxA) (o p:Int):List EntA:=if zzn x p then x.l++[⟨o,p,x.late⟩] else x.l
def zai (x:IdxA) (o p t:Int):Int × IdxA:=if ¬ zc2 o p t then (2,x) else if o<=x.offset\/p<=x.place then (21,x) else (0,⟨o,p,max x.late t,x.gap,z4u x o p⟩)
def zbw:IdxA->Int->List BatM->IdxA
 | x,_,[]=>x
 | x,q,b::bs=>zbw (zai x b.base q (z3d b)).2 (q+(frL b).length) bs
def SegA.idx (gap:Int) (s:SegA):IdxA:=zbw (zda gap) (shL s.base s.fin).length s.bs
def z3b (l:List EntA) (o:Int):Option EntA:=(l.filter λe=>decide (e.offset<=o)).getLast?
theorem zdb:∀ (bs:List BatM) (x:IdxA) (q:Int) (b:BatM),zbw x q (bs++[b])=(zai (zbw x q bs) b.base (q+(bs.flatMap frL).length) (z3d b)).2
 | [],x,q,b=>by simp [zbw]
 | a::bs,x,q,b=>by
  show zbw (zai x a.base q (z3d a)).2 (q+(frL a).length) (bs++[b])=_
  rw [zdb bs]
  rw [show q+((frL a).length:Int)+((bs.flatMap frL).length:Nat)=q+(((a::bs).flatMap frL).length:Nat) by rw [List.flatMap_cons,List.length_append];omega]
  rfl
theorem zna:∀ {rs:List RecM} {x:Int},x<=z67 x rs/\∀ r ∈ rs,r.time<=z67 x rs
 | [],x=>⟨Int.le_refl _,λ_ h=>by cases h⟩
 | r::rs,x=>by
  have h:=zna (rs:=rs) (x:=max x r.time)
  have e:z67 x (r::rs)=z67 (max x r.time) rs:=rfl
  rw [e]
  refine ⟨by omega,λy hy=>?_⟩
  rcases List.mem_cons.1 hy with rfl|hy
  ·omega
  ·exact h.2 y hy
theorem zkj:∀ {rs:List RecM} {x m:Int},x<=m->(∀ r ∈ rs,r.time<=m)->z67 x rs<=m
 | [],x,m,h,_=>h
 | r::rs,x,m,h,hr=>by
  have e:z67 x (r::rs)=z67 (max x r.time) rs:=rfl
  rw [e]
  have:=hr r (List.mem_cons_self ..)
  exact zkj (by omega) λy hy=>hr y (List.mem_cons_of_mem _ hy)
theorem zzd {b:BatM} (h:zy b=0):0<=z3d b/\z3d b<=1099511627776:=by
 obtain ⟨-,-,⟨-,-,-,-,-,htm⟩,-,-⟩:=z15 b h
 obtain ⟨-,hrs⟩:=z2e h
 unfold z3d
 split
 ·exact htm
 ·rename_i hne
  obtain ⟨r,hr⟩:=List.exists_mem_of_ne_nil _ hne
  have h1:=(zna (rs:=b.rs) (x := -1)).2 r hr
  have h2:=(z5m (hrs r hr)).2.2.1
  refine ⟨by omega,zkj (by omega) λr hr=>(z5m (hrs r hr)).2.2.1.2⟩
theorem zg3:∀ {bs:List BatM} {x:Int},x<=z1i x bs/\∀ b ∈ bs,z3d b<=z1i x bs
 | [],x=>⟨Int.le_refl _,λ_ h=>by cases h⟩
 | r::rs,x=>by
  have h:=zg3 (bs:=rs) (x:=max x (z3d r))
  have e:z1i x (r::rs)=z1i (max x (z3d r)) rs:=rfl
  rw [e]
  refine ⟨by omega,λy hy=>?_⟩
  rcases List.mem_cons.1 hy with rfl|hy
  ·omega
  ·exact h.2 y hy
theorem zjq:∀ {bs:List BatM} {x m:Int},x<=m->(∀ b ∈ bs,z3d b<=m)->z1i x bs<=m
 | [],x,m,h,_=>h
 | r::rs,x,m,h,hr=>by
  have e:z1i x (r::rs)=z1i (max x (z3d r)) rs:=rfl
  rw [e]
  have:=hr r (List.mem_cons_self ..)
  exact zjq (by omega) λy hy=>hr y (List.mem_cons_of_mem _ hy)
theorem zsq {x:Int} (bs:List BatM) (i:Nat):z1i x (bs.take i)<=z1i x bs :=
 zjq zg3.1 λb hb=>zg3.2 b (List.mem_of_mem_take hb)
structure IdxOk (gap q:Int) (bs:List BatM) (x:IdxA):Prop where
 gap:x.gap=gap
 late:x.late=z1i (-1) bs
 offset:x.offset=match bs.getLast? with|none => -1|some b=>b.base
 place:x.place<q+(bs.flatMap frL).length
 lplace:∀ e ∈ x.l,e.place<=x.place
 ent:∀ e ∈ x.l,∃ i,∃ hi:i<bs.length,e=⟨bs[i].base,q+((bs.take i).flatMap frL).length,z1i (-1) (bs.take i)⟩
 first:∀ b,bs.head? = some b->x.l.head? = some ⟨b.base,q,-1⟩
 offs:x.l.Pairwise λa b=>a.offset<b.offset
 befs:x.l.Pairwise λa b=>a.before<=b.before
theorem zad {n:Int} {bs:List BatM} {b:BatM} (h:z1p n (bs++[b])) (h0:0<=n):zy b=0/\n<=b.base/\(∀ c,bs.getLast? = some c->c.base<b.base)/\z1p n bs/\z0i bs<=b.base:=by
 induction bs generalizing n with
 | nil=>exact ⟨h.1,h.2.2.1,by simp,trivial,by have:=h.2.2.1;show (0:Int)<=_;omega⟩
 | cons a bs ih =>
  obtain ⟨h1,h2,h3,h4⟩:=h
  obtain ⟨s1,-,⟨-,hba,-⟩,-,s2⟩:=z15 a h1
  obtain ⟨i1,i2,i3,i4,i5⟩:=ih h4 (by omega)
  refine ⟨i1,by omega,λc hc=>?_,⟨h1,h2,h3,i4⟩,?_⟩
  ·cases bs with
   | nil=>simp at hc;subst hc;omega
   | cons d ds=>exact i3 c (by simpa using hc)
  ·cases bs with
   | nil=>show a.base+zp a<=_;omega
   | cons d ds=>exact i5
theorem zlz (gap:Int):∀ (m:Nat) {n q:Int} {bs:List BatM},bs.length=m->0<=n->0<=q->z1p n bs->q+(bs.flatMap frL).length<=4194304->IdxOk gap q bs (zbw (zda gap) q bs)
 | 0,n,q,bs,hm,_,hq,_,_=>by
  have:bs=[]:=List.length_eq_zero_iff.1 hm
  subst this
  exact ⟨rfl,rfl,rfl,by show (-1:Int)<_;simp;omega,(λ_ h=>by cases h),(λ_ h=>by cases h),(λ_ h=>by cases h),.nil,.nil⟩
 | m+1,n,q,bs,hm,hn,hq,hb,hl=>by
  have hne:bs≠[]:=by rintro rfl;cases hm
  obtain ⟨bs,b,rfl⟩:∃ cs b,bs=cs++[b]:=⟨bs.dropLast,bs.getLast hne,(List.dropLast_concat_getLast hne).symm⟩
  rw [List.length_append] at hm
  obtain ⟨hv,hnb,hlb,hb',-⟩:=zad hb hn
  have hfl:=z5b hv
  have hfl2:((bs++[b]).flatMap frL).length=(bs.flatMap frL).length+(frL b).length:=by simp
  have ih:=zlz gap m (by simpa using hm) hn hq hb' (by omega)
  have hlt:=zzd hv
  obtain ⟨-,-,⟨-,hba,-⟩,-,-⟩:=z15 b hv
  rw [zdb]
  generalize hx:zbw (zda gap) q bs=x at ih
  have hoff:x.offset<b.base:=by
   rw [ih.offset]
   cases hc:bs.getLast? with
   | none=>show (-1:Int)<_;omega
   | some c=>exact hlb c hc
  unfold zai
  rw [if_neg (by intro h;apply h;exact ⟨by omega,by omega,by omega⟩),if_neg (by have:=ih.place;omega)]
  have hw:∀ (i:Nat) (hi:i<bs.length),(bs++[b])[i]'(by rw [List.length_append];omega)=bs[i]/\(bs++[b]).take i=bs.take i:=λi hi=>⟨List.getElem_append_left hi,by rw [List.take_append_of_le_length (by omega)]⟩
  have hmem:∀ e ∈ z4u x b.base (q+(bs.flatMap frL).length),e ∈ x.l\/e=⟨b.base,q+(bs.flatMap frL).length,x.late⟩:=λe he=>by
   unfold z4u at he
   split at he
   ·rcases List.mem_append.1 he with he|he
    ·exact .inl he
    ·exact .inr (by simpa using he)
   ·exact .inl he
  have hent:∀ e ∈ x.l,e.offset<b.base/\e.before<=x.late:=λe he=>by
   obtain ⟨i,hi,rfl⟩:=ih.ent e he
   refine ⟨?_,by rw [ih.late];exact zsq bs i⟩
   have hlast:∀ {n:Int} {bs:List BatM},z1p n bs->0<=n->∀ (i:Nat) (hi:i<bs.length),bs[i].base<z0i bs:=by
    intro n bs hbs hn i hi
    have h1:z1p n (bs.take i++[bs[i]]):=by
     have:=hbs.take (i+1)
     rwa [List.take_succ_eq_append_getElem hi] at this
    have h2:=zad h1 hn
    have h3:∀ {n:Int} {ds cs:List BatM},z1p n (ds++cs)->0<=n->z0i ds<=z0i (ds++cs):=by
     intro n ds cs h hn
     induction cs generalizing ds with
     | nil=>rw [List.append_nil];exact Int.le_refl _
     | cons c cs ih =>
      have h':z1p n ((ds++[c])++cs):=by rwa [List.append_assoc]
      have i1:=ih h'
      rw [List.append_assoc] at i1
      have h4:z1p n (ds++[c]):=by
       have:=h'.take (ds++[c]).length
       rwa [List.take_left] at this
      have h5:=zad h4 hn
      obtain ⟨s1,-,-,-,-⟩:=z15 c h5.1
      have e:z0i (ds++[c])=c.base+zp c:=z3x ds c
      have i1:z0i (ds++[c])<=z0i (ds++(c::cs)):=i1
      have:=h5.2.2.2.2
      omega
    have h6:=h3 (ds:=bs.take i++[bs[i]]) (cs:=bs.drop (i+1)) (by rw [<- List.take_succ_eq_append_getElem hi,List.take_append_drop];exact hbs) hn
    rw [<- List.take_succ_eq_append_getElem hi,List.take_append_drop,List.take_succ_eq_append_getElem hi,z3x] at h6
    obtain ⟨s1,-,-,-,-⟩:=z15 _ h2.1
    omega
   have h7:=hlast hb' hn i hi
   have h8:=(zad hb hn).2.2.2.2
   show bs[i].base<b.base
   omega
  refine ⟨ih.gap,?_,by rw [z20],?_,?_,?_,?_,?_,?_⟩
  ·rw [zh6,<- ih.late]
  ·show q+((bs.flatMap frL).length:Int)<_
   omega
  ·intro e he
   show e.place<=q+((bs.flatMap frL).length:Int)
   rcases hmem e he with he|rfl
   ·have:=ih.lplace e he
    have:=ih.place
    omega
   ·exact Int.le_refl _
  ·intro e he
   rcases hmem e he with he|rfl
   ·obtain ⟨i,hi,rfl⟩:=ih.ent e he
    obtain ⟨h1,h2⟩:=hw i hi
    exact ⟨i,by rw [List.length_append];omega,by rw [h1,h2]⟩
   ·refine ⟨bs.length,by simp,?_⟩
    rw [List.getElem_append_right (Nat.le_refl _),List.take_left,ih.late]
    simp
  ·intro a ha
   show (z4u x b.base (q+(bs.flatMap frL).length)).head? = _
   cases bs with
   | nil =>
    simp at ha
    subst ha
    subst hx
    show some (⟨b.base,q+((([]:List BatM).flatMap frL).length:Int),-1⟩:EntA)=_
    congr 2
    simp
   | cons c cs =>
    have h1:=ih.first a (by simpa using ha)
    unfold z4u
    split
    ·rw [List.head?_append,h1];rfl
    ·exact h1
  ·show (z4u x b.base _).Pairwise _
   unfold z4u
   split
   ·refine List.pairwise_append.2 ⟨ih.offs,by simp,λa ha c hc=>?_⟩
    simp at hc
    subst hc
    exact (hent a ha).1
   ·exact ih.offs
  ·show (z4u x b.base _).Pairwise _
   unfold z4u
   split
   ·refine List.pairwise_append.2 ⟨ih.befs,by simp,λa ha c hc=>?_⟩
    simp at hc
    subst hc
    exact (hent a ha).2
   ·exact ih.befs
theorem zse {α:Type} {p:α->Bool} {l:List α} {i:Nat} (hi:i<=l.length) (h1:∀ x ∈ l.take i,p x=true) (h2:∀ x ∈ l.drop i,p x=false):l.filter p=l.take i:=by
 rw [<- List.take_append_drop i l,List.filter_append,List.filter_eq_self.2 h1,List.filter_eq_nil_iff.2 λx hx=>by rw [h2 x hx];simp,List.append_nil]
 rw [List.take_append_drop]
theorem zhm {α:Type} {p:α->Bool} {l:List α} {i:Nat} (hi:i<=l.length) (hm:l.Pairwise λa b=>p b=true->p a=true) (h1:∀ (h:i-1<l.length),0<i->p l[i-1]=true) (h2:∀ h:i<l.length,p l[i]=false):l.filter p=l.take i:=by
 have hm':∀ (a b:Nat) (hb:b<l.length) (h:a<b),p l[b]=true->p (l[a]'(by omega))=true:=λa b hb h=>List.pairwise_iff_getElem.1 hm a b (by omega) hb h
 refine zse hi (λx hx=>?_) λx hx=>?_
 ·obtain ⟨j,hj,rfl⟩:=List.mem_iff_getElem.1 hx
  rw [List.length_take] at hj
  rw [List.getElem_take]
  by_cases hji:j=i-1
  ·subst hji;exact h1 (by omega) (by omega)
  ·exact hm' j (i-1) (by omega) (by omega) (h1 (by omega) (by omega))
 ·obtain ⟨j,hj,rfl⟩:=List.mem_iff_getElem.1 hx
  rw [List.length_drop] at hj
  rw [List.getElem_drop]
  cases hp:p (l[i+j]'(by omega)) with
  | false=>rfl
  | true =>
   have h3:=h2 (by omega)
   by_cases hj0:j=0
   ·subst hj0;simp only [Nat.add_zero] at hp;rw [hp] at h3;cases h3
   ·have:=hm' i (i+j) (by omega) (by omega) hp
    rw [this] at h3;cases h3
theorem zxt {α:Type} {l:List α} {i:Nat} (hi:i<=l.length):(l.take i).getLast? = if i=0 then none else l[i-1]? := by
 cases i with
 | zero=>simp
 | succ i =>
  rw [if_neg (by omega),List.take_succ_eq_append_getElem (by omega),z20]
  simp
theorem znn {α:Type} {p:α->Bool} {l:List α} {e:α} (h:(l.filter p).getLast? = some e):∃ a c,l=a++e::c/\p e=true/\∀ x ∈ c,p x=false:=by
 induction l with
 | nil=>simp at h
 | cons y r ih =>
  rw [List.filter_cons] at h
  by_cases hr:(r.filter p)=[]
  ·split at h
   ·rw [hr] at h
    simp at h
    subst h
    exact ⟨[],r,rfl,by assumption,λx hx=>by simpa using List.filter_eq_nil_iff.1 hr x hx⟩
   ·rw [hr] at h;simp at h
  ·have h':(r.filter p).getLast? = some e:=by
    split at h
    ·cases hq:r.filter p with
     | nil=>exact absurd hq hr
     | cons z zs=>rw [hq] at h;simpa using h
    ·exact h
   obtain ⟨a,c,rfl,h1,h2⟩:=ih h'
   exact ⟨y::a,c,rfl,h1,h2⟩
theorem zw1 {a b:ByteArray} (h:a.data.toList=b.data.toList):a=b:=by
 cases a;cases b;exact congrArg ByteArray.mk (Array.ext' h)
theorem zaw:∀ x:List UInt8,Op.bytesLess x x=false
 | []=>rfl
 | a::x=>by rw [Op.bytesLess,zaw x];simp
theorem zh8:∀ {x y z:List UInt8},Op.bytesLess x y=true->Op.bytesLess y z=true->Op.bytesLess x z=true
 | [],_,[],_,h=>by cases ‹List UInt8› <;> simp [Op.bytesLess] at h
 | [],_,_::_,_,_=>rfl
 | _::_,[],_,h,_=>by simp [Op.bytesLess] at h
 | _::_,_::_,[],_,h=>by simp [Op.bytesLess] at h
 | a::x,b::y,c::z,h1,h2=>by
  simp only [Op.bytesLess,Bool.or_eq_true,decide_eq_true_eq,Bool.and_eq_true,beq_iff_eq] at h1 h2 ⊢
  rcases h1 with h1|⟨rfl,h1⟩
  ·rcases h2 with h2|⟨rfl,h2⟩
   ·exact .inl (UInt8.lt_trans h1 h2)
   ·exact .inl h1
  ·rcases h2 with h2|⟨rfl,h2⟩
   ·exact .inl h2
   ·exact .inr ⟨rfl,zh8 h1 h2⟩
theorem zh7:∀ (x y:List UInt8),Op.bytesLess x y=true\/x=y\/Op.bytesLess y x=true
 | [],[]=>.inr (.inl rfl)
 | [],_::_=>.inl rfl
 | _::_,[]=>.inr (.inr rfl)
 | a::x,b::y=>by
  simp only [Op.bytesLess,Bool.or_eq_true,decide_eq_true_eq,Bool.and_eq_true,beq_iff_eq,List.cons.injEq]
  rcases Nat.lt_trichotomy a.toNat b.toNat with h|h|h
  ·exact .inl (.inl (UInt8.lt_iff_toNat_lt.2 h))
  ·have:=UInt8.toNat_inj.1 h
   subst this
   rcases zh7 x y with h|rfl|h
   ·exact .inl (.inr ⟨rfl,h⟩)
   ·exact .inr (.inl ⟨rfl,rfl⟩)
   ·exact .inr (.inr (.inr ⟨rfl,h⟩))
  ·exact .inr (.inr (.inl (UInt8.lt_iff_toNat_lt.2 h)))
def ltS (a b:ByteArray):Bool:=Op.bytesLess (ByteArray.toList a) (ByteArray.toList b)
theorem z4s (a:ByteArray):ltS a a=false:=zaw _
theorem z4t {a b c:ByteArray} (h1:ltS a b=true) (h2:ltS b c=true):ltS a c=true:=zh8 h1 h2
theorem zah (a b:ByteArray):ltS a b=true\/a=b\/ltS b a=true:=by
 rcases zh7 (ByteArray.toList a) (ByteArray.toList b) with h|h|h
 ·exact .inl h
 ·exact .inr (.inl (zcy.1 h))
 ·exact .inr (.inr h)
theorem zaf {a b:ByteArray} (h:ltS a b=true):ltS b a=false:=by
 cases hb:ltS b a with
 | false=>rfl
 | true=>have:=z4t h hb;rw [z4s] at this;cases this
structure FileA where
 name:ByteArray
 b:List UInt8
 kept:Nat
structure DiskA where
 room:Nat
 left:Int
 gone:Bool
 fs:List FileA
def used (fs:List FileA):Nat:=(fs.map λf=>f.b.length).sum
def DiskA.free (A:DiskA):Nat:=A.room-used A.fs
def okC (c:UInt8):Bool:=(97<=c.toNat && c.toNat<=122) || (48<=c.toNat && c.toNat<=57) || c.toNat == 46 || c.toNat == 45
def z3j (s:ByteArray):Bool:=s.data.toList.all okC && (1<=s.size && s.size<=24)
def z25 (fs:List FileA) (n:ByteArray):Bool:=fs.any λf=>decide (f.name=n)
def z2k (A:DiskA):DiskA:=if A.left>0 then { A with left:=A.left-1,gone:=decide (A.left-1=0) } else A
def z1x (n:ByteArray) (g:FileA->FileA) (f:FileA):FileA:=if f.name=n then g f else f
def z4h (x:FileA):List FileA->List FileA
 | []=>[x]
 | f::r=>if ltS x.name f.name then x::f::r else f::z4h x r
def z4b (n:ByteArray) (fs:List FileA):List FileA:=fs.filter λf=>!decide (f.name=n)
def z09 (A:DiskA) (n:ByteArray) (bs:List UInt8):Int × DiskA :=
 if A.gone then (9,A) else if z3j n=false then (2,A) else if bs.length>A.free\/(z25 A.fs n=false/\A.fs.length>=128) then (5,A) else
  (0,z2k { A with fs:=if z25 A.fs n then A.fs.map (z1x n λf=>{ f with b:=f.b++bs }) else z4h ⟨n,bs,0⟩ A.fs })
def zbm (ns:List ByteArray) (n:ByteArray):Bool:=ns.isEmpty || ns.any λm=>decide (m=n)
def z4d (ns:List ByteArray) (f:FileA):FileA:=if zbm ns f.name then { f with kept:=f.b.length } else f
def z1z (A:DiskA) (ns:List ByteArray):Int × DiskA :=
 if A.gone then (9,A) else if ns.all (z25 A.fs)=false then (3,A) else (0,z2k { A with fs:=A.fs.map (z4d ns) })
def zm3 (fs:List FileA) (n:ByteArray):Nat:=match fs.find? λf=>decide (f.name=n) with
 | some f=>f.b.length
 | none=>0
def cutA' (A:DiskA) (n:ByteArray) (k:Int):Int × DiskA :=
 if A.gone then (9,A) else if z25 A.fs n=false then (3,A) else if k<0\/k>zm3 A.fs n then (2,A) else
  (0,z2k { A with fs:=A.fs.map (z1x n λf=>{ f with b:=f.b.take k.toNat,kept:=min f.kept k.toNat }) })
def z19 (A:DiskA) (n:ByteArray):Int × DiskA :=
 if A.gone then (9,A) else if z25 A.fs n=false then (3,A) else (0,z2k { A with fs:=z4b n A.fs })
structure okA (A:DiskA):Prop where
 room:A.room<=4194304
 used:used A.fs<=4194304
 many:A.fs.length<=128
 left : -1<=A.left/\A.left<=9223372036854775807
 sorted:A.fs.Pairwise λa b=>ltS a.name b.name=true
 kept:∀ f ∈ A.fs,f.kept<=f.b.length
 names:∀ f ∈ A.fs,f.name.size<=24
theorem z1m (f:FileA) (fs:List FileA):used (f::fs)=f.b.length+used fs:=by simp [used]
theorem z41 {a b:List FileA} (h:a.Perm b):used a=used b:=(h.map _).sum_nat
theorem z8f:∀ {fs:List FileA} {f:FileA},f ∈ fs->f.b.length<=used fs
 | g::r,f,h=>by
  rw [z1m]
  rcases List.mem_cons.1 h with rfl|h
  ·omega
  ·have:=z8f h;omega
theorem z2x {fs:List FileA} (h:fs.Pairwise λa b=>ltS a.name b.name=true):(fs.map (·.name)).Nodup:=by
 rw [List.Nodup,List.pairwise_map]
 exact h.imp λ{a b} hab e=>by rw [e,z4s] at hab;cases hab
theorem z6e {fs:List FileA} {n:ByteArray}:z25 fs n=true↔∃ f ∈ fs,f.name=n:=by simp [z25]
theorem z6f {fs:List FileA} {n:ByteArray}:z25 fs n=false↔∀ f ∈ fs,f.name≠n:=by simp [z25]
instance:ByE P T.a45 T.a52:=⟨by kernel_rfl,by kernel_rfl,by kernel_rfl⟩
instance:StT P T.a49:=⟨by kernel_rfl⟩
instance:KeyT P T.a49 ekS:=zza (by kernel_rfl)
instance:MapT P T.a23 T.a49 (.pointer none):=⟨T.a27,by kernel_rfl,by kernel_rfl⟩
abbrev evF (b:Nat):Value:=.pointer (some ⟨b,0,none⟩)
structure FileM where
 at_:Nat
 x:Sl
 f:FileA
def z3t (t:FileM):HP:=HP.star (pt t.at_ (.cells #[t.x.v,.int .i64 t.f.kept] T.a9)) (slc T.a52 1 t.x (t.f.b.flatMap zk))
def dk (d:Nat) (A:DiskA):HP:=HP.ex λm:Nat=>HP.ex λFS:List FileM=>HP.and ((FS.map (·.f)).Perm A.fs/\okA A)
 (HP.star (pt d (.cells #[.int .i64 A.left,.bool A.gone,.int .i64 A.room,.int .i64 (used A.fs),.map (some m)] T.a8))
  (HP.star (z1f ekS evF m (FS.map λt=>(t.f.name,t.at_))) (HP.all (FS.map z3t))))
section
variable {w:World} {l r:List HP}
theorem Sat.all_nil (hs:Sat w l):Sat w (HP.all []::l) :=
 ⟨⟨λ_=>none,World.env' w⟩,World.ph w,⟨(λ_ _ h=>by cases h),rfl⟩,PH.sub_refl _,(λ_=>Or.inl rfl),trivial,hs⟩
theorem Sat.all_cons {a:HP} {L:List HP} (hs:Sat w (HP.all (a::L)::l)):Sat w (a::HP.all L::l):=by
 refine Sat.star (A:=a) (B:=HP.all L) (hs.imp λp h=>?_)
 obtain ⟨p1,p2,h1,h2,hd,hA,hl⟩:=h
 exact ⟨p1,p2,h1,h2,hd,hA,hl⟩
theorem Sat.all_put {a:HP} {L:List HP} (hs:Sat w (a::HP.all L::l)):Sat w (HP.all (a::L)::l):=by
 refine (Sat.star_mk (A:=a) (B:=HP.all L) hs).imp λp h=>?_
 obtain ⟨p1,p2,h1,h2,hd,hA,hl⟩:=h
 exact ⟨p1,p2,h1,h2,hd,hA,hl⟩
theorem Sat.all_perm {L L':List HP} (hp:L.Perm L') (hs:Sat w (HP.all L::l)):Sat w (HP.all L'::l):=hs.imp λp h=>zam hp h
theorem z2b {d:Nat} {A:DiskA} (hs:Sat w (dk d A::l)):∃ (m:Nat) (FS:List FileM),(FS.map FileM.f).Perm A.fs/\okA A /\
  Sat w (pt d (.cells #[.int .i64 A.left,.bool A.gone,.int .i64 A.room,.int .i64 (used A.fs),.map (some m)] T.a8)::z1f ekS evF m (FS.map λt=>(t.f.name,t.at_))::HP.all (FS.map z3t)::l):=by
 obtain ⟨m,hs⟩:=hs.ex
 obtain ⟨FS,hs⟩:=hs.ex
 obtain ⟨⟨h1,h2⟩,hs⟩:=hs.and
 have hs:=hs.star
 have hs:=(hs.pick [1]).star
 exact ⟨m,FS,h1,h2,hs.pick [2,0,0]⟩
theorem zqc {d:Nat} {A:DiskA} {m:Nat} {FS:List FileM} (hp:(FS.map FileM.f).Perm A.fs) (hok:okA A)
  (hs:Sat w (pt d (.cells #[.int .i64 A.left,.bool A.gone,.int .i64 A.room,.int .i64 (used A.fs:Nat),.map (some m)] T.a8)::z1f ekS evF m (FS.map λt=>(t.f.name,t.at_))::HP.all (FS.map z3t)::l)):Sat w (dk d A::l):=by
 refine .ex_mk m (.ex_mk FS (.and_mk ⟨hp,hok⟩ (.star_mk ?_)))
 refine (Sat.star_mk (hs.pick [1,1])).pick [1]
theorem z2f {d:Nat} {A:DiskA} (m:Nat) {FS:List FileM} {r1 r2 r3 l':List HP} {u:Int} (hp:(FS.map FileM.f).Perm A.fs) (hok:okA A) (hs:Sat w l)
  [h1:FocB l d (.cells [.int .i64 A.left,.bool A.gone,.int .i64 A.room,.int .i64 u,.map (some m)].toArray T.a8) r1] [h2:FoM r1 m ekS evF (FS.map λt=>(t.f.name,t.at_)) r2] [h3:Foc r2 (HP.all (FS.map z3t)) r3] [h4:Sub r3 l']
  (hu:u=(used A.fs:Nat):=by rfl):Sat w (dk d A::l'):=by
 subst hu
 have h5:Sat w (dk d A::r3):=zqc hp hok (hs.perm (h1.perm.trans (.cons _ (h2.perm.trans (.cons _ h3.perm)))))
 exact h5.sub
theorem z7i {FS:List FileM} {t:FileM} (hs:Sat w l) [h:Foc l (HP.all (FS.map z3t)) r] (ht:t ∈ FS):∃ FS',FS.Perm (t::FS') /\
  Sat w (pt t.at_ (.cells #[t.x.v,.int .i64 t.f.kept] T.a9)::slc T.a52 1 t.x (t.f.b.flatMap zk)::HP.all (FS'.map z3t)::r):=by
 obtain ⟨s,u,rfl⟩:=List.append_of_mem ht
 have hp:(s++t::u).Perm (t::(s++u)):=List.perm_middle
 exact ⟨s++u,hp,(((hs.perm h.perm).all_perm (hp.map z3t)).all_cons).star⟩
theorem z6u {FS:List FileM} (t:FileM) {r1 r2 r3:List HP} (hs:Sat w l) [h1:FocB l t.at_ (.cells [.slice t.x.a t.x.len t.x.cap,.int .i64 t.f.kept].toArray T.a9) r1] [h2:FocS r1 t.x T.a52 1 (t.f.b.flatMap zk) r2] [h3:Foc r2 (HP.all (FS.map z3t)) r3] :
  Sat w (HP.all ((t::FS).map z3t)::r3) :=
 Sat.all_put (Sat.star_mk (A:=pt t.at_ (.cells #[t.x.v,.int .i64 t.f.kept] T.a9)) (B:=slc T.a52 1 t.x (t.f.b.flatMap zk)) (hs.perm (h1.perm.trans (.cons _ (h2.perm.trans (.cons _ h3.perm))))))
end
section
variable {w:World} {l r:List HP} {d:Nat} {A:DiskA}
theorem zx3 (n:Nat) (hn:n<=4194304) (hs:Sat w l):Ret P F.a37 #[.int .i64 n] w λvs w'=>∃ d,vs=[.pointer (some ⟨d,0,none⟩),.int .i64 0]/\Sat w' (dk d ⟨n,-1,false,[]⟩::l) :=
 zub n <| by
  delta z08c Aa Ah Ai Aj Ak Ar
  refine z03 ?_
  refine zch ekS evF hs λm w' hs=>?_
  refine zr hs λd w' hs=>?_
  refine ⟨rfl,d,rfl,?_⟩
  exact zqc (FS:=[]) (.refl _) ⟨hn,by simp [used],by simp,by simp,by simp,by simp,by simp⟩ ((hs.all_nil).pick [1,1,0])
theorem zr1 (c:UInt8):((!(decide ((c.toNat:Int)>=97) && decide ((c.toNat:Int)<=122)) && !(decide ((c.toNat:Int)>=48) && decide ((c.toNat:Int)<=57)) && (c.toNat:Int) != 46 && (c.toNat:Int) != 45)=true↔okC c=false):=by
 simp [okC];omega
theorem z06n (s:ByteArray) (hs:Sat w l):Ret P F.a36 #[.string s] w λvs w'=>vs=[.bool (z3j s)]/\Sat w' l :=
 zua s <| by
  delta z08b AO Aa Aj Ak Al Am An Aw Ax BK BL
  refine zf (λh=>?_) λh=>?_
  ·refine ⟨rfl,?_,hs⟩
   have:z3j s=false:=by simp [z3j];omega
   rw [this]
  refine znh hs λx w' hs=>?_
  have hl:=hs.slen x
  have hsz:s.data.toList.length=s.size:=by simp
  refine zm (λ_ w'=>s.data.toList.all okC=true/\Sat w' l) ?_ ?_
  ·refine z0c (λn v w=>∃ i:Nat,v=((i:Int),())/\i<=s.data.toList.length/\s.data.toList.length-i=n/\(s.data.toList.take i).all okC=true/\Sat w (slc T.a52 1 x (s.data.toList.flatMap zk)::l)) s.data.toList.length ⟨0,rfl,by omega,rfl,rfl,hs⟩ ?_
   clear hs
   rintro n _ w ⟨i,rfl,hi,hn,hall,hs⟩
   refine zl ?_
   refine zf (λhc=>?_) λhc=>?_
   ·have hil:i<s.data.toList.length:=by omega
    refine z27 hs i hil ?_
    refine wp_lt (wp_lt (wp_lt ?_))
    have htk:(s.data.toList.take (i+1)).all okC=okC s.data.toList[i]:=by
     rw [List.take_add_one,List.getElem?_eq_getElem hil,List.all_append,hall];simp
    refine zdw (λh3=>?_) λh3=>?_
    ·have h3:=(zr1 _).1 h3
     refine zn (zn ?_)
     refine ⟨rfl,?_,hs.tail⟩
     have:z3j s=false:=by
      have:s.data.toList.all okC=false:=by
       rw [<- List.take_append_drop (i+1) s.data.toList,List.all_append,htk,h3];rfl
      simp only [z3j,this,Bool.false_and]
     rw [this]
    ·have h3:okC s.data.toList[i]=true:=by
      cases hk:okC s.data.toList[i] with
      | true=>rfl
      | false=>have:=(zr1 _).2 hk;rw [this] at h3;cases h3
     refine z29 (us':=[.int .i64 ((i+1:Nat):Int)]) (by (try simp (disch:=omega) only [w64]);first|rfl|(congr;omega)) ?_
     refine z0z (s.data.toList.length-(i+1)) ?_
     exact ⟨i+1,rfl,by omega,rfl,by rw [htk,h3],hs⟩
   ·refine zn (zg ⟨?_,hs.tail⟩)
    rwa [List.take_of_length_le (by omega)] at hall
  ·rintro _ w' ⟨hall,hs⟩
   refine zl ?_
   refine ⟨rfl,?_,hs⟩
   have:z3j s=true:=by simp only [z3j,hall,Bool.true_and,Bool.and_eq_true,decide_eq_true_eq];omega
   rw [this]
theorem z0a7 [hf:Fo l dk d A r] (hs:Sat w l):Ret P F.a35 #[.pointer (some ⟨d,0,none⟩)] w λvs w'=>vs=[.int .i64 (if A.gone then 9 else 0)]/\Sat w' (dk d A::r) :=
 zu9 _ <| by
  delta z08a AS AY Aa Ak Bp
  obtain ⟨m,FS,hp,hok,hs⟩:=z2b (hs.perm hf.perm)
  refine wp_lt (z03 ?_ (by simp))
  (repeat (first|with_reducible (first|refine zl ?_|refine zi ?_|refine z0n ?_|refine zb hs ?_|refine zj hs ?_|refine ze ?_|refine z02 hs λ_ hs=>?_|refine zt hs λ_ _ hs=>?_|refine zr hs λ_ _ hs=>?_|refine z08 hs λ_ hs=>?_|refine zv hs λ_ hs=>?_)|(apply wp_must;(focus first|trivial|omega|assumption))|refine z1c ?_|refine wp_lt ?_))
  refine zf (λh=>?_) λh=>?_
  ·exact ⟨rfl,by rw [if_pos h],z2f m hp hok hs⟩
  ·exact ⟨rfl,by rw [if_neg h],z2f m hp hok hs⟩
theorem z05a {m:Nat} {n room u:Int} (hn:n<=9223372036854775807 /\ -1<=n) [hf:FocB l d (.cells #[.int .i64 n,.bool false,.int .i64 room,.int .i64 u,.map (some m)] T.a8) r] (hs:Sat w l) :
  Ret P F.a38 #[.pointer (some (Addr.add ⟨d,0,none⟩ 0))] w λvs w'=>vs=[] /\
   Sat w' (pt d (.cells #[.int .i64 (if n>0 then n-1 else n),.bool (if n>0 then decide (n-1=0) else false),.int .i64 room,.int .i64 u,.map (some m)] T.a8)::r) :=
 zuc _ <| by
  delta z08d AH AP AY Aa Aj Ak Al Aw
  have hs:=hs.focB d
  (repeat (first|with_reducible (first|refine zl ?_|refine zi ?_|refine z0n ?_|refine zb hs ?_|refine zj hs ?_|refine ze ?_|refine z02 hs λ_ hs=>?_|refine zt hs λ_ _ hs=>?_|refine zr hs λ_ _ hs=>?_|refine z08 hs λ_ hs=>?_|refine zv hs λ_ hs=>?_)|(apply wp_must;(focus first|trivial|omega|assumption))|refine z1c ?_|refine wp_lt ?_))
  refine zm (λ_ w'=>Sat w' (pt d (.cells #[.int .i64 (if n>0 then n-1 else n),.bool (if n>0 then decide (n-1=0) else false),.int .i64 room,.int .i64 u,.map (some m)] T.a8)::r)) ?_ ?_
  ·refine zf (λh=>?_) λh=>?_
   ·(repeat (first|with_reducible (first|refine zl ?_|refine zi ?_|refine z0n ?_|refine zb hs ?_|refine zj hs ?_|refine ze ?_|refine z02 hs λ_ hs=>?_|refine zt hs λ_ _ hs=>?_|refine zr hs λ_ _ hs=>?_|refine z08 hs λ_ hs=>?_|refine zv hs λ_ hs=>?_)|(apply wp_must;(focus first|trivial|omega|assumption))|refine z1c ?_|refine wp_lt ?_))
    refine zg ?_
    rw [if_pos h,if_pos h]
    rw [w64 (x:=n-1) (by omega) (by omega)] at hs
    exact hs
   ·refine zg ?_
    rw [if_neg h,if_neg h];exact hs
  ·rintro _ w' hs
   refine zl ?_
   exact ⟨rfl,rfl,hs⟩
theorem zys (A:DiskA) (h:A.gone=false):z2k A=⟨A.room,if A.left>0 then A.left-1 else A.left,if A.left>0 then decide (A.left-1=0) else false,A.fs⟩:=by
 unfold z2k
 split
 ·rfl
 ·rw [<- h]
theorem z069 [hf:Fo l dk d A r] (hs:Sat w l):Ret P F.a26 #[.pointer (some ⟨d,0,none⟩)] w λvs w'=>vs=[.int .i64 (A.free:Nat)]/\Sat w' (dk d A::r) :=
 zu1 _ <| by
  delta z082 AC AG AP AY Aa Af Aj Ak Aw
  obtain ⟨m,FS,hp,hok,hs⟩:=z2b (hs.perm hf.perm)
  refine z03 ?_ (by simp)
  have h1:=hok.room
  have h2:=hok.used
  refine z02 hs λw' hs=>?_
  refine zi ?_
  refine zb hs ?_
  refine zi ?_
  refine zb hs ?_
  refine z83 (y:=(A.free:Nat)) ?_ ?_
  ·have e:IntKind.wrap .i64 ((A.room:Int)-(used A.fs:Nat))=(A.room:Int)-(used A.fs:Nat):=z00t
   rw [e]
   unfold DiskA.free
   split <;> omega
  exact ze ⟨rfl,rfl,z2f m hp hok hs⟩
theorem z06c [hf:Fo l dk d A r] (hs:Sat w l):Ret P F.a27 #[.pointer (some ⟨d,0,none⟩)] w λvs w'=>vs=[.bool A.gone]/\Sat w' (dk d A::r) :=
 zu2 _ <| by
  delta z083 AX Ak Ax Bk
  obtain ⟨m,FS,hp,hok,hs⟩:=z2b (hs.perm hf.perm)
  (repeat (first|with_reducible (first|refine zl ?_|refine zi ?_|refine z0n ?_|refine zb hs ?_|refine zj hs ?_|refine ze ?_|refine z02 hs λ_ hs=>?_|refine zt hs λ_ _ hs=>?_|refine zr hs λ_ _ hs=>?_|refine z08 hs λ_ hs=>?_|refine zv hs λ_ hs=>?_)|(apply wp_must;(focus first|trivial|omega|assumption))|refine z1c ?_|refine wp_lt ?_))
  exact ⟨rfl,by simp,z2f m hp hok hs⟩
end
theorem zaa {fs:List FileA} {n:ByteArray} (hs:(fs.map (·.name)).Nodup) {f:FileA} (hf:f ∈ fs) (hn:f.name=n):fs.find? (λf=>decide (f.name=n))=some f:=by
 subst hn
 induction fs with
 | nil=>cases hf
 | cons g r ih =>
  rw [List.map_cons,List.nodup_cons] at hs
  rcases List.mem_cons.1 hf with rfl|hf
  ·rw [List.find?_cons_of_pos (by simp)]
  ·rw [List.find?_cons_of_neg (by simp;exact λe=>hs.1 (List.mem_map.2 ⟨f,hf,e.symm⟩))]
   exact ih hs.2 hf
theorem zd4 {fs:List FileA} {n:ByteArray} (h:∀ f ∈ fs,f.name≠n):fs.find? (λf=>decide (f.name=n))=none:=List.find?_eq_none.2 λf hf=>by simpa using h f hf
theorem z04j {fs:List FileA} {n:ByteArray} (hs:(fs.map (·.name)).Nodup) {f:FileA} (hf:f ∈ fs) (hn:f.name=n):zm3 fs n=f.b.length:=by rw [zm3,zaa hs hf hn]
section
variable {w:World} {l r:List HP} {d:Nat} {A:DiskA}
theorem z94 {FS:List FileM} (hp:(FS.map FileM.f).Perm A.fs) {n:ByteArray} {b:Nat} (h:(n,b) ∈ FS.map λt=>(t.f.name,t.at_)):∃ t ∈ FS,t.at_=b/\t.f.name=n/\t.f ∈ A.fs:=by
 obtain ⟨t,ht,he⟩:=List.mem_map.1 h
 simp only [Prod.mk.injEq] at he
 exact ⟨t,ht,he.2,he.1,hp.mem_iff.1 (List.mem_map.2 ⟨t,ht,rfl⟩)⟩
theorem z7v {FS:List FileM} (hp:(FS.map FileM.f).Perm A.fs) {n:ByteArray} (h:∀ b,(n,b) ∉ FS.map λt=>(t.f.name,t.at_)):∀ f ∈ A.fs,f.name≠n:=λf hf e=>by
 obtain ⟨t,ht,rfl⟩:=List.mem_map.1 (hp.mem_iff.2 hf)
 exact h t.at_ (List.mem_map.2 ⟨t,ht,by rw [e]⟩)
theorem apart {FS FS':List FileM} {t:FileM} (hp:(FS.map FileM.f).Perm A.fs) (hok:okA A) (h:FS.Perm (t::FS')) :
  A.fs.Perm (t.f::FS'.map FileM.f)/\(∀ f ∈ FS'.map FileM.f,f.name≠t.f.name)/\t.f ∈ A.fs:=by
 have h1:A.fs.Perm (t.f::FS'.map FileM.f):=hp.symm.trans (h.map FileM.f)
 have h2:((t.f::FS'.map FileM.f).map (·.name)).Nodup:=(h1.map _).nodup_iff.1 (z2x hok.sorted)
 rw [List.map_cons,List.nodup_cons] at h2
 exact ⟨h1,λf hf e=>h2.1 (List.mem_map.2 ⟨f,hf,e⟩),h1.mem_iff.2 (List.mem_cons_self ..)⟩
theorem z03p (x:Sl) (bs:List UInt8) (hb:bs.length<=100000000) [hf:FocR l x 1 (bs.flatMap zk)] (hs:Sat w l):Ret P F.a0 #[x.v] w λvs w'=>∃ z:Sl,vs=[z.v]/\Sat w' (slc T.a52 1 z (bs.flatMap zk)::l) :=
 zko x <| by
  delta zf0 AO Aj Ak
  refine zf (λh=>?_) λh=>?_
  ·have:bs=[]:=by
    obtain ⟨hlen,h0|⟨b,off,arr,T',fr,ha,-⟩⟩:=hf.rd w hs
    ·rw [z3n,h0] at hlen;exact List.length_eq_zero_iff.1 (by omega)
    ·rw [h] at ha;cases ha
   subst this
   exact ⟨rfl,⟨none,0,0⟩,rfl,hs.slc_nil⟩
  ·refine z9i hs ([]:List UInt8) (enc:=zk) bs0 λb w' hs=>?_
   refine wp_app' hs (xs:=([]:List UInt8)) (ys:=bs) (enc:=zk) (λz w' hs=>?_) (by simp;omega)
   exact ⟨rfl,z,rfl,hs⟩
theorem zhh (n:ByteArray) [hf:Fo l dk d A r] (hs:Sat w l):Ret P F.a29 #[.pointer (some ⟨d,0,none⟩),.string n] w λvs w' =>
  (∃ f ∈ A.fs,f.name=n/\∃ z:Sl,vs=[z.v,.int .i64 0]/\Sat w' (slc T.a52 1 z (f.b.flatMap zk)::dk d A::r))\/((∀ f ∈ A.fs,f.name≠n)/\vs=[.slice none 0 0,.int .i64 3]/\Sat w' (dk d A::r)) :=
 zu3 _ n <| by
  delta z084 AI AT AY Aa Aj Ak B4 BF
  obtain ⟨m,FS,hp,hok,hs⟩:=z2b (hs.perm hf.perm)
  refine z03 ?_ (by simp)
  (repeat (first|with_reducible (first|refine zl ?_|refine zi ?_|refine z0n ?_|refine zb hs ?_|refine zj hs ?_|refine ze ?_|refine z02 hs λ_ hs=>?_|refine zt hs λ_ _ hs=>?_|refine zr hs λ_ _ hs=>?_|refine z08 hs λ_ hs=>?_|refine zv hs λ_ hs=>?_)|(apply wp_must;(focus first|trivial|omega|assumption))|refine z1c ?_|refine wp_lt ?_))
  refine z7q hs (λb hb=>?_) λhb=>?_
  ·obtain ⟨t,ht,rfl,rfl,hA⟩:=z94 hp hb
   obtain ⟨FS',hpm,hs⟩:=z7i hs ht
   refine z03 ?_ (by simp)
   (repeat (first|with_reducible (first|refine zl ?_|refine zi ?_|refine z0n ?_|refine zb hs ?_|refine zj hs ?_|refine ze ?_|refine z02 hs λ_ hs=>?_|refine zt hs λ_ _ hs=>?_|refine zr hs λ_ _ hs=>?_|refine z08 hs λ_ hs=>?_|refine zv hs λ_ hs=>?_)|(apply wp_must;(focus first|trivial|omega|assumption))|refine z1c ?_|refine wp_lt ?_))
   have hlen:t.f.b.length<=4194304:=Nat.le_trans (z8f hA) hok.used
   refine z8 (z03p t.x t.f.b (by omega) hs) λ_ _ hs=>?_
   obtain ⟨z,rfl,hs⟩:=hs
   refine zd ?_
   (repeat (first|with_reducible (first|refine zl ?_|refine zi ?_|refine z0n ?_|refine zb hs ?_|refine zj hs ?_|refine ze ?_|refine z02 hs λ_ hs=>?_|refine zt hs λ_ _ hs=>?_|refine zr hs λ_ _ hs=>?_|refine z08 hs λ_ hs=>?_|refine zv hs λ_ hs=>?_)|(apply wp_must;(focus first|trivial|omega|assumption))|refine z1c ?_|refine wp_lt ?_))
   refine ⟨rfl,.inl ⟨t.f,hA,rfl,z,rfl,?_⟩⟩
   have hs:=(z6u t hs).all_perm (hpm.symm.map z3t)
   have hs:=z2f (d:=d) (A:=A) (l':=slc T.a52 1 z (t.f.b.flatMap zk)::r) m hp hok hs
   exact hs.sub
  ·refine z0u ?_ (by rfl)
   exact ⟨rfl,.inr ⟨z7v hp hb,rfl,z2f m hp hok hs⟩⟩
def z98 (fs:List FileA) (n:ByteArray):Nat × Nat:=match fs.find? λf=>decide (f.name=n) with
 | some f=>(f.b.length,f.kept)
 | none=>(0,0)
theorem z0af (n:ByteArray) [hf:Fo l dk d A r] (hs:Sat w l):Ret P F.a33 #[.pointer (some ⟨d,0,none⟩),.string n] w λvs w' =>
  ∃ x:Sl,vs=[.agg [x.v,.int .i64 (z98 A.fs n).2].toArray]/\x.len=(z98 A.fs n).1/\Sat w' (dk d A::r) :=
 zu7 _ n <| by
  delta z088 AY Aa Ab Ac Aj Ak B4 BC BF BH BI Bk
  obtain ⟨m,FS,hp,hok,hs⟩:=z2b (hs.perm hf.perm)
  (repeat (first|with_reducible (first|refine zl ?_|refine zi ?_|refine z0n ?_|refine zb hs ?_|refine zj hs ?_|refine ze ?_|refine z02 hs λ_ hs=>?_|refine zt hs λ_ _ hs=>?_|refine zr hs λ_ _ hs=>?_|refine z08 hs λ_ hs=>?_|refine zv hs λ_ hs=>?_)|(apply wp_must;(focus first|trivial|omega|assumption))|refine z1c ?_|refine wp_lt ?_))
  refine z7q hs (λb hb=>?_) λhb=>?_
  ·obtain ⟨t,ht,rfl,rfl,hA⟩:=z94 hp hb
   refine z03 ?_ (by simp)
   (repeat (first|with_reducible (first|refine zl ?_|refine zi ?_|refine z0n ?_|refine zb hs ?_|refine zj hs ?_|refine ze ?_|refine z02 hs λ_ hs=>?_|refine zt hs λ_ _ hs=>?_|refine zr hs λ_ _ hs=>?_|refine z08 hs λ_ hs=>?_|refine zv hs λ_ hs=>?_)|(apply wp_must;(focus first|trivial|omega|assumption))|refine z1c ?_|refine wp_lt ?_))
   refine z7q hs (λb2 hb2=>?_) λhb2=>absurd hb (hb2 _)
   obtain ⟨t2,ht2,rfl,hn2,hA2⟩:=z94 hp hb2
   obtain ⟨FS',hpm,hs⟩:=z7i hs ht2
   (repeat (first|with_reducible (first|refine zl ?_|refine zi ?_|refine z0n ?_|refine zb hs ?_|refine zj hs ?_|refine ze ?_|refine z02 hs λ_ hs=>?_|refine zt hs λ_ _ hs=>?_|refine zr hs λ_ _ hs=>?_|refine z08 hs λ_ hs=>?_|refine zv hs λ_ hs=>?_)|(apply wp_must;(focus first|trivial|omega|assumption))|refine z1c ?_|refine wp_lt ?_))
   refine ⟨rfl,t2.x,?_,?_,?_⟩
   ·rw [z98,zaa (z2x hok.sorted) hA2 hn2]
   ·rw [z98,zaa (z2x hok.sorted) hA2 hn2];exact hs.slen t2.x
   ·have hs:=(z6u t2 hs).all_perm (hpm.symm.map z3t)
    exact z2f m hp hok hs
  ·refine z0u ?_ (by simp)
   (repeat (first|with_reducible (first|refine zl ?_|refine zi ?_|refine z0n ?_|refine zb hs ?_|refine zj hs ?_|refine ze ?_|refine z02 hs λ_ hs=>?_|refine zt hs λ_ _ hs=>?_|refine zr hs λ_ _ hs=>?_|refine z08 hs λ_ hs=>?_|refine zv hs λ_ hs=>?_)|(apply wp_must;(focus first|trivial|omega|assumption))|refine z1c ?_|refine wp_lt ?_))
   refine ⟨rfl,⟨none,0,0⟩,?_,?_,z2f m hp hok hs⟩
   ·rw [z98,zd4 (z7v hp hb)];rfl
   ·rw [z98,zd4 (z7v hp hb)]
theorem z076 (n:ByteArray) [hf:Fo l dk d A r] (hs:Sat w l):Ret P F.a31 #[.pointer (some ⟨d,0,none⟩),.string n] w λvs w'=>vs=[.int .i64 (z98 A.fs n).1]/\Sat w' (dk d A::r) :=
 zu5 _ n <| by
  delta z086 Aa Af Ah Ak An
  refine z8 (z0af n hs) λ_ _ hs=>?_
  obtain ⟨x,rfl,hx,hs⟩:=hs
  refine zd ?_
  rw [hx]
  (repeat (first|with_reducible (first|refine zl ?_|refine zi ?_|refine z0n ?_|refine zb hs ?_|refine zj hs ?_|refine ze ?_|refine z02 hs λ_ hs=>?_|refine zt hs λ_ _ hs=>?_|refine zr hs λ_ _ hs=>?_|refine z08 hs λ_ hs=>?_|refine zv hs λ_ hs=>?_)|(apply wp_must;(focus first|trivial|omega|assumption))|refine z1c ?_|refine wp_lt ?_))
  exact ⟨rfl,rfl,hs⟩
end
theorem zsa {fs fs':List FileA} {f:FileA} (hp:fs.Perm (f::fs')) (hne:∀ g ∈ fs',g.name≠f.name):(z4b f.name fs).Perm fs':=by
 have h1:=hp.filter λg=>!decide (g.name=f.name)
 rw [List.filter_cons_of_neg (by simp)] at h1
 have h2:fs'.filter (λg=>!decide (g.name=f.name))=fs':=List.filter_eq_self.2 λg hg=>by simpa using hne g hg
 rw [h2] at h1
 exact h1
theorem zs9 {fs:List FileA} {n:ByteArray} (h:∀ f ∈ fs,f.name≠n):z4b n fs=fs:=List.filter_eq_self.2 λg hg=>by simpa using h g hg
theorem z74 {fs fs':List FileA} {f:FileA} {g:FileA->FileA} (hp:fs.Perm (f::fs')) (hne:∀ g ∈ fs',g.name≠f.name):(fs.map (z1x f.name g)).Perm (g f::fs'):=by
 have h1:=hp.map (z1x f.name g)
 rw [List.map_cons] at h1
 have h2:fs'.map (z1x f.name g)=fs':=by
  conv=>rhs;rw [<- List.map_id fs']
  exact List.map_congr_left λx hx=>by rw [z1x,if_neg (hne x hx)];rfl
 rw [h2,z1x,if_pos rfl] at h1
 exact h1
theorem z6p {n:ByteArray} {g:FileA->FileA} (hg:∀ f,(g f).name=f.name) (f:FileA):(z1x n g f).name=f.name:=by
 unfold z1x;split
 ·exact hg f
 ·rfl
theorem z99 {fs:List FileA} {g:FileA->FileA} (hg:∀ f,(g f).name=f.name) (h:fs.Pairwise λa b=>ltS a.name b.name=true):(fs.map g).Pairwise λa b=>ltS a.name b.name=true:=by
 rw [List.pairwise_map]
 exact h.imp λ{a b} hab=>by rw [hg,hg];exact hab
theorem zn3 {fs:List FileA} (n:ByteArray) (h:fs.Pairwise λa b=>ltS a.name b.name=true):(z4b n fs).Pairwise λa b=>ltS a.name b.name=true:=h.filter _
theorem zjs {fs:List FileA} {n:ByteArray} {f:FileA}:f ∈ z4b n fs↔f ∈ fs/\f.name≠n:=by simp [z4b,List.mem_filter]
theorem z6i (x:FileA):∀ fs:List FileA,(z4h x fs).Perm (x::fs)
 | []=>.refl _
 | f::r=>by
  rw [z4h];split
  ·exact .refl _
  ·exact (List.Perm.cons f (z6i x r)).trans (.swap _ _ _)
theorem zg8 {x f:FileA} {fs:List FileA}:f ∈ z4h x fs↔f=x\/f ∈ fs:=by rw [(z6i x fs).mem_iff,List.mem_cons]
theorem zfi (x:FileA):∀ {fs:List FileA},(∀ f ∈ fs,f.name≠x.name)->(fs.Pairwise λa b=>ltS a.name b.name=true)->(z4h x fs).Pairwise λa b=>ltS a.name b.name=true
 | [],_,_=>by simp [z4h]
 | f::r,hne,h=>by
  rw [List.pairwise_cons] at h
  rw [z4h];split
  ·rename_i hlt
   rw [List.pairwise_cons]
   refine ⟨λg hg=>?_,by rw [List.pairwise_cons];exact h⟩
   rcases List.mem_cons.1 hg with rfl|hg
   ·exact hlt
   ·exact z4t hlt (h.1 g hg)
  ·rename_i hlt
   rw [List.pairwise_cons]
   refine ⟨λg hg=>?_,zfi x (λg hg=>hne g (List.mem_cons_of_mem _ hg)) h.2⟩
   rcases zg8.1 hg with rfl|hg
   ·rcases zah f.name g.name with h1|h1|h1
    ·exact h1
    ·exact absurd h1 (hne f (List.mem_cons_self ..))
    ·exact absurd h1 hlt
   ·exact h.1 g hg
theorem z9r {A:DiskA} (h:okA A):okA (z2k A):=by
 unfold z2k
 split
 ·exact ⟨h.room,h.used,h.many,by have:=h.left;show -1<=A.left-1/\A.left-1<=_;omega,h.sorted,h.kept,h.names⟩
 ·exact h
theorem z3m (A:DiskA):(z2k A).fs=A.fs:=by unfold z2k;split <;> rfl
theorem z93 (A:DiskA):(z2k A).room=A.room:=by unfold z2k;split <;> rfl
section
variable {w:World} {l r:List HP} {d:Nat} {A:DiskA}
theorem zcb {m:Nat} {FS:List FileM} {fs':List FileA} {room left u:Int} {r1 r2 r3 l':List HP} (hg:A.gone=false) (hok':okA { A with fs:=fs' }) (hp:(FS.map FileM.f).Perm fs') (hs:Sat w l)
  [h1:FocB l d (.cells [.int .i64 left,.bool false,.int .i64 room,.int .i64 u,.map (some m)].toArray T.a8) r1] [h2:FoM r1 m ekS evF (FS.map λt=>(t.f.name,t.at_)) r2] [h3:Foc r2 (HP.all (FS.map z3t)) r3] [h4:Sub r3 l']
  (hu:u=(used fs':Nat):=by rfl) (hl:left=A.left:=by rfl) (hr:room=A.room:=by rfl) :
  Ret P F.a38 #[.pointer (some (Addr.add ⟨d,0,none⟩ 0))] w λvs w'=>vs=[]/\Sat w' (dk d (z2k { A with fs:=fs' })::l'):=by
 subst hu hl hr
 have hl:=hok'.left
 refine Calls.mono (z05a (d:=d) (m:=m) ⟨hl.2,hl.1⟩ hs) λe w' ⟨vs,he,hv,hs⟩=>⟨vs,he,hv,?_⟩
 have hd:=zys { A with fs:=fs' } hg
 rw [hd]
 have hok2:=z9r hok'
 rw [hd] at hok2
 exact z2f m (A:=⟨A.room,if A.left>0 then A.left-1 else A.left,if A.left>0 then decide (A.left-1=0) else false,fs'⟩) hp hok2 hs
theorem z061 (n:ByteArray) (m:Nat) {FS:List FileM} (hp:(FS.map FileM.f).Perm A.fs) (hok:okA A)
  (hs:Sat w (pt d (.cells #[.int .i64 A.left,.bool A.gone,.int .i64 A.room,.int .i64 (used A.fs),.map (some m)] T.a8)::z1f ekS evF m (FS.map λt=>(t.f.name,t.at_))::HP.all (FS.map z3t)::r)) :
  Ret P F.a34 #[.pointer (some ⟨d,0,none⟩),.string n] w λvs w'=>vs=[]/\∃ FS':List FileM,(FS'.map FileM.f).Perm (z4b n A.fs)/\(∀ t ∈ FS',t ∈ FS/\t.f.name≠n)/\(∀ t ∈ FS,t.f.name≠n->t ∈ FS') /\
   Sat w' (pt d (.cells #[.int .i64 A.left,.bool A.gone,.int .i64 A.room,.int .i64 (used (z4b n A.fs)),.map (some m)] T.a8)::z1f ekS evF m (FS'.map λt=>(t.f.name,t.at_))::HP.all (FS'.map z3t)::r) :=
 zu8 _ n <| by
  delta z089 AC AG AH AI AP AY Aa Aj Ak Al An Aw B4 B7 BF
  (repeat (first|with_reducible (first|refine zl ?_|refine zi ?_|refine z0n ?_|refine zb hs ?_|refine zj hs ?_|refine ze ?_|refine z02 hs λ_ hs=>?_|refine zt hs λ_ _ hs=>?_|refine zr hs λ_ _ hs=>?_|refine z08 hs λ_ hs=>?_|refine zv hs λ_ hs=>?_)|(apply wp_must;(focus first|trivial|omega|assumption))|refine z1c ?_|refine wp_lt ?_))
  refine z7q hs (λb hb=>?_) λhb=>?_
  ·obtain ⟨t,ht,rfl,rfl,hA⟩:=z94 hp hb
   obtain ⟨FS',hpm,hs⟩:=z7i hs ht
   obtain ⟨h1,h2,-⟩:=apart hp hok hpm
   have hd:=zsa h1 h2
   have hu:used A.fs=t.f.b.length+used (z4b t.f.name A.fs):=by rw [z41 h1,z1m,z41 hd]
   have h3:=hok.used
   refine z44 ?_
   refine z0u ?_ (by simp)
   refine z02 hs λw' hs=>?_
   refine zi ?_
   refine zb hs ?_
   refine zi ?_
   refine zb hs ?_
   rw [hs.slen t.x (xs:=t.f.b) (enc:=zk),z00t (y:=(used (z4b t.f.name A.fs):Nat))]
   (repeat (first|with_reducible (first|refine zl ?_|refine zi ?_|refine z0n ?_|refine zb hs ?_|refine zj hs ?_|refine ze ?_|refine z02 hs λ_ hs=>?_|refine zt hs λ_ _ hs=>?_|refine zr hs λ_ _ hs=>?_|refine z08 hs λ_ hs=>?_|refine zv hs λ_ hs=>?_)|(apply wp_must;(focus first|trivial|omega|assumption))|refine z1c ?_|refine wp_lt ?_))
   refine zrv hs (FS'.map λt=>(t.f.name,t.at_)) (.inl ⟨t.at_,hpm.map _⟩) λw' hs=>?_
   refine z5a ?_
   refine ⟨rfl,rfl,FS',hd.symm,λt' ht'=>⟨hpm.mem_iff.2 (List.mem_cons_of_mem _ ht'),h2 _ (List.mem_map.2 ⟨t',ht',rfl⟩)⟩,λt' ht' hne=>?_,hs.sub⟩
   rcases List.mem_cons.1 (hpm.mem_iff.1 ht') with rfl|h
   ·exact absurd rfl hne
   ·exact h
  ·have hn:=z7v hp hb
   refine z44 ?_
   refine z03 ?_ (by simp)
   refine z5a ?_
   rw [zs9 hn]
   exact ⟨rfl,rfl,FS,hp,λt ht=>⟨ht,hn _ (hp.mem_iff.1 (List.mem_map.2 ⟨t,ht,rfl⟩))⟩,λt ht _=>ht,hs⟩
theorem zzq {A:DiskA} (h:okA A) (n:ByteArray):okA { A with fs:=z4b n A.fs }:=by
 have hle:used (z4b n A.fs)<=used A.fs:=by
  have:∀ fs:List FileA,used (z4b n fs)<=used fs:=λfs=>by
   induction fs with
   | nil=>exact Nat.le_refl _
   | cons f r ih =>
    unfold z4b at *
    rw [z1m,List.filter_cons]
    split
    ·rw [z1m];omega
    ·omega
  exact this _
 exact ⟨h.room,Nat.le_trans hle h.used,Nat.le_trans (List.length_filter_le _ _) h.many,h.left,zn3 n h.sorted,λf hf=>h.kept f (zjs.1 hf).1,λf hf=>h.names f (zjs.1 hf).1⟩
theorem zh9 {k:Prog} {Q:List Value->World->Prop} (hs:Sat w l) [hf:Fo l dk d A r] (h1:A.gone=true->∀ w',Sat w' (dk d A::r)->Q [.int .i64 9] w') (h0:A.gone=false->∀ w',Sat w' (dk d A::r)->k.wp P tt w' λe vs w=>e=0/\Q vs w) :
  (Prog.call F.a35 [.pointer (some ⟨d,0,none⟩)] (sI .i64) (u1 λ(n0:Int)=>.lt (.int .i64) (n0) λ(n1:Int)=>.ite (n1 != 0) (.lt (.int .i64) (n1) λ(n2:Int)=>.done 0 [.int .i64 n2]) k)).wp P tt w λe vs w=>e=0/\Q vs w:=by
 refine z8 (z0a7 hs) λ_ _ hs=>?_
 obtain ⟨rfl,hs⟩:=hs
 refine zd ?_
 refine wp_lt ?_
 by_cases hg:A.gone=true
 ·rw [if_pos hg]
  refine z0u ?_ (by decide)
  exact wp_lt ⟨rfl,h1 hg _ hs⟩
 ·rw [if_neg hg]
  refine z03 ?_ (by decide)
  exact h0 (by simpa using hg) _ hs
theorem zc7 (n:ByteArray) [hf:Fo l dk d A r] (hs:Sat w l):Ret P F.a30 #[.pointer (some ⟨d,0,none⟩),.string n] w λvs w'=>vs=[.int .i64 (z19 A n).1]/\Sat w' (dk d (z19 A n).2::r) :=
 zu4 _ n <| by
  delta z085 AA AY Aa Af Ah Aj Ak B4 BF BG Bh;unfold z19
  refine zh9 hs (λhg w' hs=>?_) λhg w' hs=>?_
  ·rw [if_pos hg];exact ⟨rfl,hs⟩
  rw [if_neg (by rw [hg];simp)]
  obtain ⟨m,FS,hp,hok,hs⟩:=z2b hs
  (repeat (first|with_reducible (first|refine zl ?_|refine zi ?_|refine z0n ?_|refine zb hs ?_|refine zj hs ?_|refine ze ?_|refine z02 hs λ_ hs=>?_|refine zt hs λ_ _ hs=>?_|refine zr hs λ_ _ hs=>?_|refine z08 hs λ_ hs=>?_|refine zv hs λ_ hs=>?_)|(apply wp_must;(focus first|trivial|omega|assumption))|refine z1c ?_|refine wp_lt ?_))
  refine z7q hs (λb hb=>?_) λhb=>?_
  ·obtain ⟨t,ht,rfl,rfl,hA⟩:=z94 hp hb
   refine z03 ?_ (by simp)
   rw [if_neg (by rw [z6e.2 ⟨_,hA,rfl⟩];simp)]
   refine z8 (z061 t.f.name m hp hok hs) λ_ _ hs=>?_
   obtain ⟨rfl,FS',hp',-,-,hs⟩:=hs
   refine zd ?_
   (repeat (first|with_reducible (first|refine zl ?_|refine zi ?_|refine z0n ?_|refine zb hs ?_|refine zj hs ?_|refine ze ?_|refine z02 hs λ_ hs=>?_|refine zt hs λ_ _ hs=>?_|refine zr hs λ_ _ hs=>?_|refine z08 hs λ_ hs=>?_|refine zv hs λ_ hs=>?_)|(apply wp_must;(focus first|trivial|omega|assumption))|refine z1c ?_|refine wp_lt ?_))
   rw [hg] at hs
   refine z8 (zcb (l':=r) hg (zzq hok t.f.name) hp' hs) λ_ _ hs=>?_
   obtain ⟨rfl,hs⟩:=hs
   refine zd ?_
   (repeat (first|with_reducible (first|refine zl ?_|refine zi ?_|refine z0n ?_|refine zb hs ?_|refine zj hs ?_|refine ze ?_|refine z02 hs λ_ hs=>?_|refine zt hs λ_ _ hs=>?_|refine zr hs λ_ _ hs=>?_|refine z08 hs λ_ hs=>?_|refine zv hs λ_ hs=>?_)|(apply wp_must;(focus first|trivial|omega|assumption))|refine z1c ?_|refine wp_lt ?_))
   exact ⟨rfl,rfl,hs⟩
  ·refine z0u ?_ (by rfl)
   rw [if_pos (z6f.2 (z7v hp hb))]
   exact ⟨rfl,rfl,z2f m hp hok hs⟩
theorem zce {fs fs':List FileA} {f:FileA} {g:FileA->FileA} (hp:fs.Perm (f::fs')) (hne:∀ g ∈ fs',g.name≠f.name):used (fs.map (z1x f.name g))=(g f).b.length+used fs':=by
 rw [z41 (z74 hp hne),z1m]
theorem z09z (n:ByteArray) (k:Int) [hf:Fo l dk d A r] (hs:Sat w l):Ret P F.a25 #[.pointer (some ⟨d,0,none⟩),.string n,.int .i64 k] w λvs w'=>vs=[.int .i64 (cutA' A n k).1]/\Sat w' (dk d (cutA' A n k).2::r) :=
 zu0 _ n k <| by
  delta z081 AA AC AG AH AI AP AS AY Aa Af Ah Aj Ak An Aw B1 B4 BF BG Bh Bk;unfold cutA'
  refine zh9 hs (λhg w' hs=>?_) λhg w' hs=>?_
  ·rw [if_pos hg];exact ⟨rfl,hs⟩
  rw [if_neg (by rw [hg];simp)]
  obtain ⟨m,FS,hp,hok,hs⟩:=z2b hs
  (repeat (first|with_reducible (first|refine zl ?_|refine zi ?_|refine z0n ?_|refine zb hs ?_|refine zj hs ?_|refine ze ?_|refine z02 hs λ_ hs=>?_|refine zt hs λ_ _ hs=>?_|refine zr hs λ_ _ hs=>?_|refine z08 hs λ_ hs=>?_|refine zv hs λ_ hs=>?_)|(apply wp_must;(focus first|trivial|omega|assumption))|refine z1c ?_|refine wp_lt ?_))
  refine z7q hs (λb hb=>?_) λhb=>?_
  ·obtain ⟨t,ht,rfl,rfl,hA⟩:=z94 hp hb
   refine wp_lt ?_
   refine z03 ?_ (by simp)
   rw [if_neg (by rw [z6e.2 ⟨_,hA,rfl⟩];simp),z04j (z2x hok.sorted) hA rfl]
   obtain ⟨FS',hpm,hs⟩:=z7i hs ht
   obtain ⟨h1,h2,-⟩:=apart hp hok hpm
   have hlen:=hs.slen t.x (xs:=t.f.b) (enc:=zk)
   have hcap:=(hs.focS t.x).slc_cap
   (repeat (first|with_reducible (first|refine zl ?_|refine zi ?_|refine z0n ?_|refine zb hs ?_|refine zj hs ?_|refine ze ?_|refine z02 hs λ_ hs=>?_|refine zt hs λ_ _ hs=>?_|refine zr hs λ_ _ hs=>?_|refine z08 hs λ_ hs=>?_|refine zv hs λ_ hs=>?_)|(apply wp_must;(focus first|trivial|omega|assumption))|refine z1c ?_|refine wp_lt ?_))
   refine zf (λh=>?_) λh=>?_
   ·rw [if_pos (by omega)]
    have hs:=(z6u t hs).all_perm (hpm.symm.map z3t)
    exact ⟨rfl,rfl,z2f m hp hok hs⟩
   ·rw [if_neg (by omega)]
    obtain ⟨k,rfl⟩:∃ j:Nat,k=j:=⟨k.toNat,by omega⟩
    rw [Int.toNat_natCast]
    have hk:k<=t.f.b.length:=by omega
    have hu0:used A.fs=t.f.b.length+used (FS'.map FileM.f):=by rw [z41 h1,z1m]
    have hu1:=zce (g:=λf=>{ f with b:=f.b.take k,kept:=min f.kept k }) h1 h2
    have hu2:used (A.fs.map (z1x t.f.name λf=>{ f with b:=f.b.take k,kept:=min f.kept k }))=k+used (FS'.map FileM.f):=by
     rw [hu1];show (t.f.b.take k).length+_=_;rw [List.length_take,Nat.min_eq_left hk]
    have hou:=hok.used
    refine z02 hs λw' hs=>?_
    refine zi ?_
    refine zb hs ?_
    refine zi ?_
    refine zb hs ?_
    have e1:IntKind.wrap .i64 ((used A.fs:Nat)-IntKind.wrap .i64 (((t.x.len:Nat):Int)-(k:Int)))=(used (A.fs.map (z1x t.f.name λf=>{ f with b:=f.b.take k,kept:=min f.kept k })):Nat):=by
     rw [w64 (x:=((t.x.len:Nat):Int)-(k:Int)) (by omega) (by omega),w64 (by omega) (by omega)];omega
    rw [e1]
    (repeat (first|with_reducible (first|refine zl ?_|refine zi ?_|refine z0n ?_|refine zb hs ?_|refine zj hs ?_|refine ze ?_|refine z02 hs λ_ hs=>?_|refine zt hs λ_ _ hs=>?_|refine zr hs λ_ _ hs=>?_|refine z08 hs λ_ hs=>?_|refine zv hs λ_ hs=>?_)|(apply wp_must;(focus first|trivial|omega|assumption))|refine z1c ?_|refine wp_lt ?_))
    have hs:=(hs.focS t.x).slc_cut (n:=k) (by omega)
    rw [z7o] at hs
    have e2:(if (k:Int)<((t.f.kept:Nat):Int) then (k:Int) else ((t.f.kept:Nat):Int))=((min t.f.kept k:Nat):Int):=by split <;> omega
    rw [e2] at hs
    have hs:=z6u (FS:=FS') ⟨t.at_,⟨t.x.a,k,k⟩,⟨t.f.name,t.f.b.take k,min t.f.kept k⟩⟩ hs
    have hp':(((⟨t.at_,⟨t.x.a,k,k⟩,⟨t.f.name,t.f.b.take k,min t.f.kept k⟩⟩:FileM)::FS').map FileM.f).Perm (A.fs.map (z1x t.f.name λf=>{ f with b:=f.b.take k,kept:=min f.kept k })) :=
     (z74 (g:=λf=>{ f with b:=f.b.take k,kept:=min f.kept k }) h1 h2).symm
    have hok':okA { A with fs:=A.fs.map (z1x t.f.name λf=>{ f with b:=f.b.take k,kept:=min f.kept k }) }:=by
     refine ⟨hok.room,by show used (A.fs.map _)<=_;omega,by show (A.fs.map _).length<=_;rw [List.length_map];exact hok.many,hok.left,z99 (z6p λ_=>rfl) hok.sorted,λf hf=>?_,λf hf=>?_⟩
     rotate_left
     ·obtain ⟨g,hg,rfl⟩:=List.mem_map.1 hf
      rw [z6p (by intro _;rfl)];exact hok.names g hg
     obtain ⟨g,hg,rfl⟩:=List.mem_map.1 hf
     have:=hok.kept g hg
     unfold z1x
     split
     ·show min g.kept k<=(g.b.take k).length;rw [List.length_take];omega
     ·exact this
    have hs:Sat _ (z1f ekS evF m (((⟨t.at_,⟨t.x.a,k,k⟩,⟨t.f.name,t.f.b.take k,min t.f.kept k⟩⟩:FileM)::FS').map λt=>(t.f.name,t.at_))::_):=(hs.pick [2]).mapPerm (hpm.map λt=>(t.f.name,t.at_))
    rw [hg] at hs
    refine z8 (zcb (l':=r) hg hok' hp' hs) λ_ _ hs=>?_
    obtain ⟨rfl,hs⟩:=hs
    refine zd ?_
    (repeat (first|with_reducible (first|refine zl ?_|refine zi ?_|refine z0n ?_|refine zb hs ?_|refine zj hs ?_|refine ze ?_|refine z02 hs λ_ hs=>?_|refine zt hs λ_ _ hs=>?_|refine zr hs λ_ _ hs=>?_|refine z08 hs λ_ hs=>?_|refine zv hs λ_ hs=>?_)|(apply wp_must;(focus first|trivial|omega|assumption))|refine z1c ?_|refine wp_lt ?_))
    exact ⟨rfl,rfl,hs⟩
  ·refine wp_lt ?_
   refine z0u ?_ (by rfl)
   rw [if_pos (z6f.2 (z7v hp hb))]
   exact ⟨rfl,rfl,z2f m hp hok hs⟩
end
section
variable {w:World} {l r:List HP} {d:Nat} {A:DiskA}
theorem zsy {s:ByteArray} (h:z3j s=true):s.size<=24:=by
 simp only [z3j,Bool.and_eq_true,decide_eq_true_eq] at h;exact h.2.2
theorem zwb (n:ByteArray) (fs:List FileA):(z4b n fs).length<=fs.length:=List.length_filter_le _ _
end
structure TbC where
 next:Int
 l:List AtM
def z0g (l:List AtM) (k:ByteArray):Nat:=(l.filter λa=>ltS a.r.key k).length
def z38 (l:List AtM) (k:ByteArray):Bool:=(l[z0g l k]?).any λa=>decide (a.r.key=k)
def z21 (T:TbC) (r:AtM):TbC:=⟨r.off+1,if z38 T.l r.r.key=true then (if r.r.gone=true then T.l.take (z0g T.l r.r.key)++T.l.drop (z0g T.l r.r.key+1) else T.l.set (z0g T.l r.r.key) r) else if r.r.gone=true then T.l else T.l.take (z0g T.l r.r.key)++r::T.l.drop (z0g T.l r.r.key)⟩
def z1j:Int->List AtM->Bool
 | _,[]=>true
 | f,a::l=>if a.off<f then false else z1j (a.off+1) l
def z66 (l:List AtM):Prop:=l.Pairwise λa b=>ltS a.r.key b.r.key=true
def z8m (xs:List AtM):Bool:=xs.getLast?.any λa=>decide (a.off>1099511627776)
def z3g (T:TbC) (xs:List AtM):Int × TbC:=if z1j T.next xs=false\/z8m xs=true then (8,T) else (0,xs.foldl z21 T)
def z24 (l:List AtM) (k:ByteArray):Option AtM:=if z38 l k=true then l[z0g l k]? else none
theorem zi5 (l:List AtM) (k:ByteArray):z0g l k<=l.length:=List.length_filter_le ..
theorem zz0 {l:List AtM} {k:ByteArray} {i:Nat} (hs:z66 l) (hi:i<=l.length) (h1:∀ (h:i-1<l.length),0<i->ltS l[i-1].r.key k=true) (h2:∀ h:i<l.length,ltS l[i].r.key k=false):z0g l k=i:=by
 unfold z0g
 rw [zhm (p:=λa=>ltS a.r.key k) hi (hs.imp λ{a b} hab hb=>z4t hab hb) h1 h2,List.length_take]
 omega
theorem z7t:∀ {l:List AtM} {k:ByteArray},z66 l->(∀ a ∈ l.take (z0g l k),ltS a.r.key k=true)/\∀ a ∈ l.drop (z0g l k),ltS a.r.key k=false
 | [],k,_=>⟨λa h=>by simp at h,λa h=>by simp at h⟩
 | a::l,k,hs=>by
  obtain ⟨h1,h2⟩:=List.pairwise_cons.1 hs
  obtain ⟨i1,i2⟩:=z7t (l:=l) (k:=k) h2
  by_cases h:ltS a.r.key k=true
  ·have e:z0g (a::l) k=z0g l k+1:=by unfold z0g;rw [List.filter_cons_of_pos (by simpa using h),List.length_cons]
   rw [e,List.take_succ_cons,List.drop_succ_cons]
   refine ⟨λb hb=>?_,i2⟩
   rcases List.mem_cons.1 hb with rfl|hb
   ·exact h
   ·exact i1 b hb
  ·have h0:∀ b ∈ a::l,ltS b.r.key k=false:=λb hb=>by
    rcases List.mem_cons.1 hb with rfl|hb
    ·simpa using h
    ·cases hk:ltS b.r.key k with
     | false=>rfl
     | true=>exact absurd (z4t (h1 b hb) hk) h
   have e:z0g (a::l) k=0:=by
    unfold z0g
    rw [List.filter_eq_nil_iff.2 λb hb=>by simp [h0 b hb]];rfl
   rw [e]
   exact ⟨λb hb=>by simp at hb,λb hb=>h0 b (by simpa using hb)⟩
theorem z5n {l:List AtM} {k:ByteArray}:z38 l k=true↔∃ h:z0g l k<l.length,l[z0g l k].r.key=k:=by
 unfold z38
 by_cases h:z0g l k<l.length
 ·rw [List.getElem?_eq_getElem h];simp [h]
 ·rw [List.getElem?_eq_none (by omega)];simp [h]
theorem zqg {l:List AtM} {k:ByteArray} (hs:z66 l) (ht:z38 l k=false):∀ a ∈ l.drop (z0g l k),ltS k a.r.key=true:=λa ha=>by
 have h1:=(z7t (k:=k) hs).2
 have hd:(l.drop (z0g l k)).Pairwise λa b=>ltS a.r.key b.r.key=true:=hs.sublist (List.drop_sublist ..)
 have hnt:¬ ∃ h:z0g l k<l.length,l[z0g l k].r.key=k:=λh=>by rw [z5n.2 h] at ht;cases ht
 by_cases hl:z0g l k<l.length
 ·rw [List.drop_eq_getElem_cons hl] at ha hd h1
  have h0:ltS k l[z0g l k].r.key=true:=by
   rcases zah k l[z0g l k].r.key with h|h|h
   ·exact h
   ·exact absurd ⟨hl,h.symm⟩ hnt
   ·rw [h1 _ (List.mem_cons_self ..)] at h;cases h
  rcases List.mem_cons.1 ha with rfl|ha
  ·exact h0
  ·exact z4t h0 ((List.pairwise_cons.1 hd).1 a ha)
 ·rw [List.drop_eq_nil_of_le (by omega)] at ha;cases ha
theorem zge {T:TbC} (r:AtM) (hs:z66 T.l):z66 (z21 T r).l:=by
 unfold z21
 split
 ·rename_i ht
  obtain ⟨hi,hk⟩:=z5n.1 ht
  split
  ·rw [<- List.eraseIdx_eq_take_drop_succ]
   exact hs.sublist (List.eraseIdx_sublist ..)
  ·have e:(T.l.set (z0g T.l r.r.key) r).map (λa=>a.r.key)=T.l.map λa=>a.r.key:=by
    rw [List.map_set]
    apply List.ext_getElem (by simp)
    intro j h1 h2
    rw [List.getElem_set]
    split
    ·rename_i e;subst e;simp [hk]
    ·rfl
   have h1:(T.l.map λa=>a.r.key).Pairwise λa b=>ltS a b=true:=by rw [List.pairwise_map];exact hs
   rw [<- e,List.pairwise_map] at h1
   exact h1
 ·rename_i ht
  have ht:z38 T.l r.r.key=false:=by simpa using ht
  split
  ·exact hs
  ·have hg:=zqg hs ht
   obtain ⟨h1,-⟩:=z7t (k:=r.r.key) hs
   refine List.pairwise_append.2 ⟨hs.sublist (List.take_sublist ..),List.pairwise_cons.2 ⟨hg,hs.sublist (List.drop_sublist ..)⟩,λa ha b hb=>?_⟩
   rcases List.mem_cons.1 hb with rfl|hb
   ·exact h1 a ha
   ·exact z4t (h1 a ha) (hg b hb)
theorem zri (T:TbC) (r:AtM):(z21 T r).l.length<=T.l.length+1:=by
 unfold z21
 have:=zi5 T.l r.r.key
 split
 ·split
  ·simp only [List.length_append,List.length_take,List.length_drop];omega
  ·simp
 ·split
  ·exact Nat.le_succ _
  ·simp only [List.length_append,List.length_cons,List.length_take,List.length_drop];omega
theorem zc9:∀ (xs:List AtM) (T:TbC),(xs.foldl z21 T).l.length<=T.l.length+xs.length
 | [],T=>Nat.le_refl _
 | x::xs,T=>by
  have h1:=zc9 xs (z21 T x)
  have h2:=zri T x
  rw [List.foldl_cons,List.length_cons];omega
theorem z9p {a b:ByteArray} (h:ltS a b=true):a≠b:=λe=>by rw [e,z4s] at h;cases h
theorem zbb {l:List AtM} {k:ByteArray} {a:AtM} (hs:z66 l):z24 l k=some a↔a ∈ l/\a.r.key=k:=by
 unfold z24
 constructor
 ·intro h
  split at h
  ·rename_i ht
   obtain ⟨hi,hk⟩:=z5n.1 ht
   rw [List.getElem?_eq_getElem hi] at h
   obtain rfl:=Option.some.inj h
   exact ⟨List.getElem_mem hi,hk⟩
  ·cases h
 ·rintro ⟨hm,hk⟩
  obtain ⟨h1,h2⟩:=z7t (k:=k) hs
  have hm':a ∈ l.take (z0g l k)++l.drop (z0g l k):=by rw [List.take_append_drop];exact hm
  rcases List.mem_append.1 hm' with hm|hm
  ·exact absurd hk (z9p (h1 a hm))
  ·by_cases hi:z0g l k<l.length
   ·have hd:(l.drop (z0g l k)).Pairwise λa b=>ltS a.r.key b.r.key=true:=hs.sublist (List.drop_sublist ..)
    rw [List.drop_eq_getElem_cons hi] at hm h2 hd
    rcases List.mem_cons.1 hm with rfl|hm
    ·rw [if_pos (z5n.2 ⟨hi,hk⟩),List.getElem?_eq_getElem hi]
    ·have:=(List.pairwise_cons.1 hd).1 a hm
     rw [hk,h2 _ (List.mem_cons_self ..)] at this;cases this
   ·rw [List.drop_eq_nil_of_le (by omega)] at hm;cases hm
theorem zdt {l:List AtM} {k:ByteArray}:z38 l k=(z24 l k).isSome:=by
 unfold z24
 split
 ·rename_i h
  obtain ⟨hi,-⟩:=z5n.1 h
  rw [h,List.getElem?_eq_getElem hi];rfl
 ·rename_i h
  simpa using h
theorem zqw {T:TbC} {r x:AtM} (hs:z66 T.l):x ∈ (z21 T r).l↔(x=r/\r.r.gone=false)\/(x ∈ T.l/\x.r.key≠r.r.key):=by
 obtain ⟨h1,h2⟩:=z7t (k:=r.r.key) hs
 have h1:∀ a ∈ T.l.take (z0g T.l r.r.key),a.r.key≠r.r.key:=λa ha=>z9p (h1 a ha)
 have hl:x ∈ T.l↔x ∈ T.l.take (z0g T.l r.r.key)\/x ∈ T.l.drop (z0g T.l r.r.key):=by
  rw [<- List.mem_append,List.take_append_drop]
 unfold z21
 by_cases ht:z38 T.l r.r.key=true
 ·obtain ⟨hi,hk⟩:=z5n.1 ht
  have hd:(T.l.drop (z0g T.l r.r.key)).Pairwise λa b=>ltS a.r.key b.r.key=true:=hs.sublist (List.drop_sublist ..)
  rw [List.drop_eq_getElem_cons hi] at hd hl
  have h3:∀ a ∈ T.l.drop (z0g T.l r.r.key+1),a.r.key≠r.r.key:=λa ha e=>by
   have:=(List.pairwise_cons.1 hd).1 a ha
   rw [hk] at this
   exact z9p this e.symm
  rw [if_pos ht,hl]
  by_cases hg:r.r.gone=true
  ·rw [if_pos hg]
   simp only [List.mem_append,List.mem_cons,hg,Bool.true_eq_false,and_false,false_or]
   constructor
   ·rintro (h|h)
    ·exact ⟨.inl h,h1 _ h⟩
    ·exact ⟨.inr (.inr h),h3 _ h⟩
   ·rintro ⟨h|h|h,hne⟩
    ·exact .inl h
    ·exact absurd (by rw [h];exact hk) hne
    ·exact .inr h
  ·have hg:r.r.gone=false:=by simpa using hg
   rw [if_neg (by rw [hg];simp),List.set_eq_take_append_cons_drop,if_pos hi]
   simp only [List.mem_append,List.mem_cons,hg,and_true]
   constructor
   ·rintro (h|h|h)
    ·exact .inr ⟨.inl h,h1 _ h⟩
    ·exact .inl h
    ·exact .inr ⟨.inr (.inr h),h3 _ h⟩
   ·rintro (h|⟨h|h|h,hne⟩)
    ·exact .inr (.inl h)
    ·exact .inl h
    ·exact absurd (by rw [h];exact hk) hne
    ·exact .inr (.inr h)
 ·have ht:z38 T.l r.r.key=false:=by simpa using ht
  have h3:∀ a ∈ T.l.drop (z0g T.l r.r.key),a.r.key≠r.r.key:=λa ha=>(z9p (zqg hs ht a ha)).symm
  rw [if_neg (by rw [ht];simp)]
  by_cases hg:r.r.gone=true
  ·rw [if_pos hg]
   simp only [hg,Bool.true_eq_false,and_false,false_or]
   constructor
   ·intro h
    refine ⟨h,?_⟩
    rcases hl.1 h with h|h
    ·exact h1 _ h
    ·exact h3 _ h
   ·exact λh=>h.1
  ·have hg:r.r.gone=false:=by simpa using hg
   rw [if_neg (by rw [hg];simp),hl]
   simp only [List.mem_append,List.mem_cons,hg,and_true]
   constructor
   ·rintro (h|h|h)
    ·exact .inr ⟨.inl h,h1 _ h⟩
    ·exact .inl h
    ·exact .inr ⟨.inr h,h3 _ h⟩
   ·rintro (h|⟨h|h,hne⟩)
    ·exact .inr (.inl h)
    ·exact .inl h
    ·exact .inr (.inr h)
theorem z046 {T:TbC} {r:AtM} (hs:z66 T.l) (k:ByteArray):z24 (z21 T r).l k=if r.r.key=k then (if r.r.gone=true then none else some r) else z24 T.l k:=by
 apply Option.ext
 intro a
 rw [zbb (zge r hs),zqw hs]
 by_cases hk:r.r.key=k
 ·rw [if_pos hk]
  by_cases hg:r.r.gone=true
  ·rw [if_pos hg]
   simp only [hg,Bool.true_eq_false,and_false,false_or,reduceCtorEq,iff_false]
   rintro ⟨⟨h,h1⟩,h2⟩
   exact h1 (h2.trans hk.symm)
  ·rw [if_neg hg]
   have hg:r.r.gone=false:=by simpa using hg
   simp only [hg,and_true,Option.some.injEq]
   constructor
   ·rintro ⟨h|⟨h,h1⟩,h2⟩
    ·exact h.symm
    ·exact absurd (h2.trans hk.symm) h1
   ·rintro rfl
    exact ⟨.inl rfl,hk⟩
 ·rw [if_neg hk,zbb hs]
  constructor
  ·rintro ⟨⟨h,-⟩|⟨h,h1⟩,h2⟩
   ·rw [h] at h2;exact absurd h2 hk
   ·exact ⟨h,h2⟩
  ·rintro ⟨h,h2⟩
   exact ⟨.inr ⟨h,λe=>hk (e.symm.trans h2)⟩,h2⟩
def z7u (L:List RecM) (k:ByteArray):Option RecM:=L.reverse.find? λr=>decide (r.key=k)
def z57 (L:List RecM) (k:ByteArray):Option RecM:=(z7u L k).filter λr=>!r.gone
theorem zjp (L:List RecM) (x:RecM) (k:ByteArray):z7u (L++[x]) k=if x.key=k then some x else z7u L k:=by
 unfold z7u
 rw [List.reverse_append]
 show ([x]++L.reverse).find? _=_
 rw [List.singleton_append,List.find?_cons]
 by_cases h:x.key=k
 ·rw [if_pos h,decide_eq_true h]
 ·rw [if_neg h,decide_eq_false h]
structure InvL (T:TbC) (L:List RecM):Prop where
 sort:z66 T.l
 gone:∀ a ∈ T.l,a.r.gone=false
 get:∀ k,(z24 T.l k).map (·.r)=z57 L k
theorem zm1 (n:Int):InvL ⟨n,[]⟩ []:=⟨.nil,λ_ h=>(by cases h),λk=>rfl⟩
theorem zz6 {T:TbC} {L:List RecM} (r:AtM) (h:InvL T L):InvL (z21 T r) (L++[r.r]):=by
 refine ⟨zge r h.sort,λa ha=>?_,λk=>?_⟩
 ·rcases (zqw h.sort).1 ha with ⟨rfl,h1⟩|⟨h1,-⟩
  ·exact h1
  ·exact h.gone a h1
 ·rw [z046 h.sort]
  unfold z57
  rw [zjp]
  by_cases hk:r.r.key=k
  ·rw [if_pos hk,if_pos hk]
   by_cases hg:r.r.gone=true
   ·rw [if_pos hg,Option.filter_some,if_neg (by rw [hg];simp)];rfl
   ·rw [if_neg hg,Option.filter_some,if_pos (by simpa using hg)];rfl
  ·rw [if_neg hk,if_neg hk]
   exact h.get k
theorem zdc:∀ (xs:List AtM) {T:TbC} {L:List RecM},InvL T L->InvL (xs.foldl z21 T) (L++xs.map (·.r))
 | [],T,L,h=>by rw [List.map_nil,List.append_nil];exact h
 | x::xs,T,L,h=>by
  have:=zdc xs (zz6 x h)
  rw [List.append_assoc] at this
  exact this
theorem zsn {T:TbC} {L:List RecM} (h:InvL T L) (k:ByteArray):k ∈ T.l.map (λa=>a.r.key)↔(z57 L k).isSome=true:=by
 rw [<- h.get k,Option.isSome_map,<- zdt,List.mem_map]
 constructor
 ·rintro ⟨a,ha,rfl⟩
  rw [zdt,(zbb h.sort).2 ⟨ha,rfl⟩];rfl
 ·intro ht
  rw [zdt,Option.isSome_iff_exists] at ht
  obtain ⟨a,ha⟩:=ht
  obtain ⟨h1,h2⟩:=(zbb h.sort).1 ha
  exact ⟨a,h1,h2⟩
structure RowA where
 pid:Int
 epoch:Int
 seq:Int
 count:Int
 base:Int
 frm:Int
 time:Int
def z6b (t:RowA):List Value:=[.int .i64 t.pid,.int .i64 t.epoch,.int .i64 t.seq,.int .i64 t.count,.int .i64 t.base,.int .i64 t.frm,.int .i64 t.time]
instance:EncA z6b [.int .i64,.int .i64,.int .i64,.int .i64,.int .i64,.int .i64,.int .i64] (λt=>(t.pid,t.epoch,t.seq,t.count,t.base,t.frm,t.time,())):=⟨λ_=>rfl⟩
instance:EncN z6b 7:=⟨λ_=>rfl,by decide,by simp [z6b,Value.oneCell']⟩
instance:EncF z6b 0 (.int .i64) (λt=>t.pid):=⟨λ_=>rfl⟩
instance:EncF z6b 1 (.int .i64) (λt=>t.epoch):=⟨λ_=>rfl⟩
instance:EncF z6b 2 (.int .i64) (λt=>t.seq):=⟨λ_=>rfl⟩
instance:EncF z6b 3 (.int .i64) (λt=>t.count):=⟨λ_=>rfl⟩
instance:EncF z6b 4 (.int .i64) (λt=>t.base):=⟨λ_=>rfl⟩
instance:EncF z6b 5 (.int .i64) (λt=>t.frm):=⟨λ_=>rfl⟩
instance:EncF z6b 6 (.int .i64) (λt=>t.time):=⟨λ_=>rfl⟩
abbrev evW (t:RowA):Value:=.agg #[.int .i64 t.pid,.int .i64 t.epoch,.int .i64 t.seq,.int .i64 t.count,.int .i64 t.base,.int .i64 t.frm,.int .i64 t.time]
theorem zju {K V:Type} {kk:K} {v v':V}:∀ {es:List (K × V)},(es.map Prod.fst).Nodup->(kk,v) ∈ es->(kk,v') ∈ es->v'=v
 | a::r,hnd,hv,hv'=>by
  rw [List.map_cons,List.nodup_cons] at hnd
  rcases List.mem_cons.1 hv with h1|h1 <;> rcases List.mem_cons.1 hv' with h2|h2
  ·rw [<- h1] at h2;exact (Prod.mk.inj h2).2
  ·exact absurd (List.mem_map.2 ⟨_,h2,by rw [<- h1]⟩) hnd.1
  ·exact absurd (List.mem_map.2 ⟨_,h1,by rw [<- h2]⟩) hnd.1
  ·exact zju hnd.2 h1 h2
section
variable {K V:Type} {ek:K->Value} {ev:V->Value} {m:Nat} {es:List (K × V)} {P:Program} {w:World} {l r:List HP} {Q:Post} {S:World->Prop} {T kt:TypeId} {z:Value} {g:Prop} {kk:K} {kv:Value}
theorem zqr [hf:FoM l m ek ev es r] [hT:MapT P T kt z] [hk:KeyT P kt ek] [hkv:IsK ek kv kk] (hs:Sat w l) {v:V} (hv:(kk,v) ∈ es) {ss:List Sh1} {x:HL (prims ss)} (hx:z1b ss x=[ev v,.bool true]) :
  (Instr.lookup T (.map (some m)) kv true).run P w=.ok ((Sh.tup ss).mk x) w:=by
 have hs:=hs.perm hf.perm
 have hnd:=hs.mapNodup
 rcases zc8 (P:=P) (T:=T) true hs kk with ⟨v',hv',hr⟩|⟨hno,-⟩
 ·have:v'=v:=zju hnd hv hv'
  rw [hkv.ok,hr,this]
  show Result.ok (Value.tuple #[ev v,.bool true]) w=Result.ok (Value.tuple (z1b ss x).toArray) w
  rw [hx]
 ·exact absurd hv (hno _)
theorem zm9 [hf:FoM l m ek ev es r] [hT:MapT P T kt z] [hk:KeyT P kt ek] [hkv:IsK ek kv kk] (hs:Sat w l) (hv:∀ v,(kk,v) ∉ es) {ss:List Sh1} {x:HL (prims ss)} (hx:z1b ss x=[z,.bool false]) :
  (Instr.lookup T (.map (some m)) kv true).run P w=.ok ((Sh.tup ss).mk x) w:=by
 have hs:=hs.perm hf.perm
 rcases zc8 (P:=P) (T:=T) true hs kk with ⟨v',hv',hr⟩|⟨-,hr⟩
 ·exact absurd hv' (hv _)
 ·rw [hkv.ok,hr]
  show Result.ok (Value.tuple #[z,.bool false]) w=Result.ok (Value.tuple (z1b ss x).toArray) w
  rw [hx]
theorem zcg {ss:List Sh1} {k:HL (prims ss)->Prog} [hf:FoM l m ek ev es r] [hT:MapT P T kt z] [hk:KeyT P kt ek] [hkv:IsK ek kv kk] (hs:Sat w l) (o:Option V) (ho:(∃ v,o=some v/\(kk,v) ∈ es)\/(o=none/\∀ v,(kk,v) ∉ es)) (d:Option V->HL (prims ss))
  (h:(k (d o)).wp P (λw'=>S w'/\(g->(Instr.lookup T (.map (some m)) kv true).run P w'=.ok ((Sh.tup ss).mk (d o)) w')) w Q) (h1:∀ v,z1b ss (d (some v))=[ev v,.bool true]:=by intros;rfl) (h0:z1b ss (d none)=[z,.bool false]:=by rfl) :
  (Prog.hold g (Instr.lookup T (.map (some m)) kv true) (.tup ss) k).wp P S w Q:=by
 refine ⟨d o,λ_=>?_,h⟩
 rcases ho with ⟨v,rfl,hv⟩|⟨rfl,hv⟩
 ·exact zqr hs hv (h1 v)
 ·exact zm9 hs hv h0
theorem z8r {ss:List Sh1} [hf:FoM l m ek ev es r] [hT:MapT P T kt z] [hk:KeyT P kt ek] [hkv:IsK ek kv kk] (hs:Sat w l) {o:Option V} (ho:(∃ v,o=some v/\(kk,v) ∈ es)\/(o=none/\∀ v,(kk,v) ∉ es)) (d:Option V->HL (prims ss))
  (h1:∀ v,z1b ss (d (some v))=[ev v,.bool true]:=by intros;rfl) (h0:z1b ss (d none)=[z,.bool false]:=by rfl) :
  (Instr.lookup T (.map (some m)) kv true).run P w=.ok ((Sh.tup ss).mk (d o)) w:=by
 rcases ho with ⟨v,rfl,hv⟩|⟨rfl,hv⟩
 ·exact zqr hs hv (h1 v)
 ·exact zm9 hs hv h0
theorem z00w {ss:List Sh1} {k:HL (prims ss)->Prog} [hf:FoM l m ek ev es r] [hT:MapT P T kt z] [hk:KeyT P kt ek] [hkv:IsK ek kv kk] (hs:Sat w l) (o:Option V) (ho:(∃ v,o=some v/\(kk,v) ∈ es)\/(o=none/\∀ v,(kk,v) ∉ es)) (d:Option V->HL (prims ss))
  (h:(k (d o)).wp P S w Q) (h1:∀ v,z1b ss (d (some v))=[ev v,.bool true]:=by intros;rfl) (h0:z1b ss (d none)=[z,.bool false]:=by rfl) :
  (Prog.read g (Instr.lookup T (.map (some m)) kv true) (.tup ss) k).wp P S w Q :=
 ⟨d o,λ_=>z8r hs ho d h1 h0,h⟩
end
section
variable {P:Program} {w:World} {l r:List HP} {Q:Post} {S:World->Prop} {t:TypeId} {sz:Nat}
theorem z01f {α β γ δ:Type} {f:α->β->γ->δ->Prog} (a:α) (b:β) (c:γ) (d:δ) (h:(f a b c d).wp P S w Q):(u4 f (a,b,c,d,())).wp P S w Q:=h
theorem zei {α:Type} {enc:α->List Value} {n:Nat} {ps:Array (Nat × Value)} {el:TypeId} {bytes:Nat} {k:Sl->Prog} (hs:Sat w l) [ht:SlT P t el sz bytes] [hE:EncN enc sz] (xs:List α)
  (h:∀ x w',Sat w' (slc el sz x (xs.flatMap enc)::l)->(k x).wp P S w' Q) (hc:z42 P t n ps=some (el,(xs.flatMap enc).toArray):=by kernel_rfl) (hn:xs.length=n:=by rfl) (hS:∀ w',S w':=by exact λ_=>trivial) :
  (Prog.act (Instr.buildSlice t n ps) sL (u1 k)).wp P S w Q:=z9i hs xs hc (λb w' hs=>h _ w' hs) (by simp) hn hS
end
section
variable {P:Program} {w:World} {l r:List HP} {Q:Post} {S:World->Prop} {α β γ δ ε ζ η θ:Type}
theorem z1v {f:α->β->Prog} (a:α) (b:β) (h:(f a b).wp P S w Q):(u2 f (a,b,())).wp P S w Q:=h
theorem zek {f:α->β->γ->Prog} (a:α) (b:β) (c:γ) (h:(f a b c).wp P S w Q):(u3 f (a,b,c,())).wp P S w Q:=h
theorem z79 {f:α->β->γ->δ->ε->Prog} (a:α) (b:β) (c:γ) (d:δ) (e:ε) (h:(f a b c d e).wp P S w Q):(u5 f (a,b,c,d,e,())).wp P S w Q:=h
theorem z01g {f:α->β->γ->δ->ε->ζ->Prog} (a:α) (b:β) (c:γ) (d:δ) (e:ε) (z:ζ) (h:(f a b c d e z).wp P S w Q):(u6 f (a,b,c,d,e,z,())).wp P S w Q:=h
theorem ztl {f:α->β->γ->δ->ε->ζ->η->Prog} (a:α) (b:β) (c:γ) (d:δ) (e:ε) (z:ζ) (y:η) (h:(f a b c d e z y).wp P S w Q):(u7 f (a,b,c,d,e,z,y,())).wp P S w Q:=h
theorem zel {f:α->β->γ->δ->ε->ζ->η->θ->Prog} (a:α) (b:β) (c:γ) (d:δ) (e:ε) (z:ζ) (y:η) (x:θ) (h:(f a b c d e z y x).wp P S w Q):(u8 f (a,b,c,d,e,z,y,x,())).wp P S w Q:=h
theorem z05l {α:Type} {enc:α->List Value} {xs:List α} {i i':Int} {x:Sl} {T t:TypeId} {sz n':Nat} {k:Prog} {us:List Value} (hs:Sat w l) [hf:FocS l x T sz (xs.flatMap enc) r] [hE:EncN enc sz] [hT:Agg P t n'] (n:Nat) (hn:n<xs.length) (y:α)
  (h:∀ w',Sat w' (slc T sz x ((xs.set n y).flatMap enc)::r)->k.wp P S w' Q) (hy:us=enc y:=by rfl) (hi:i=n:=by first|rfl|omega) (hi':i'=i:=by rfl) (hz:Nat.beq sz n'=true:=by rfl) (hS:∀ w',S w':=by exact λ_=>trivial) :
  (Prog.ex [.adr] (c1 λa=>0<=i/\i<((x.len:Nat):Int)/\x.a=some a) (u1 λa=>.actU (st t (Addr.add a (Int.toNat i'*sz)) (.agg us.toArray)) k)).wp P S w Q:=by
 have hz:=Nat.eq_of_beq_eq_true hz
 subst hi hi' hz
 have hr:=(hs.focS x).rd
 have hl:x.len=xs.length:=hr.len hE.len hE.pos
 obtain ⟨a,ha,he⟩:=hr.el hE.len (by omega)
 refine ⟨(a,()),⟨by omega,by omega,ha⟩,?_⟩
 exact zy2 (xs:=xs) (i:=n) (y:=y) hE.len hs ha hn (λb o e=>by subst e;rw [z23,Int.toNat_natCast]) hT.ok.2 (by show us.toArray.toList=_;rw [hy]) (hE.one y) λw' hs'=>⟨hS _,h w' hs'⟩
theorem zxy {f : FuncId} {cap : Array Value} {args : List Value} {s : Sh} {k : HL s.prims → Prog} {vs₀ : List Value} {R : World → Prop} (hok : (P.funcs[f]?).any (fun fn => fn.body.isSome && fn.name != "runtime.NumGoroutine") = true) (x : HL s.prims)
  (hc:Ret P f (args.toArray++cap) w λvs w'=>vs=vs₀/\R w') (hx:z90 vs₀=s.mk x) (h:∀ w',R w'->S w'/\(k x).wp P S w' Q):(Prog.callv (.func (.func f) #[] cap) args s k).wp P S w Q:=by
 refine ⟨f,#[],cap,rfl,hok,?_⟩
 have e:(#[]:Array Value)++args.toArray++cap=args.toArray++cap:=by simp
 rw [e]
 refine Calls.mono hc λe w' ⟨vs,he,hv,hR⟩=>?_
 exact ⟨x,by rw [he,hv,hx],h w' hR⟩
end
section
variable {P:Program} {w:World} {l r:List HP} {Q:Post} {S:World->Prop} {b off:Nat} {T T':TypeId} {g:Prop}
theorem z053 {a:Addr} {vs:List Value} {fr:Nat × Nat} {ps:List Pr} (x:HL ps) {n:Nat} (hs:Sat w l) [ha:AddrIs a b off] [hb:FocB l b (.cells vs.toArray T' fr) r] [hT:Agg P T n] (hx:(vs.drop off).take n=HL.vals ps x) (hn:(HL.vals ps x).length=n) :
  (ld T a).run P w=.ok ((Sh.one (.agg ps)).mk x) w:=by
 rw [ha.ok]
 refine At.ldA (P:=P) (T:=T) (vs:=HL.vals ps x) ⟨b,off,vs.toArray,T',fr,rfl,(hs.focB b).get,λi hi=>?_⟩ hn
 rw [<- hx,List.getElem?_take,if_pos (by omega),List.getElem?_drop]
 simp
theorem znf {a:Addr} {vs:List Value} {fr:Nat × Nat} {ps:List Pr} {k:HL ps->Prog} (hs:Sat w l) (x:HL ps) {n:Nat} [ha:AddrIs a b off] [hb:FocB l b (.cells vs.toArray T' fr) r] [hT:Agg P T n] {p:Prog} [hA:App k x p]
  (h:p.wp P S w Q) (hx:(vs.drop off).take n=HL.vals ps x:=by rfl) (hn:(HL.vals ps x).length=n:=by rfl):(Prog.read g (ld T a) (.one (.agg ps)) k).wp P S w Q :=
 ⟨x,λ_=>z053 (T:=T) x hs hx hn,by rw [hA.ok];exact h⟩
end
section
variable {P:Program} {w:World} {l r:List HP} {Q:Post} {S:World->Prop} {T:TypeId} {sz:Nat} {x:Sl}
theorem At.part {A:Addr} {vs:List Value} (h:At w A vs) (j q:Nat):At w (A.add j) ((vs.drop j).take q):=by
 obtain ⟨b,o,arr,T',fr,rfl,hb,hc⟩:=h
 refine ⟨b,o+j,arr,T',fr,z23 ..,hb,λi hi=>?_⟩
 rw [List.length_take,List.length_drop] at hi
 rw [List.getElem?_take,if_pos (by omega),List.getElem?_drop,Nat.add_assoc,hc (j+i) (by omega)]
end
structure TabA where
 most:Int
 next:Int
 rows:List RowA
def z5w (A:TabA) (pid:Int):Option RowA:=A.rows.find? λr=>decide (r.pid=pid)
def z073 (pid:Int):RowA:=⟨pid,-1,0,0,0,-1,0⟩
def z0x (A:TabA) (pid:Int):RowA:=(z5w A pid).getD (z073 pid)
def z96 (rs:List RowA):List RowA:=rs.filter λr=>decide (0<=r.frm)
structure okRw (r:RowA) (next:Int):Prop where
 pid:1<=r.pid/\r.pid<=1048576
 epoch:0<=r.epoch/\r.epoch<=32768
 time:0<=r.time/\r.time<=1099511627776
 count:0<=r.count/\r.count<=64
 seq:0<=r.seq
 base:0<=r.base
 frm : -1<=r.frm
 none_:r.count=0->r.seq=0/\r.base=0/\r.frm = -1
 some_:0<r.count->r.epoch<=32767/\r.seq+r.count<=2147483648/\r.base+r.count<=next/\r.frm<=r.base
structure okTb (A:TabA):Prop where
 most:1<=A.most/\A.most<=4096
 next:0<=A.next/\A.next<=1099511627777
 many:(A.rows.length:Int)<=A.most
 row:∀ r ∈ A.rows,okRw r A.next
 byPid:A.rows.Pairwise λa b=>a.pid<b.pid
 apart:(z96 A.rows).Pairwise λa b=>a.frm≠b.frm
instance:KeyT P T.a14 ekI:=zm2 (by kernel_rfl)
instance:MapT P T.a20 T.a14 (.agg #[.int .i64 0,.int .i64 0,.int .i64 0,.int .i64 0,.int .i64 0,.int .i64 0,.int .i64 0]):=⟨T.a5,by kernel_rfl,by kernel_rfl⟩
def z3i (rs:List RowA):List (Int × RowA):=rs.map λr=>(r.pid,r)
def tb (t:Nat) (A:TabA):HP:=HP.ex λm:Nat=>HP.and (okTb A) (HP.star (pt t (.cells #[.int .i64 A.most,.int .i64 A.next,.map (some m)] T.a6)) (z1f ekI evW m (z3i A.rows)))
theorem okRw.seqs {r:RowA} {next:Int} (h:okRw r next):r.seq+r.count<=2147483648:=by
 have h1:=h.count;have h2:=h.seq
 rcases Int.lt_or_le 0 r.count with h3|h3
 ·exact (h.some_ h3).2.1
 ·have:=(h.none_ (by omega)).1;omega
theorem z2t {A:TabA} {pid:Int} {t:RowA} (h:z5w A pid=some t):t ∈ A.rows/\t.pid=pid:=⟨List.mem_of_find?_eq_some h,by simpa using List.find?_some h⟩
theorem zdp {A:TabA} {pid:Int} (h:z5w A pid=none):∀ t ∈ A.rows,t.pid≠pid:=λt ht=>by simpa using List.find?_eq_none.1 h t ht
theorem zk4 (A:TabA) (pid:Int):(∃ t,z5w A pid=some t/\(pid,t) ∈ z3i A.rows)\/(z5w A pid=none/\∀ t,(pid,t) ∉ z3i A.rows):=by
 cases h:z5w A pid with
 | some t=>exact .inl ⟨t,rfl,List.mem_map.2 ⟨t,(z2t h).1,by rw [(z2t h).2]⟩⟩
 | none=>exact .inr ⟨rfl,λt ht=>by
   obtain ⟨u,hu,e⟩:=List.mem_map.1 ht
   simp only [Prod.mk.injEq] at e
   exact zdp h u hu e.1⟩
theorem zip {A:TabA} (hok:okTb A) (pid:Int):0<=(z0x A pid).seq/\0<=(z0x A pid).count/\(z0x A pid).seq+(z0x A pid).count<=2147483648 /\ -1<=(z0x A pid).epoch/\(z0x A pid).epoch<=32768 /\ -1<=(z0x A pid).frm/\(z0x A pid).pid=pid:=by
 unfold z0x
 cases h:z5w A pid with
 | none=>simp [z073]
 | some t =>
  have h1:=hok.row t (z2t h).1
  have:=h1.seqs;have:=h1.seq;have:=h1.count;have:=h1.epoch;have:=h1.frm;have:=(z2t h).2
  simp only [Option.getD_some];omega
section
variable {w:World} {l r r1 r2 l':List HP} {t:Nat} {A:TabA}
theorem zbj (hs:Sat w (tb t A::l)):∃ m:Nat,okTb A/\Sat w (pt t (.cells #[.int .i64 A.most,.int .i64 A.next,.map (some m)] T.a6)::z1f ekI evW m (z3i A.rows)::l):=by
 obtain ⟨m,hs⟩:=hs.ex
 obtain ⟨hok,hs⟩:=hs.and
 exact ⟨m,hok,hs.star⟩
theorem z0aa (m:Nat) (hok:okTb A) (hs:Sat w (pt t (.cells #[.int .i64 A.most,.int .i64 A.next,.map (some m)] T.a6)::z1f ekI evW m (z3i A.rows)::l)):Sat w (tb t A::l):=.ex_mk m (.and_mk hok (.star_mk hs))
theorem z3o (m:Nat) (hok:okTb A) (hs:Sat w l) {es1:List (Int × RowA)} [h1:FocB l t (.cells [.int .i64 A.most,.int .i64 A.next,.map (some m)].toArray T.a6) r1] [h2:FoM r1 m ekI evW es1 r2] [h4:Sub r2 l']
  (hp1:es1.Perm (z3i A.rows):=by exact .refl _):Sat w (tb t A::l'):=by
 have hs:=hs.perm (h1.perm.trans (.cons _ h2.perm))
 have hs:=((hs.pick [1]).mapPerm hp1).pick [1]
 have hs:Sat w (tb t A::r2):=z0aa m hok hs
 exact hs.sub
theorem z01e (hs:Sat w (tb t A::l)):okTb A:=(zbj hs).choose_spec.1
instance {r:RowA}:IsR (sG [.int .i64,.int .i64,.int .i64,.int .i64,.int .i64,.int .i64,.int .i64]) [.agg (z6b r).toArray] (r.pid,r.epoch,r.seq,r.count,r.base,r.frm,r.time,()):=⟨rfl⟩
instance {r:RowA} {b:Bool}:IsR (.tup [.agg [.int .i64,.int .i64,.int .i64,.int .i64,.int .i64,.int .i64,.int .i64],.one .bool]) [.agg (z6b r).toArray,.bool b] (r.pid,r.epoch,r.seq,r.count,r.base,r.frm,r.time,b,()):=⟨rfl⟩
def z0a6 (o:Option RowA):Int × Int × Int × Int × Int × Int × Int × Bool × Unit :=
 ((o.getD ⟨0,0,0,0,0,0,0⟩).pid,(o.getD ⟨0,0,0,0,0,0,0⟩).epoch,(o.getD ⟨0,0,0,0,0,0,0⟩).seq,(o.getD ⟨0,0,0,0,0,0,0⟩).count,(o.getD ⟨0,0,0,0,0,0,0⟩).base,(o.getD ⟨0,0,0,0,0,0,0⟩).frm,(o.getD ⟨0,0,0,0,0,0,0⟩).time,o.isSome,())
theorem z07a (most:Int) (hs:Sat w l):Ret P F.a14 #[.int .i64 most] w λvs w' =>
  (1<=most/\most<=4096/\∃ t,vs=[.pointer (some ⟨t,0,none⟩),.int .i64 0]/\Sat w' (tb t ⟨most,0,[]⟩::l))\/((most<1\/most>4096)/\vs=[.pointer none,.int .i64 2]/\Sat w' l) :=
 ztq most <| by
  delta z07r Aa Ah Ai Aj Ak Ar
  refine zf (λh=>?_) λh=>?_
  ·exact ⟨rfl,.inr ⟨h,rfl,hs⟩⟩
  refine zch ekI evW hs λm w' hs=>?_
  refine zr hs λt w' hs=>?_
  refine ⟨rfl,.inl ⟨by omega,by omega,t,rfl,?_⟩⟩
  exact z3o m (A:=⟨most,0,[]⟩) ⟨by show 1<=most/\most<=4096;omega,by show (0:Int)<=0/\(0:Int)<=_;omega,by show (0:Int)<=most;omega,by simp,by simp,by simp [z96]⟩ hs
theorem zxv (pid:Int) [hf:Fo l tb t A r] (hs:Sat w l):Ret P F.a21 #[.pointer (some ⟨t,0,none⟩),.int .i64 pid] w λvs w'=>vs=[.agg (z6b (z0x A pid)).toArray,.bool (z5w A pid).isSome]/\Sat w' (tb t A::r) :=
 ztw _ _ <| by
  delta z07x AY Aa Ab Ac Aj Ak Ax B3 B4 B6
  obtain ⟨m,hok,hs⟩:=zbj (hs.perm hf.perm)
  refine zt hs λa0 w' hs=>?_
  refine zi ?_
  refine zb hs ?_
  have ho:=zk4 A pid
  unfold z0x
  generalize z5w A pid=o at ho ⊢
  refine z00w hs o ho z0a6 ?_
  refine zel _ _ _ _ _ _ _ _ ?_
  refine zt hs λa12 w' hs=>?_
  refine zv hs λw' hs=>?_
  refine wp_lt ?_
  cases o with
  | none =>
   refine z0u ?_ (by simp)
   refine zv hs λw' hs=>?_
   refine zj hs ?_
   exact ⟨rfl,rfl,z3o m hok hs⟩
  | some x =>
   refine z03 ?_ (by simp)
   refine zj hs ?_
   refine zv hs λw' hs=>?_
   refine zj hs ?_
   exact ⟨rfl,rfl,z3o m hok hs⟩
theorem zrt (x:RowA) (h1:0<=x.seq+x.count/\x.seq+x.count<=2147483648) (hs:Sat w l):Ret P F.a15 #[.agg (z6b x).toArray] w λvs w'=>vs=[.int .i64 (x.seq+x.count)]/\Sat w' l :=
 ztr x.pid x.epoch x.seq x.count x.base x.frm x.time <| by
  delta z07s AP Aa Af Ai Ak Aw B3
  refine zr hs λa0 w' hs=>?_
  refine zb hs ?_
  refine zb hs ?_
  refine z1c ?_
  exact ⟨rfl,rfl,hs.tail⟩
theorem zre (x:RowA) (hs:Sat w l):Ret P F.a16 #[.agg (z6b x).toArray] w λvs w'=>vs=[.bool (decide (0<=x.frm))]/\Sat w' l :=
 zts x.pid x.epoch x.seq x.count x.base x.frm x.time <| by
  delta z07t AP Ai Ak Ax B3
  refine zr hs λa0 w' hs=>?_
  refine zb hs ?_
  refine wp_lt ?_
  exact ⟨rfl,rfl,hs.tail⟩
theorem ziq (b:BatM) (hs:Sat w l):Ret P F.a23 #[.agg (z00 b).toArray] w λvs w'=>vs=[.bool (z0b b)]/\Sat w' l :=
 zty b.base b.pid b.epoch b.seq b.kind b.time b.x <| by
  delta z07z AP Ai Ak Ao Ax Ba
  refine zr hs λa0 w' hs=>?_
  refine zb hs ?_
  refine zb hs ?_
  refine wp_lt ?_
  exact ⟨rfl,rfl,hs.tail⟩
end
structure VerA where
 again:Bool
 base:Int
def zgv (v:VerA):List Value:=[.bool v.again,.int .i64 v.base]
def z8n (r:RowA) (b:BatM):VerA × Bool :=
 if b.epoch≠r.epoch\/b.seq+b.rs.length>r.seq+r.count then (⟨false,0⟩,false) else if b.seq=r.seq/\(b.rs.length:Int)=r.count then (⟨true,r.base⟩,true) else (⟨true,-1⟩,true)
def zb9 (A:TabA) (r:RowA) (there:Bool) (b:BatM):Int :=
 if 0<=r.frm/\(b.epoch>r.epoch\/b.kind=0) then 22
 else if z0b b=false/\b.seq≠(if b.epoch>r.epoch then 0 else r.seq+r.count) then 21
 else if there=false/\(A.rows.length:Int)>=A.most then 5 else 0
def z1g (A:TabA) (b:BatM):VerA × Int :=
 if zy b≠0\/b.pid=0 then (⟨false,0⟩,zy b)
 else if b.epoch<(z0x A b.pid).epoch then (if z0b b then (⟨true,-1⟩,0) else (⟨false,0⟩,20))
 else if z0b b=false/\(z8n (z0x A b.pid) b).2=true then ((z8n (z0x A b.pid) b).1,0)
 else (⟨false,0⟩,zb9 A (z0x A b.pid) (z5w A b.pid).isSome b)
instance {v:VerA} {b:Bool}:IsR (.tup [.agg [.bool,.int .i64],.one .bool]) [.agg (zgv v).toArray,.bool b] (v.again,v.base,b,()):=⟨rfl⟩
instance {v:VerA} {n:Int}:IsR (.tup [.agg [.bool,.int .i64],.one (.int .i64)]) [.agg (zgv v).toArray,.int .i64 n] (v.again,v.base,n,()):=⟨rfl⟩
section
variable {w:World} {l r r1 r2 l':List HP} {t:Nat} {A:TabA}
theorem z00n (x:RowA) (b:BatM) [hb:FocR l b.x 4 (b.rs.flatMap zu)] (h1:0<=x.seq+x.count/\x.seq+x.count<=2147483648) (h2:0<=b.seq/\b.seq<=2147483647) (h3:b.rs.length<=64) (hs:Sat w l) :
  Ret P F.a22 #[.agg (z6b x).toArray,.agg (z00 b).toArray] w λvs w'=>vs=[.agg (zgv (z8n x b).1).toArray,.bool (z8n x b).2]/\Sat w' l :=
 ztx x.pid x.epoch x.seq x.count x.base x.frm x.time b.base b.pid b.epoch b.seq b.kind b.time b.x <| by
  delta z07y AA AC AG AP Aa Ab Ac Ai Aj Ak An Ao Au Aw B1 B3 BA Ba Bj Bz;unfold z8n
  have hl:=hs.slen b.x (xs:=b.rs) (enc:=zu)
  refine zr hs λa0 w' hs=>?_
  refine zr hs λa1 w' hs=>?_
  refine zt hs λa2 w' hs=>?_
  have hs:Sat w' (pt a2 (.cells #[.bool false,.int .i64 0] T.a7)::pt a1 (.cells #[.int .i64 b.base,.int .i64 b.pid,.int .i64 b.epoch,.int .i64 b.seq,.int .i64 b.kind,.int .i64 b.time,.slice b.x.a b.x.len b.x.cap] T.a0) ::
   pt a0 (.cells #[.int .i64 x.pid,.int .i64 x.epoch,.int .i64 x.seq,.int .i64 x.count,.int .i64 x.base,.int .i64 x.frm,.int .i64 x.time] T.a5)::l):=hs
  refine zm (λv w'=>v=(decide (b.epoch≠x.epoch\/b.seq+b.rs.length>x.seq+x.count),())/\Sat w' (pt a2 (.cells #[.bool false,.int .i64 0] T.a7)::pt a1 (.cells #[.int .i64 b.base,.int .i64 b.pid,.int .i64 b.epoch,.int .i64 b.seq,.int .i64 b.kind,.int .i64 b.time,.slice b.x.a b.x.len b.x.cap] T.a0) ::
   pt a0 (.cells #[.int .i64 x.pid,.int .i64 x.epoch,.int .i64 x.seq,.int .i64 x.count,.int .i64 x.base,.int .i64 x.frm,.int .i64 x.time] T.a5)::l)) ?_ ?_
  ·refine z02 hs λw' hs=>?_
   refine zb hs ?_
   refine zb hs ?_
   refine z0s hs ?_
   refine z0s hs ?_
   refine zj hs ?_
   refine zf (λh=>?_) λh=>?_
   ·refine ze ?_
    exact zg ⟨by rw [decide_eq_true (.inl h)],hs⟩
   ·refine z8 (zrt x h1 hs) λ_ w' hs=>?_
    obtain ⟨rfl,hs⟩:=hs
    refine zd ?_ ⟨⟨trivial,λ_=>z07 hs⟩,λ_=>z07 hs⟩
    refine ze ?_
    refine zg ⟨?_,hs⟩
    rw [w64 (by omega) (by omega),hl]
    have:(b.epoch≠x.epoch\/b.seq+b.rs.length>x.seq+x.count)↔b.seq+((b.rs.length:Nat):Int)>x.seq+x.count:=⟨λh'=>h'.resolve_left h,.inr⟩
    rw [decide_eq_decide.2 this]
  clear hs
  rintro _ w ⟨rfl,hs⟩
  refine zl ?_
  refine zf (λh=>?_) λh=>?_
  ·rw [if_pos h]
   refine zv hs λw' hs=>?_
   refine zj hs ?_
   exact ⟨rfl,rfl,hs.sub⟩
  rw [if_neg h]
  refine zb hs ?_
  refine zb hs ?_
  refine zb hs ?_
  refine zb hs ?_
  refine zf (λh=>?_) λh=>?_
  ·rw [if_pos (by rw [hl] at h;exact h)]
   refine zb hs ?_
   refine zv hs λw' hs=>?_
   refine zj hs ?_
   exact ⟨rfl,rfl,hs.sub⟩
  ·rw [if_neg (by rw [hl] at h;exact h)]
   refine zv hs λw' hs=>?_
   refine zj hs ?_
   exact ⟨rfl,rfl,hs.sub⟩
theorem z00q (x:RowA) (there:Bool) (b:BatM) [hf:Fo l tb t A r] (h1:0<=x.seq+x.count/\x.seq+x.count<=2147483648) (hs:Sat w l) :
  Ret P F.a20 #[.pointer (some ⟨t,0,none⟩),.agg (z6b x).toArray,.bool there,.agg (z00 b).toArray] w λvs w'=>vs=[.int .i64 (zb9 A x there b)]/\Sat w' (tb t A::r) :=
 ztv _ x.pid x.epoch x.seq x.count x.base x.frm x.time there b.base b.pid b.epoch b.seq b.kind b.time b.x <| by
  delta z07w AA AC AG AP AS Aa Af Ai Aj Ak Ao Av Ax Ay B3 B6 BC BD Ba Bb Bk;unfold zb9
  obtain ⟨m,hok,hs⟩:=zbj (hs.perm hf.perm)
  refine zr hs λa0 w' hs=>?_
  refine zr hs λa1 w' hs=>?_
  refine zj hs ?_
  refine z8 (zrt x h1 hs) λ_ _ hs=>?_
  obtain ⟨rfl,hs⟩:=hs
  refine zd ?_
  refine wp_lt ?_
  refine zb hs ?_
  refine zb hs ?_
  have hs:Sat _ (pt a1 (.cells #[.int .i64 b.base,.int .i64 b.pid,.int .i64 b.epoch,.int .i64 b.seq,.int .i64 b.kind,.int .i64 b.time,.slice b.x.a b.x.len b.x.cap] T.a0) ::
   pt a0 (.cells #[.int .i64 x.pid,.int .i64 x.epoch,.int .i64 x.seq,.int .i64 x.count,.int .i64 x.base,.int .i64 x.frm,.int .i64 x.time] T.a5)::pt t (.cells #[.int .i64 A.most,.int .i64 A.next,.map (some m)] T.a6)::z1f ekI evW m (z3i A.rows)::r):=hs
  refine zm (λv w'=>v=((if b.epoch>x.epoch then 0 else x.seq+x.count),())/\Sat w' (pt a1 (.cells #[.int .i64 b.base,.int .i64 b.pid,.int .i64 b.epoch,.int .i64 b.seq,.int .i64 b.kind,.int .i64 b.time,.slice b.x.a b.x.len b.x.cap] T.a0) ::
   pt a0 (.cells #[.int .i64 x.pid,.int .i64 x.epoch,.int .i64 x.seq,.int .i64 x.count,.int .i64 x.base,.int .i64 x.frm,.int .i64 x.time] T.a5)::pt t (.cells #[.int .i64 A.most,.int .i64 A.next,.map (some m)] T.a6)::z1f ekI evW m (z3i A.rows)::r)) ?_ ?_
  ·refine zf (λh=>?_) λh=>?_
   ·exact zg ⟨by rw [if_pos h],hs⟩
   ·exact zg ⟨by rw [if_neg h],hs⟩
  clear hs
  rintro _ w ⟨rfl,hs⟩
  refine zl ?_
  refine zj hs ?_
  refine z8 (zre x hs) λ_ _ hs=>?_
  obtain ⟨rfl,hs⟩:=hs
  refine zd ?_
  refine zb hs ?_
  refine zb hs ?_
  refine zb hs ?_
  refine wp_lt ?_
  refine zf (λh=>?_) λh=>?_
  ·rw [if_pos h]
   exact ⟨rfl,rfl,z3o m hok hs⟩
  rw [if_neg h]
  refine zj hs ?_
  refine z8 (ziq b hs) λ_ _ hs=>?_
  obtain ⟨rfl,hs⟩:=hs
  refine zd ?_
  refine zb hs ?_
  refine wp_lt ?_
  refine zf (λh=>?_) λh=>?_
  ·rw [if_pos (by simpa using h)]
   exact ⟨rfl,rfl,z3o m hok hs⟩
  rw [if_neg (by simpa using h)]
  refine z02 hs λw' hs=>?_
  refine z0n ?_
  refine zb hs ?_
  refine zej hs ?_
  refine z0n ?_
  refine zb hs ?_
  refine wp_lt ?_
  refine ze ?_
  have hlen:(z3i A.rows).length=A.rows.length:=by unfold z3i;rw [List.length_map]
  rw [hlen]
  refine zf (λh=>?_) λh=>?_
  ·rw [if_pos (by simpa using h)]
   exact ⟨rfl,rfl,z3o m hok hs⟩
  ·rw [if_neg (by simpa using h)]
   exact ⟨rfl,rfl,z3o m hok hs⟩
theorem zgh (b:BatM) [hf:Fo l tb t A r] [hb:FocR r b.x 4 (b.rs.flatMap zu)] (hs:Sat w l) :
  Ret P F.a17 #[.pointer (some ⟨t,0,none⟩),.agg (z00 b).toArray] w λvs w'=>vs=[.agg (zgv (z1g A b).1).toArray,.int .i64 (z1g A b).2]/\Sat w' (tb t A::r) :=
 ztt _ b.base b.pid b.epoch b.seq b.kind b.time b.x <| by
  delta z07u AA AP AS Aa Ab Ac Af Ah Ai Aj Ak Al Ao Av Ax B3 B6 BA Ba Bb Bz;unfold z1g
  have hs:Sat w (tb t A::r):=hs.perm hf.perm
  have hok:=z01e hs
  refine zr hs λa0 w' hs=>?_
  refine zt hs λa1 w' hs=>?_
  refine z03 ?_ (by simp)
  refine zj hs ?_
  refine z8 (z9f b hs) λ_ _ hs=>?_
  obtain ⟨rfl,hs⟩:=hs
  refine zd ?_
  refine wp_lt ?_
  refine zb hs ?_
  refine zf (λh=>?_) λh=>?_
  ·rw [if_pos h]
   refine zv hs λw' hs=>?_
   refine wp_lt ?_
   refine zj hs ?_
   exact ⟨rfl,rfl,hs.sub⟩
  rw [if_neg h]
  have hv:zy b=0:=Decidable.not_not.1 λe=>h (.inl e)
  obtain ⟨hs1,hs2,hnum,hfit,hnx⟩:=z15 b hv
  have hl64:b.rs.length<=64:=by
   unfold zp at hs2
   split at hs2
   ·have:=hfit.2
    rename_i hm
    rw [if_pos hm] at this;omega
   ·omega
  refine zb hs ?_
  refine z8 (zxv b.pid hs) λ_ _ hs=>?_
  obtain ⟨rfl,hs⟩:=hs
  refine zd ?_
  obtain ⟨hr1,hr2,hr3,hr4,hr5,hr6,hr7⟩:=zip hok b.pid
  generalize z0x A b.pid=x at *
  refine zt hs λa26 w' hs=>?_
  refine zv hs λw' hs=>?_
  refine wp_lt ?_
  refine zb hs ?_
  refine zb hs ?_
  refine zf (λh=>?_) λh=>?_
  ·rw [if_pos h]
   refine zj hs ?_
   refine z8 (ziq b hs) λ_ _ hs=>?_
   obtain ⟨rfl,hs⟩:=hs
   refine zd ?_
   refine zf (λh=>?_) λh=>?_
   ·rw [if_pos h]
    refine zv hs λw' hs=>?_
    refine zj hs ?_
    exact ⟨rfl,rfl,hs.sub⟩
   ·rw [if_neg h]
    refine zv hs λw' hs=>?_
    refine zj hs ?_
    exact ⟨rfl,rfl,hs.sub⟩
  rw [if_neg h]
  refine zj hs ?_
  refine z8 (ziq b hs) λ_ _ hs=>?_
  obtain ⟨rfl,hs⟩:=hs
  refine zd ?_
  have hs:Sat _ (tb t A::pt a26 (.cells #[.int .i64 x.pid,.int .i64 x.epoch,.int .i64 x.seq,.int .i64 x.count,.int .i64 x.base,.int .i64 x.frm,.int .i64 x.time] T.a5)::pt a1 (.cells #[.bool false,.int .i64 0] T.a7) ::
   pt a0 (.cells #[.int .i64 b.base,.int .i64 b.pid,.int .i64 b.epoch,.int .i64 b.seq,.int .i64 b.kind,.int .i64 b.time,.slice b.x.a b.x.len b.x.cap] T.a0)::r):=hs.sub
  refine zm (λ_ w'=>¬ (z0b b=false/\(z8n x b).2=true)/\Sat w' (tb t A::pt a26 (.cells #[.int .i64 x.pid,.int .i64 x.epoch,.int .i64 x.seq,.int .i64 x.count,.int .i64 x.base,.int .i64 x.frm,.int .i64 x.time] T.a5)::pt a1 (.cells #[.bool false,.int .i64 0] T.a7) ::
   pt a0 (.cells #[.int .i64 b.base,.int .i64 b.pid,.int .i64 b.epoch,.int .i64 b.seq,.int .i64 b.kind,.int .i64 b.time,.slice b.x.a b.x.len b.x.cap] T.a0)::r)) ?_ ?_
  ·refine zf (λh=>?_) λh=>?_
   ·refine zj hs ?_
    refine zj hs ?_
    refine z8 (z00n x b ⟨by omega,by omega⟩ hnum.2.2.2.2.1 hl64 hs) λ_ _ hs=>?_
    obtain ⟨rfl,hs⟩:=hs
    refine zd ?_
    refine zt hs λa67 w' hs=>?_
    refine zv hs λw' hs=>?_
    refine wp_lt ?_
    refine zf (λh2=>?_) λh2=>?_
    ·rw [if_pos ⟨by simpa using h,h2⟩]
     refine zj hs ?_
     refine zv hs λw' hs=>?_
     refine zj hs ?_
     refine zn ?_
     exact ⟨rfl,rfl,hs.sub⟩
    ·exact zg ⟨λe=>h2 e.2,hs.sub⟩
   ·exact zg ⟨λe=>h (by rw [e.1];simp),hs⟩
  clear hs
  rintro _ w ⟨hno,hs⟩
  refine zl ?_
  rw [if_neg hno]
  refine zj hs ?_
  refine zj hs ?_
  refine z8 (z00q x (z5w A b.pid).isSome b ⟨by omega,by omega⟩ hs) λ_ _ hs=>?_
  obtain ⟨rfl,hs⟩:=hs
  refine zd ?_
  refine zv hs λw' hs=>?_
  refine wp_lt ?_
  refine zj hs ?_
  exact ⟨rfl,rfl,hs.sub⟩
end
def z95 (A:TabA) (b:BatM):Int:=match z5w A b.pid with
 | none=>b.time
 | some r=>if r.time>b.time then r.time else b.time
def z70 (A:TabA) (b:BatM):Int:=if b.kind=1/\(z0x A b.pid).frm<0 then b.base else (z0x A b.pid).frm
def z4i (A:TabA) (b:BatM):RowA:=if z0b b then ⟨b.pid,b.epoch+1,0,0,0,-1,z95 A b⟩ else ⟨b.pid,b.epoch,b.seq,b.rs.length,b.base,z70 A b,z95 A b⟩
def z7x (pid:Int) (rs:List RowA):List RowA:=rs.filter λr=>!decide (r.pid=pid)
def z91 (x:RowA) (rs:List RowA):List RowA:=rs.filter (λr=>decide (r.pid<x.pid))++x::rs.filter (λr=>decide (x.pid<r.pid))
def z5u (A:TabA) (b:BatM):TabA:=⟨A.most,b.base+zp b,if b.pid=0 then A.rows else z91 (z4i A b) A.rows⟩
def zkz (A:TabA) (b:BatM):Int × TabA :=
 if (z1g A b).2≠0 then ((z1g A b).2,A) else if (z1g A b).1.again then (4,A) else if b.base<A.next then (8,A) else (0,z5u A b)
theorem zmm (x:RowA) (rs:List RowA):(z91 x rs).Perm (x::z7x x.pid rs):=by
 unfold z91 z7x
 refine List.perm_middle.trans (.cons _ ?_)
 have h:=List.filter_append_perm (λr:RowA=>decide (r.pid<x.pid)) (rs.filter λr=>!decide (r.pid=x.pid))
 rw [List.filter_filter,List.filter_filter] at h
 have e1:rs.filter (λr=>decide (r.pid<x.pid))=rs.filter (λr=>decide (r.pid<x.pid) && !decide (r.pid=x.pid)):=List.filter_congr λr _=>by
  rw [Bool.eq_iff_iff];simp;omega
 have e2:rs.filter (λr=>decide (x.pid<r.pid))=rs.filter (λr=>!decide (r.pid<x.pid) && !decide (r.pid=x.pid)):=List.filter_congr λr _=>by
  rw [Bool.eq_iff_iff];simp;omega
 rw [e1,e2];exact h
theorem zt7 {x:RowA} {rs:List RowA} (h:rs.Pairwise λa b=>a.pid<b.pid):(z91 x rs).Pairwise λa b=>a.pid<b.pid:=by
 unfold z91
 rw [List.pairwise_append,List.pairwise_cons]
 refine ⟨h.filter _,⟨λr hr=>?_,h.filter _⟩,λa ha c hc=>?_⟩
 ·simpa using (List.mem_filter.1 hr).2
 ·have h1:a.pid<x.pid:=by simpa using (List.mem_filter.1 ha).2
  rcases List.mem_cons.1 hc with rfl|hc
  ·exact h1
  ·have h2:x.pid<c.pid:=by simpa using (List.mem_filter.1 hc).2
   omega
theorem zdn {pid:Int} {rs:List RowA} (h:∀ r ∈ rs,r.pid≠pid):z7x pid rs=rs:=List.filter_eq_self.2 λr hr=>by simp [h r hr]
theorem zal {x:RowA}:∀ {rs:List RowA},x ∈ rs->(rs.Pairwise λa b=>a.pid<b.pid)->rs.Perm (x::z7x x.pid rs)
 | y::rs,hx,h=>by
  rw [List.pairwise_cons] at h
  unfold z7x
  rw [List.filter_cons]
  rcases List.mem_cons.1 hx with rfl|hx
  ·rw [if_neg (by simp)]
   have:=zdn (pid:=x.pid) (rs:=rs) (λr hr=>by have:=h.1 r hr;omega)
   unfold z7x at this
   rw [this]
  ·have h1:=h.1 x hx
   rw [if_pos (by simp;omega)]
   exact ((zal hx h.2).cons y).trans (.swap _ _ _)
theorem zt0 {a b:List RowA} (h:a.Perm b):(z96 a).Perm (z96 b):=h.filter _
theorem zgn {a b:List RowA} (h:a.Perm b) (ha:(z96 a).Pairwise λx y=>x.frm≠y.frm):(z96 b).Pairwise λx y=>x.frm≠y.frm :=
 (List.Perm.pairwise_iff (λ{x y} h=>Ne.symm h) (zt0 h)).1 ha
theorem zfb {A:TabA} {b:BatM} (h1:(z1g A b).2=0) (h2:(z1g A b).1.again=false):zy b=0/\(b.pid≠0->(z0x A b.pid).epoch<=b.epoch/\¬ (z0b b=false/\(z8n (z0x A b.pid) b).2=true)/\zb9 A (z0x A b.pid) (z5w A b.pid).isSome b=0):=by
 unfold z1g at h1 h2
 split at h1
 ·rename_i h
  rw [if_pos h] at h2
  refine ⟨h1,λhp=>absurd h (λh=>h.elim (λh=>h h1) hp)⟩
 rename_i h
 rw [if_neg h] at h2
 have hv:zy b=0:=Decidable.not_not.1 λe=>h (.inl e)
 refine ⟨hv,λhp=>?_⟩
 split at h1
 ·rename_i h3
  rw [if_pos h3] at h2
  split at h1
  ·rename_i h4;rw [if_pos h4] at h2;cases h2
  ·cases h1
 rename_i h3
 rw [if_neg h3] at h2
 split at h1
 ·rename_i h4
  rw [if_pos h4] at h2
  obtain ⟨-,h4⟩:=h4
  unfold z8n at h2 h4
  split at h4
  ·cases h4
  ·rename_i h5
   rw [if_neg h5] at h2
   split at h2 <;> cases h2
 ·rename_i h4
  exact ⟨by omega,h4,h1⟩
theorem zsj {A:TabA} {x:RowA} {there:Bool} {b:BatM} (h:zb9 A x there b=0):¬ (0<=x.frm/\(b.epoch>x.epoch\/b.kind=0))/\¬ (z0b b=false/\b.seq≠(if b.epoch>x.epoch then 0 else x.seq+x.count))/\(there=false->(A.rows.length:Int)<A.most):=by
 unfold zb9 at h
 by_cases h1:0<=x.frm/\(b.epoch>x.epoch\/b.kind=0)
 ·rw [if_pos h1] at h;cases h
 rw [if_neg h1] at h
 by_cases h2:z0b b=false/\b.seq≠(if b.epoch>x.epoch then 0 else x.seq+x.count)
 ·rw [if_pos h2] at h;cases h
 rw [if_neg h2] at h
 by_cases h3:there=false/\(A.rows.length:Int)>=A.most
 ·rw [if_pos h3] at h;cases h
 exact ⟨h1,h2,λe=>by rcases Int.lt_or_le (A.rows.length:Int) A.most with h|h;exact h;exact absurd ⟨e,h⟩ h3⟩
theorem zmv (A:TabA) (b:BatM):(z4i A b).pid=b.pid:=by unfold z4i;split <;> rfl
theorem z04f {A:TabA} (hok:okTb A) {b:BatM} (hb:0<=b.time/\b.time<=1099511627776):0<=z95 A b/\z95 A b<=1099511627776:=by
 unfold z95
 split
 ·exact hb
 ·rename_i r hr
  have:=(hok.row r (z2t hr).1).time
  split <;> omega
theorem z04l {A:TabA} {b:BatM} (hok:okTb A) (h1:(z1g A b).2=0) (h2:(z1g A b).1.again=false) (h3:A.next<=b.base):okTb (z5u A b):=by
 obtain ⟨hv,hj⟩:=zfb h1 h2
 obtain ⟨hs1,hs2,hnum,hfit,hnx⟩:=z15 b hv
 have hn0:=hok.next
 by_cases hp0:b.pid=0
 ·have e:z5u A b=⟨A.most,b.base+zp b,A.rows⟩:=by unfold z5u;rw [if_pos hp0]
  rw [e]
  exact ⟨hok.most,⟨by show 0<=b.base+zp b;omega,by show b.base+zp b<=_;omega⟩,hok.many,λr hr=>by
   have h:=hok.row r hr
   exact ⟨h.pid,h.epoch,h.time,h.count,h.seq,h.base,h.frm,h.none_,λhc=>by have:=h.some_ hc;show _/\_/\_<=b.base+zp b/\_;omega⟩,hok.byPid,hok.apart⟩
 obtain ⟨hje,-,hfr⟩:=hj hp0
 obtain ⟨hf1,hf2,hf3⟩:=zsj hfr
 have e:z5u A b=⟨A.most,b.base+zp b,z91 (z4i A b) A.rows⟩:=by unfold z5u;rw [if_neg hp0]
 have hpp:=zmm (z4i A b) A.rows
 rw [zmv] at hpp
 obtain ⟨hnk,hnb,hnp,hne,hns,hnt⟩:=hnum
 have hlate:=z04f hok hnt
 have hF:=zip hok b.pid
 have hfrm:(z0x A b.pid).frm<A.next:=by
  unfold z0x
  cases h:z5w A b.pid with
  | none=>show (-1:Int)<_;omega
  | some y =>
   have hy:=hok.row y (z2t h).1
   show y.frm<A.next
   rcases Int.lt_or_le 0 y.count with hc|hc
   ·have:=hy.some_ hc;omega
   ·have:=hy.none_ (by have:=hy.count;omega);omega
 have hokN:okRw (z4i A b) (b.base+zp b):=by
  unfold z4i
  by_cases hm:z0b b=true
  ·rw [if_pos hm]
   exact ⟨by show 1<=b.pid/\b.pid<=_;omega,by show 0<=b.epoch+1/\b.epoch+1<=_;omega,hlate,by show (0:Int)<=0/\(0:Int)<=64;omega,Int.le_refl _,Int.le_refl _,Int.le_refl _,λ_=>⟨rfl,rfl,rfl⟩,λh=>absurd h (by show ¬ (0:Int)<0;omega)⟩
  ·rw [if_neg hm]
   have hm:z0b b=false:=by simpa using hm
   have hlen:zp b=b.rs.length:=by unfold zp;rw [hm];rfl
   have hseq:b.seq+b.rs.length<=2147483648:=by
    unfold zy at hv
    split at hv
    ·cases hv
    split at hv
    ·cases hv
    split at hv
    ·rename_i h;exact absurd hv h
    split at hv
    ·cases hv
    ·rename_i h
     rcases Int.lt_or_le 2147483647 (b.seq+(zp b-1)) with h9|h9
     ·exact absurd (.inr ⟨by omega,hm,by omega⟩) h
     ·omega
   have hfrm2 : -1<=z70 A b/\z70 A b<=b.base:=by
    unfold z70
    split
    ·omega
    ·omega
   exact ⟨by show 1<=b.pid/\b.pid<=_;omega,by show 0<=b.epoch/\b.epoch<=_;omega,hlate,by show (0:Int)<=b.rs.length/\(b.rs.length:Int)<=64;omega,hns.1,hnb.1,hfrm2.1,λh=>absurd h (by show ¬ (b.rs.length:Int)=0;omega),λ_=>by
    show b.epoch<=_/\b.seq+(b.rs.length:Int)<=_/\b.base+(b.rs.length:Int)<=b.base+zp b/\z70 A b<=b.base
    omega⟩
 have hrest:z7x b.pid A.rows ⊆ A.rows:=λr hr=>(List.mem_filter.1 hr).1
 rw [e]
 refine ⟨hok.most,⟨by show 0<=b.base+zp b;omega,by show b.base+zp b<=_;omega⟩,?_,λr hr=>?_,zt7 hok.byPid,?_⟩
 ·show ((z91 (z4i A b) A.rows).length:Int)<=A.most
  rw [hpp.length_eq,List.length_cons]
  cases h:z5w A b.pid with
  | none =>
   have:=hf3 (by rw [h];rfl)
   rw [zdn (zdp h)];omega
  | some y =>
   have h4:=(zal (z2t h).1 hok.byPid).length_eq
   rw [(z2t h).2,List.length_cons] at h4
   have:=hok.many
   omega
 ·have hr:r ∈ z91 (z4i A b) A.rows:=hr
  rcases List.mem_cons.1 (hpp.mem_iff.1 hr) with rfl|hr
  ·exact hokN
  ·have h:=hok.row r (hrest hr)
   exact ⟨h.pid,h.epoch,h.time,h.count,h.seq,h.base,h.frm,h.none_,λhc=>by have:=h.some_ hc;show _/\_/\_<=b.base+zp b/\_;omega⟩
 ·refine zgn hpp.symm ?_
  have hsub:(z96 (z7x b.pid A.rows)).Pairwise λx y=>x.frm≠y.frm:=hok.apart.sublist ((List.filter_sublist).filter _)
  unfold z96
  rw [List.filter_cons]
  split
  rotate_left
  ·exact hsub
  rename_i hop
  have hop:0<=(z4i A b).frm:=by simpa using hop
  rw [List.pairwise_cons]
  refine ⟨λy hy=>?_,hsub⟩
  have hy1:=List.mem_filter.1 hy
  have hy2:0<=y.frm:=by simpa using hy1.2
  have hyr:=hok.row y (hrest hy1.1)
  have hm:¬ z0b b=true:=λhm=>by unfold z4i at hop;rw [if_pos hm] at hop;exact absurd hop (by show ¬ (0:Int) <= -1;omega)
  unfold z4i
  rw [if_neg hm]
  show z70 A b≠y.frm
  have hylt:y.frm<A.next:=by
   rcases Int.lt_or_le 0 y.count with hc|hc
   ·have:=hyr.some_ hc;omega
   ·have:=hyr.none_ (by have:=hyr.count;omega);omega
  unfold z70
  split
  ·omega
  ·rename_i hk
   cases h:z5w A b.pid with
   | none =>
    have:(z0x A b.pid).frm = -1:=by unfold z0x;rw [h];rfl
    omega
   | some z =>
    have hz:z0x A b.pid=z:=by unfold z0x;rw [h];rfl
    rw [hz] at *
    by_cases hzo:0<=z.frm
    ·have h5:=zgn (zal (z2t h).1 hok.byPid) hok.apart
     rw [(z2t h).2] at h5
     unfold z96 at h5
     rw [List.filter_cons,if_pos (by simpa using hzo),List.pairwise_cons] at h5
     exact h5.1 y hy
    ·omega
theorem z06j {A:TabA} (hok:okTb A) (pid:Int):(∃ v0,(z3i A.rows).Perm ((pid,v0)::z3i (z7x pid A.rows)))\/((∀ v,(pid,v) ∉ z3i A.rows)/\z3i (z7x pid A.rows)=z3i A.rows):=by
 rcases zk4 A pid with ⟨y,hy,-⟩|⟨hn,hno⟩
 ·left
  refine ⟨y,?_⟩
  have h:=(zal (z2t hy).1 hok.byPid).map λr:RowA=>(r.pid,r)
  rw [(z2t hy).2,List.map_cons,(z2t hy).2] at h
  exact h
 ·right
  exact ⟨hno,by rw [zdn (zdp hn)]⟩
theorem z04d (x:RowA) (rs:List RowA):((x.pid,x)::z3i (z7x x.pid rs)).Perm (z3i (z91 x rs)):=((zmm x rs).map λr:RowA=>(r.pid,r)).symm
theorem zzo {A:TabA} {n:Int} (hok:okTb A) (h1:A.next<=n) (h2:n<=1099511627777):okTb ⟨A.most,n,A.rows⟩ :=
 ⟨hok.most,⟨by have:=hok.next;show 0<=n;omega,h2⟩,hok.many,λr hr=>by
  have h:=hok.row r hr
  exact ⟨h.pid,h.epoch,h.time,h.count,h.seq,h.base,h.frm,h.none_,λhc=>by have:=h.some_ hc;show _/\_/\_<=n/\_;omega⟩,hok.byPid,hok.apart⟩
section
variable {w:World} {l r r1 r2 l':List HP} {t:Nat} {A:TabA}
theorem z05c (b:BatM) [hf:Fo l tb t A r] [hb:FocR r b.x 4 (b.rs.flatMap zu)] (hs:Sat w l) :
  Ret P F.a19 #[.pointer (some ⟨t,0,none⟩),.agg (z00 b).toArray] w λvs w'=>vs=[.int .i64 (zkz A b).1]/\Sat w' (tb t (zkz A b).2::r) :=
 ztu _ b.base b.pid b.epoch b.seq b.kind b.time b.x <| by
  delta z07v AA AC AG AH AI AP AS AY Aa Ab Ac Af Ah Ai Aj Ak Al An Au Av Aw Ax Ay B3 B4 B5 B6 Ba Bb Bp By Bz;unfold zkz
  have hs:Sat w (tb t A::r):=hs.perm hf.perm
  have hok:=z01e hs
  refine zr hs λa0 w' hs=>?_
  refine zj hs ?_
  refine z8 (zgh b hs) λ_ _ hs=>?_
  obtain ⟨rfl,hs⟩:=hs
  refine zd ?_
  have hnx:=z04l (b:=b) hok
  have hjf:=zfb (A:=A) (b:=b)
  generalize hje:z1g A b=j at *
  obtain ⟨v,e⟩:=j
  refine zt hs λa11 w' hs=>?_
  refine zv hs λw' hs=>?_
  refine wp_lt ?_
  refine wp_lt ?_
  refine zf (λh=>?_) λh=>?_
  ·rw [if_pos h]
   refine wp_lt ?_
   exact ⟨rfl,rfl,hs.sub⟩
  have he:e=0:=Decidable.not_not.1 h
  subst he
  rw [if_neg (by simp)]
  refine zb hs ?_
  refine wp_lt ?_
  refine zf (λh=>?_) λh=>?_
  ·rw [if_pos h]
   exact ⟨rfl,rfl,hs.sub⟩
  rw [if_neg h]
  have hag:v.again=false:=by simpa using h
  refine z02 hs λw' hs=>?_
  refine zb hs ?_
  refine zi ?_
  have hs:Sat w' (tb t A::pt a11 (.cells #[.bool v.again,.int .i64 v.base] T.a7)::pt a0 (.cells #[.int .i64 b.base,.int .i64 b.pid,.int .i64 b.epoch,.int .i64 b.seq,.int .i64 b.kind,.int .i64 b.time,.slice b.x.a b.x.len b.x.cap] T.a0)::r):=hs.sub
  obtain ⟨m,-,hs⟩:=zbj hs
  refine zb hs ?_
  refine wp_lt ?_
  refine ze ?_
  refine zf (λh=>?_) λh=>?_
  ·rw [if_pos h]
   exact ⟨rfl,rfl,z3o m hok hs⟩
  rw [if_neg h]
  have hok':=hnx rfl hag (by omega)
  obtain ⟨hv,hj⟩:=hjf rfl hag
  obtain ⟨hs1,hs2,hnum,hfit,hn2⟩:=z15 b hv
  have hne:=hnum.2.2.2.1
  refine zj hs ?_
  refine z8 (z9d b hs) λ_ _ hs=>?_
  obtain ⟨rfl,hs⟩:=hs
  refine zd ?_
  have hnb:z1s b=b.base+zp b:=by unfold z1s;rw [if_neg (by rw [hv];simp)]
  rw [hnb]
  refine zi ?_
  refine z08 hs λw' hs=>?_
  refine zb hs ?_
  have hok1:okTb ⟨A.most,b.base+zp b,A.rows⟩:=zzo hok (by omega) hn2
  refine zf (λh0=>?_) λh0=>?_
  ·refine ⟨rfl,rfl,?_⟩
   have e:z5u A b=⟨A.most,b.base+zp b,A.rows⟩:=by unfold z5u;rw [if_pos h0]
   show Sat _ (tb t (z5u A b)::r)
   rw [e]
   exact z3o m hok1 hs
  have e:z5u A b=⟨A.most,b.base+zp b,z91 (z4i A b) A.rows⟩:=by unfold z5u;rw [if_neg h0]
  show _
  refine zb hs ?_
  have hs:Sat _ (tb t ⟨A.most,b.base+zp b,A.rows⟩::pt a11 (.cells #[.bool v.again,.int .i64 v.base] T.a7)::pt a0 (.cells #[.int .i64 b.base,.int .i64 b.pid,.int .i64 b.epoch,.int .i64 b.seq,.int .i64 b.kind,.int .i64 b.time,.slice b.x.a b.x.len b.x.cap] T.a0)::r):=z3o m hok1 hs
  refine z8 (zxv b.pid hs) λ_ _ hs=>?_
  obtain ⟨rfl,hs⟩:=hs
  refine zd ?_
  have eF:z0x ⟨A.most,b.base+zp b,A.rows⟩ b.pid=z0x A b.pid:=rfl
  have eO:z5w ⟨A.most,b.base+zp b,A.rows⟩ b.pid=z5w A b.pid:=rfl
  rw [eF,eO]
  have hFok:=zip hok b.pid
  have hkeys:=z06j hok b.pid
  have hkp:=z04d (z4i A b) A.rows
  rw [zmv] at hkp
  refine zt hs λa42 w' hs=>?_
  refine zv hs λw' hs=>?_
  refine wp_lt ?_
  refine zb hs ?_
  refine wp_lt ?_
  have hs:Sat _ (tb t ⟨A.most,b.base+zp b,A.rows⟩::pt a42 (.cells #[.int .i64 (z0x A b.pid).pid,.int .i64 (z0x A b.pid).epoch,.int .i64 (z0x A b.pid).seq,.int .i64 (z0x A b.pid).count,.int .i64 (z0x A b.pid).base,.int .i64 (z0x A b.pid).frm,.int .i64 (z0x A b.pid).time] T.a5) ::
   pt a0 (.cells #[.int .i64 b.base,.int .i64 b.pid,.int .i64 b.epoch,.int .i64 b.seq,.int .i64 b.kind,.int .i64 b.time,.slice b.x.a b.x.len b.x.cap] T.a0)::r):=hs.sub
  refine zm (λv w'=>v=(z95 A b,())/\Sat w' (tb t ⟨A.most,b.base+zp b,A.rows⟩::pt a42 (.cells #[.int .i64 (z0x A b.pid).pid,.int .i64 (z0x A b.pid).epoch,.int .i64 (z0x A b.pid).seq,.int .i64 (z0x A b.pid).count,.int .i64 (z0x A b.pid).base,.int .i64 (z0x A b.pid).frm,.int .i64 (z0x A b.pid).time] T.a5) ::
   pt a0 (.cells #[.int .i64 b.base,.int .i64 b.pid,.int .i64 b.epoch,.int .i64 b.seq,.int .i64 b.kind,.int .i64 b.time,.slice b.x.a b.x.len b.x.cap] T.a0)::r)) ?_ ?_
  ·unfold z95 z0x at *
   cases ho:z5w A b.pid with
   | none =>
    rw [ho] at hs
    refine z03 ?_ (by simp)
    exact zg ⟨rfl,hs⟩
   | some y =>
    rw [ho] at hs
    refine z0u ?_ (by simp)
    refine zb hs ?_
    refine wp_lt ?_
    exact zg ⟨rfl,hs⟩
  clear hs
  rintro _ w ⟨rfl,hs⟩
  refine zl ?_
  refine zb hs ?_
  obtain ⟨m,-,hs⟩:=zbj hs
  have hfin:∀ {w:World},Sat w (tb t (z5u A b)::r)->0=0/\([.int .i64 0]:List Value)=[.int .i64 0]/\Sat w (tb t (z5u A b)::r):=λh=>⟨rfl,rfl,h⟩
  refine zm (λ_ w'=>Sat w' (tb t (z5u A b)::r)) ?_ (by rintro _ w' hs;refine zl ?_;exact ⟨rfl,rfl,hs⟩)
  refine zm (λ_ w'=>z0b b=false/\Sat w' (pt t (.cells #[.int .i64 A.most,.int .i64 (b.base+zp b),.map (some m)] T.a6)::z1f ekI evW m (z3i A.rows)::pt a42 (.cells #[.int .i64 (z0x A b.pid).pid,.int .i64 (z0x A b.pid).epoch,.int .i64 (z0x A b.pid).seq,.int .i64 (z0x A b.pid).count,.int .i64 (z0x A b.pid).base,.int .i64 (z70 A b),.int .i64 (z0x A b.pid).time] T.a5) ::
   pt a0 (.cells #[.int .i64 b.base,.int .i64 b.pid,.int .i64 b.epoch,.int .i64 b.seq,.int .i64 b.kind,.int .i64 b.time,.slice b.x.a b.x.len b.x.cap] T.a0)::r)) ?_ ?_
  ·refine wp_lt ?_
   refine zm (λv w'=>v=(z0b b,())/\Sat w' (pt t (.cells #[.int .i64 A.most,.int .i64 (b.base+zp b),.map (some m)] T.a6)::z1f ekI evW m (z3i A.rows)::pt a42 (.cells #[.int .i64 (z0x A b.pid).pid,.int .i64 (z0x A b.pid).epoch,.int .i64 (z0x A b.pid).seq,.int .i64 (z0x A b.pid).count,.int .i64 (z0x A b.pid).base,.int .i64 (z0x A b.pid).frm,.int .i64 (z0x A b.pid).time] T.a5) ::
    pt a0 (.cells #[.int .i64 b.base,.int .i64 b.pid,.int .i64 b.epoch,.int .i64 b.seq,.int .i64 b.kind,.int .i64 b.time,.slice b.x.a b.x.len b.x.cap] T.a0)::r)) ?_ ?_
   ·refine zf (λh=>?_) λh=>?_
    ·exact zg ⟨by unfold z0b;rw [show (b.kind == 2)=true by simpa using h,decide_eq_true (by simpa using h)];rfl,hs⟩
    ·refine wp_lt ?_
     exact zg ⟨by unfold z0b;rw [decide_eq_false (p:=b.kind=2) (by simpa using h)];rfl,hs⟩
   clear hs
   rintro _ w ⟨rfl,hs⟩
   refine zl ?_
   refine zf (λhm=>?_) λhm=>?_
   ·refine z02 hs λw' hs=>?_
    refine zi ?_
    refine zb hs ?_
    refine zb hs ?_
    refine zb hs ?_
    refine zb hs ?_
    have eN:z4i A b=⟨b.pid,b.epoch+1,0,0,0,-1,z95 A b⟩:=by unfold z4i;rw [if_pos hm]
    rw [w64 (x:=b.epoch+1) (by omega) (by omega)]
    refine zbk hs _ hkeys (z4i A b) (λw' hs=>?_) (by rw [eN])
    refine ze ?_
    refine zn (zn ?_)
    exact ⟨rfl,rfl,by show Sat _ (tb t (z5u A b)::r);exact e ▸ z3o m (A:=⟨A.most,b.base+zp b,z91 (z4i A b) A.rows⟩) (e ▸ hok') hs hkp⟩
   have hm:z0b b=false:=by simpa using hm
   refine wp_lt ?_
   refine zf (λh=>?_) λh=>?_
   ·refine zj hs ?_
    refine z8 (zre (z0x A b.pid) hs) λ_ _ hs=>?_
    obtain ⟨rfl,hs⟩:=hs
    refine zd ?_
    refine zm (λ_ w'=>Sat w' (pt t (.cells #[.int .i64 A.most,.int .i64 (b.base+zp b),.map (some m)] T.a6)::z1f ekI evW m (z3i A.rows)::pt a42 (.cells #[.int .i64 (z0x A b.pid).pid,.int .i64 (z0x A b.pid).epoch,.int .i64 (z0x A b.pid).seq,.int .i64 (z0x A b.pid).count,.int .i64 (z0x A b.pid).base,.int .i64 (z70 A b),.int .i64 (z0x A b.pid).time] T.a5) ::
     pt a0 (.cells #[.int .i64 b.base,.int .i64 b.pid,.int .i64 b.epoch,.int .i64 b.seq,.int .i64 b.kind,.int .i64 b.time,.slice b.x.a b.x.len b.x.cap] T.a0)::r)) ?_ (by rintro _ w' hs;refine zl ?_;exact zg ⟨hm,hs⟩)
    refine zf (λh2=>?_) λh2=>?_
    ·refine zb hs ?_
     refine z08 hs λw' hs=>?_
     refine zg ?_
     have:z70 A b=b.base:=by unfold z70;rw [if_pos ⟨h,by simpa using h2⟩]
     rw [this];exact hs.sub
    ·refine zg ?_
     have:z70 A b=(z0x A b.pid).frm:=by unfold z70;rw [if_neg (λh3=>h2 (by simpa using h3.2))]
     rw [this];exact hs
   ·refine zg ⟨hm,?_⟩
    have:z70 A b=(z0x A b.pid).frm:=by unfold z70;rw [if_neg (λh3=>h h3.1)]
    rw [this];exact hs
  clear hs
  rintro _ w ⟨hm,hs⟩
  refine zl ?_
  have hl:=hs.slen b.x (xs:=b.rs) (enc:=zu)
  refine z02 hs λw' hs=>?_
  refine zi ?_
  refine zb hs ?_
  refine zb hs ?_
  refine zb hs ?_
  refine zb hs ?_
  refine zb hs ?_
  refine zb hs ?_
  refine zb hs ?_
  refine zb hs ?_
  have eN:z4i A b=⟨b.pid,b.epoch,b.seq,b.rs.length,b.base,z70 A b,z95 A b⟩:=by unfold z4i;rw [if_neg (by rw [hm];simp)]
  refine zbk hs _ hkeys (z4i A b) (λw' hs=>?_) (by rw [eN,hl])
  refine ze ?_
  refine zg ?_
  exact e ▸ z3o m (A:=⟨A.most,b.base+zp b,z91 (z4i A b) A.rows⟩) (e ▸ hok') hs hkp
end
abbrev ekK (k:Int × Int):Value:=.agg #[.int .i64 k.1,.int .i64 k.2]
theorem z03y (a b:Int × Int) (w:World):(Op.equal T.a17 (ekK a) (ekK b)).run P w=.ok (a.1 == b.1 && a.2 == b.2) w :=
 zlo 10000 (t:=T.a17) (x:=ekK a) (y:=ekK b) (by kernel_rfl) w
theorem zj2 {P:Program} {t:TypeId} {q k:IntKind} (hu:P.underlying t=some (.int q)) (e:Bool) (n:Nat) (v:Int) (w:World):(Instr.checkKey e (n+1) t (.int k v)).run P w=.ok () w:=by
 simp [Instr.checkKey,run_underlying hu]
theorem zs3 {P:Program} {t:TypeId} {f0 f1:Field} {q0 q1 k0 k1:IntKind} (hu:P.underlying t=some (.struct #[f0,f1])) (h0:P.underlying f0.type=some (.int q0)) (h1:P.underlying f1.type=some (.int q1)) (o0:f0.offset=0) (o1:f1.offset=1)
  (n0 : ¬ f0.name = "_") (n1 : ¬ f1.name = "_") (e : Bool) (n : Nat) (a b : Int) (w : World) : (Instr.checkKey e (n + 2) t (.agg #[.int k0 a, .int k1 b])).run P w = .ok () w := by
 have p0:(part f0.type #[Value.int k0 a,.int k1 b] f0.offset).run P w=.ok (.int k0 a) w:=run_part_plain w (by simp [Program.plainKey,h0]) (by rw [o0];rfl)
 have p1:(part f1.type #[Value.int k0 a,.int k1 b] f1.offset).run P w=.ok (.int k1 b) w:=run_part_plain w (by simp [Program.plainKey,h1]) (by rw [o1];rfl)
 have c0:=zj2 (k:=k0) h0 e n a w
 have c1:=zj2 (k:=k1) h1 e n b w
 rw [show n+2=(n+1)+1 from rfl,Instr.checkKey]
 simp only [Sem.run_bind,run_underlying hu,Result.andThen_ok]
 rw [<- Array.forIn_toList]
 simp only [List.forIn_cons,List.forIn_nil,Sem.run_bind,n0,n1,ne_eq,not_false_eq_true,if_true,Result.andThen_ok,p0,p1,c0,c1,Sem.run_pure]
theorem zw5 (e:Bool) (k:Int × Int) (w:World):(Instr.checkKey e 10000 T.a17 (ekK k)).run P w=.ok () w :=
 zs3 (P:=P) (q0:=.i64) (q1:=.i64) Go.Proofs.Tryz.underlying298 (by kernel_rfl) (by kernel_rfl) rfl rfl (by decide) (by decide) e 9998 k.1 k.2 w
theorem zjd (k:Int × Int) (w:World):∀ (es:List MapEntry) (i:Nat),(∀ e ∈ es,∃ k',e.key=ekK k') ->
  (∃ (j:Nat) (e:MapEntry),es[j]? = some e/\e.key=ekK k/\(Instr.findAsking T.a17 (ekK k) es i).run P w=.ok (some (i+j,e.val)) w) \/
  ((∀ e ∈ es,e.key≠ekK k)/\(Instr.findAsking T.a17 (ekK k) es i).run P w=.ok none w)
 | [],i,_=>.inr ⟨by simp,by simp [Instr.findAsking,Sem.run_pure]⟩
 | e::es,i,h=>by
  obtain ⟨k',hk'⟩:=h e (List.mem_cons_self ..)
  have hrun:(Instr.findAsking T.a17 (ekK k) (e::es) i).run P w=(if (k.1 == k'.1 && k.2 == k'.2)=true then (pure (some (i,e.val)):Sem (Option (Nat × Value))) else Instr.findAsking T.a17 (ekK k) es (i+1)).run P w:=by
   rw [Instr.findAsking]
   simp only [Sem.run_bind,hk',z03y,Result.andThen_ok]
  by_cases hk:k=k'
  ·subst hk
   refine .inl ⟨0,e,rfl,hk',?_⟩
   rw [hrun,if_pos (by simp)];rfl
  ·have hne:¬ (k.1 == k'.1 && k.2 == k'.2)=true:=λh2=>hk (by
    simp only [Bool.and_eq_true,beq_iff_eq] at h2
    exact Prod.ext h2.1 h2.2)
   rcases zjd k w es (i+1) (λe he=>h e (List.mem_cons_of_mem _ he)) with ⟨j,e',h1,h2,h3⟩|⟨h1,h2⟩
   ·exact .inl ⟨j+1,e',h1,h2,by rw [hrun,if_neg hne,h3,Nat.add_assoc,Nat.add_comm 1 j]⟩
   ·refine .inr ⟨λe' he'=>?_,by rw [hrun,if_neg hne,h2]⟩
    rcases List.mem_cons.1 he' with rfl|he'
    ·rw [hk']
     intro h4
     injection h4 with h4
     simp at h4
     exact hk (Prod.ext h4.1.symm h4.2.symm)
    ·exact h1 e' he'
instance:KeyT P T.a17 ekK where
 inj a b h:=by
  injection h with h4
  simp at h4
  exact Prod.ext h4.1 h4.2
 same a:=by
  show (_ && _)=true
  simp [Instr.sameBits]
 check:=zw5
 find es k w h:=by
  have e:=run_findKey_eq (P:=P) w (k:=T.a17) (by kernel_rfl) (ekK k) es
  rcases zjd k w es 0 h with ⟨j,e',h1,h2,h3⟩|⟨h1,h2⟩
  ·exact .inl ⟨j,e',h1,h2,by rw [e,h3,Nat.zero_add]⟩
  ·exact .inr ⟨h1,by rw [e,h2]⟩
instance:KeyT P T.a14 ekI:=zm2 (by kernel_rfl)
instance IsK.key {a b:Int}:IsK ekK (.agg #[.int .i64 a,.int .i64 b]) (a,b):=⟨rfl⟩
instance:MapT P T.a21 T.a14 (.agg #[.int .i64 0,.int .i64 0,.int .i64 0,.int .i64 0]):=⟨T.a18,by kernel_rfl,by kernel_rfl⟩
instance:MapT P T.a22 T.a17 (.agg #[.int .i64 0,.int .i64 0,.int .i64 0,.int .i64 0]):=⟨T.a18,by kernel_rfl,by kernel_rfl⟩
structure SortI where
 T:TypeId
 s:Sh1
 sz:Nat
 less:HL s.prims->HL s.prims->(Bool->Prog)->Prog
 ex:List Value
 xs:TypeId
 ti:TypeId
 fNext:FuncId
 fPow:FuncId
 f_sift:FuncId
 f_heap:FuncId
 f_ins:FuncId
 f_brk:FuncId
 f_rev:FuncId
 f_pins:FuncId
 f_peq:FuncId
 f_part:FuncId
 f_ord2:FuncId
 f_med:FuncId
 f_medj:FuncId
 f_piv:FuncId
 f_pdq:FuncId
def SortI.heap (I:SortI) (data:Sl) (a:Int) (b:Int):Prog :=
.lt (.int .i64) (a) λ(n0:Int) =>
.lt (.int .i64) (IntKind.wrap .i64 (b-a)) λ(n1:Int) =>
.lt (.int .i64) (IntKind.wrap .i64 (Int.tdiv (IntKind.wrap .i64 (n1-1)) 2)) λ(n2:Int) =>
.bind 1 [] (
.loop 2 [.one (.int .i64)] (n2,()) (u1 λ(n3:Int) =>
.ite (decide (n3>=0)) (
.call I.f_sift ([data.v,.int .i64 n3,.int .i64 n1,.int .i64 n0]++I.ex) (.tup []) (u0 <|
.lt (.int .i64) (IntKind.wrap .i64 (n3-1)) λ(n4:Int) =>
.done 2 [.int .i64 n4])) (
.done 1 []))) (u0 <|
.lt (.int .i64) (IntKind.wrap .i64 (n1-1)) λ(n5:Int) =>
.bind 1 [] (
.loop 2 [.one (.int .i64)] (n5,()) (u1 λ(n6:Int) =>
.ite (decide (n6>=0)) (
.bind 3 [] (
.tick <|
.ex [.adr] (c1 λa7=>0<=IntKind.wrap .i64 (n0+n6)/\IntKind.wrap .i64 (n0+n6)<((data.len:Nat):Int)/\data.a=some a7) (u1 λa8 =>
.read (True) (ld I.T (Addr.add a8 (Int.toNat (IntKind.wrap .i64 (n0+n6))*I.sz))) (.one I.s) (λn9 =>
.ex [.adr] (c1 λa10=>0<=n0/\n0<((data.len:Nat):Int)/\data.a=some a10) (u1 λa11 =>
.read (True) (ld I.T (Addr.add a11 (Int.toNat n0*I.sz))) (.one I.s) (λn12 =>
.ex [.adr] (c1 λa13=>0<=n0/\n0<((data.len:Nat):Int)/\data.a=some a13) (u1 λa14 =>
.actU (st I.T (Addr.add a14 (Int.toNat n0*I.sz)) ((Sh.one I.s).mk n9)) <|
.ex [.adr] (c1 λa15=>0<=IntKind.wrap .i64 (n0+n6)/\IntKind.wrap .i64 (n0+n6)<((data.len:Nat):Int)/\data.a=some a15) (u1 λa16 =>
.actU (st I.T (Addr.add a16 (Int.toNat (IntKind.wrap .i64 (n0+n6))*I.sz)) ((Sh.one I.s).mk n12)) <|
.untick <|
.done 3 []))))))) (u0 <|
.call I.f_sift ([data.v,.int .i64 0,.int .i64 n6,.int .i64 n0]++I.ex) (.tup []) (u0 <|
.lt (.int .i64) (IntKind.wrap .i64 (n6-1)) λ(n17:Int) =>
.done 2 [.int .i64 n17]))) (
.done 1 []))) (u0 <|
.done 0 []))
def SortI.part (I:SortI) (data:Sl) (a b:Int) (pivot:Int):Prog :=
.bind 1 [] (
.tick <|
.ex [.adr] (c1 λa0=>0<=pivot/\pivot<((data.len:Nat):Int)/\data.a=some a0) (u1 λa1 =>
.read (True) (ld I.T (Addr.add a1 (Int.toNat pivot*I.sz))) (.one I.s) (λn2 =>
.ex [.adr] (c1 λa3=>0<=a/\a<((data.len:Nat):Int)/\data.a=some a3) (u1 λa4 =>
.read (True) (ld I.T (Addr.add a4 (Int.toNat a*I.sz))) (.one I.s) (λn5 =>
.ex [.adr] (c1 λa6=>0<=a/\a<((data.len:Nat):Int)/\data.a=some a6) (u1 λa7 =>
.actU (st I.T (Addr.add a7 (Int.toNat a*I.sz)) ((Sh.one I.s).mk n2)) <|
.ex [.adr] (c1 λa8=>0<=pivot/\pivot<((data.len:Nat):Int)/\data.a=some a8) (u1 λa9 =>
.actU (st I.T (Addr.add a9 (Int.toNat pivot*I.sz)) ((Sh.one I.s).mk n5)) <|
.untick <|
.done 1 []))))))) (u0 <|
.lt (.int .i64) (IntKind.wrap .i64 (a+1)) λ(n10:Int) =>
.lt (.int .i64) (IntKind.wrap .i64 (b-1)) λ(n11:Int) =>
.bind 1 [.one (.int .i64)] (
.loop 2 [.one (.int .i64)] (n10,()) (u1 λ(n12:Int) =>
.bind 3 [.one .bool] (
.tick <|
.ex [.adr] (c1 λa13=>decide (n12<=n11)=true->0<=n12/\n12<((data.len:Nat):Int)/\data.a=some a13) (u1 λa14 =>
.read ((decide (n12<=n11)=true)) (ld I.T (Addr.add a14 (Int.toNat n12*I.sz))) (.one I.s) (λn15 =>
.ex [.adr] (c1 λa16=>decide (n12<=n11)=true->0<=a/\a<((data.len:Nat):Int)/\data.a=some a16) (u1 λa17 =>
.read ((decide (n12<=n11)=true)) (ld I.T (Addr.add a17 (Int.toNat a*I.sz))) (.one I.s) (λn18 =>
.ite (decide (n12<=n11)) (
I.less n15 n18 (λb19 =>
.untick <|
.done 3 [.bool b19])) (
.untick <|
.done 3 [.bool false])))))) (u1 λb20 =>
.ite (b20) (
.lt (.int .i64) (IntKind.wrap .i64 (n12+1)) λ(n21:Int) =>
.done 2 [.int .i64 n21]) (
.done 1 [.int .i64 n12])))) (u1 λ(n22:Int) =>
.bind 1 [.one (.int .i64)] (
.loop 2 [.one (.int .i64)] (n11,()) (u1 λ(n23:Int) =>
.bind 3 [.one .bool] (
.tick <|
.ex [.adr] (c1 λa24=>decide (n22<=n23)=true->0<=n23/\n23<((data.len:Nat):Int)/\data.a=some a24) (u1 λa25 =>
.read ((decide (n22<=n23)=true)) (ld I.T (Addr.add a25 (Int.toNat n23*I.sz))) (.one I.s) (λn26 =>
.ex [.adr] (c1 λa27=>decide (n22<=n23)=true->0<=a/\a<((data.len:Nat):Int)/\data.a=some a27) (u1 λa28 =>
.read ((decide (n22<=n23)=true)) (ld I.T (Addr.add a28 (Int.toNat a*I.sz))) (.one I.s) (λn29 =>
.ite (decide (n22<=n23)) (
I.less n26 n29 (λb30 =>
.untick <|
.done 3 [.bool (not b30)])) (
.untick <|
.done 3 [.bool false])))))) (u1 λb31 =>
.ite (b31) (
.lt (.int .i64) (IntKind.wrap .i64 (n23-1)) λ(n32:Int) =>
.done 2 [.int .i64 n32]) (
.done 1 [.int .i64 n23])))) (u1 λ(n33:Int) =>
.ite (decide (n22>n33)) (
.bind 1 [] (
.tick <|
.ex [.adr] (c1 λa34=>0<=a/\a<((data.len:Nat):Int)/\data.a=some a34) (u1 λa35 =>
.read (True) (ld I.T (Addr.add a35 (Int.toNat a*I.sz))) (.one I.s) (λn36 =>
.ex [.adr] (c1 λa37=>0<=n33/\n33<((data.len:Nat):Int)/\data.a=some a37) (u1 λa38 =>
.read (True) (ld I.T (Addr.add a38 (Int.toNat n33*I.sz))) (.one I.s) (λn39 =>
.ex [.adr] (c1 λa40=>0<=n33/\n33<((data.len:Nat):Int)/\data.a=some a40) (u1 λa41 =>
.actU (st I.T (Addr.add a41 (Int.toNat n33*I.sz)) ((Sh.one I.s).mk n36)) <|
.ex [.adr] (c1 λa42=>0<=a/\a<((data.len:Nat):Int)/\data.a=some a42) (u1 λa43 =>
.actU (st I.T (Addr.add a43 (Int.toNat a*I.sz)) ((Sh.one I.s).mk n39)) <|
.untick <|
.done 1 []))))))) (u0 <|
.lt (.int .i64) (n33) λ(n44:Int) =>
.done 0 [.int .i64 n44,.bool true])) (
.bind 1 [] (
.tick <|
.ex [.adr] (c1 λa45=>0<=n33/\n33<((data.len:Nat):Int)/\data.a=some a45) (u1 λa46 =>
.read (True) (ld I.T (Addr.add a46 (Int.toNat n33*I.sz))) (.one I.s) (λn47 =>
.ex [.adr] (c1 λa48=>0<=n22/\n22<((data.len:Nat):Int)/\data.a=some a48) (u1 λa49 =>
.read (True) (ld I.T (Addr.add a49 (Int.toNat n22*I.sz))) (.one I.s) (λn50 =>
.ex [.adr] (c1 λa51=>0<=n22/\n22<((data.len:Nat):Int)/\data.a=some a51) (u1 λa52 =>
.actU (st I.T (Addr.add a52 (Int.toNat n22*I.sz)) ((Sh.one I.s).mk n47)) <|
.ex [.adr] (c1 λa53=>0<=n33/\n33<((data.len:Nat):Int)/\data.a=some a53) (u1 λa54 =>
.actU (st I.T (Addr.add a54 (Int.toNat n33*I.sz)) ((Sh.one I.s).mk n50)) <|
.untick <|
.done 1 []))))))) (u0 <|
.lt (.int .i64) (IntKind.wrap .i64 (n22+1)) λ(n55:Int) =>
.lt (.int .i64) (IntKind.wrap .i64 (n33-1)) λ(n56:Int) =>
.bind 1 [.one (.int .i64)] (
.loop 2 [.one (.int .i64),.one (.int .i64)] (n55,(n56,())) (u2 λ(n57 n58:Int) =>
.bind 3 [.one (.int .i64),.one (.int .i64)] (
.bind 4 [.one (.int .i64)] (
.loop 5 [.one (.int .i64)] (n57,()) (u1 λ(n59:Int) =>
.bind 6 [.one .bool] (
.tick <|
.ex [.adr] (c1 λa60=>decide (n59<=n58)=true->0<=n59/\n59<((data.len:Nat):Int)/\data.a=some a60) (u1 λa61 =>
.read ((decide (n59<=n58)=true)) (ld I.T (Addr.add a61 (Int.toNat n59*I.sz))) (.one I.s) (λn62 =>
.ex [.adr] (c1 λa63=>decide (n59<=n58)=true->0<=a/\a<((data.len:Nat):Int)/\data.a=some a63) (u1 λa64 =>
.read ((decide (n59<=n58)=true)) (ld I.T (Addr.add a64 (Int.toNat a*I.sz))) (.one I.s) (λn65 =>
.ite (decide (n59<=n58)) (
I.less n62 n65 (λb66 =>
.untick <|
.done 6 [.bool b66])) (
.untick <|
.done 6 [.bool false])))))) (u1 λb67 =>
.ite (b67) (
.lt (.int .i64) (IntKind.wrap .i64 (n59+1)) λ(n68:Int) =>
.done 5 [.int .i64 n68]) (
.done 4 [.int .i64 n59])))) (u1 λ(n69:Int) =>
.bind 4 [.one (.int .i64)] (
.loop 5 [.one (.int .i64)] (n58,()) (u1 λ(n70:Int) =>
.bind 6 [.one .bool] (
.tick <|
.ex [.adr] (c1 λa71=>decide (n69<=n70)=true->0<=n70/\n70<((data.len:Nat):Int)/\data.a=some a71) (u1 λa72 =>
.read ((decide (n69<=n70)=true)) (ld I.T (Addr.add a72 (Int.toNat n70*I.sz))) (.one I.s) (λn73 =>
.ex [.adr] (c1 λa74=>decide (n69<=n70)=true->0<=a/\a<((data.len:Nat):Int)/\data.a=some a74) (u1 λa75 =>
.read ((decide (n69<=n70)=true)) (ld I.T (Addr.add a75 (Int.toNat a*I.sz))) (.one I.s) (λn76 =>
.ite (decide (n69<=n70)) (
I.less n73 n76 (λb77 =>
.untick <|
.done 6 [.bool (not b77)])) (
.untick <|
.done 6 [.bool false])))))) (u1 λb78 =>
.ite (b78) (
.lt (.int .i64) (IntKind.wrap .i64 (n70-1)) λ(n79:Int) =>
.done 5 [.int .i64 n79]) (
.done 4 [.int .i64 n70])))) (u1 λ(n80:Int) =>
.ite (decide (n69>n80)) (
.done 1 [.int .i64 n80]) (
.bind 4 [] (
.tick <|
.ex [.adr] (c1 λa81=>0<=n80/\n80<((data.len:Nat):Int)/\data.a=some a81) (u1 λa82 =>
.read (True) (ld I.T (Addr.add a82 (Int.toNat n80*I.sz))) (.one I.s) (λn83 =>
.ex [.adr] (c1 λa84=>0<=n69/\n69<((data.len:Nat):Int)/\data.a=some a84) (u1 λa85 =>
.read (True) (ld I.T (Addr.add a85 (Int.toNat n69*I.sz))) (.one I.s) (λn86 =>
.ex [.adr] (c1 λa87=>0<=n69/\n69<((data.len:Nat):Int)/\data.a=some a87) (u1 λa88 =>
.actU (st I.T (Addr.add a88 (Int.toNat n69*I.sz)) ((Sh.one I.s).mk n83)) <|
.ex [.adr] (c1 λa89=>0<=n80/\n80<((data.len:Nat):Int)/\data.a=some a89) (u1 λa90 =>
.actU (st I.T (Addr.add a90 (Int.toNat n80*I.sz)) ((Sh.one I.s).mk n86)) <|
.untick <|
.done 4 []))))))) (u0 <|
.lt (.int .i64) (IntKind.wrap .i64 (n69+1)) λ(n91:Int) =>
.lt (.int .i64) (IntKind.wrap .i64 (n80-1)) λ(n92:Int) =>
.done 3 [.int .i64 n91,.int .i64 n92]))))) (u2 λ(n93 n94:Int) =>
.done 2 [.int .i64 n93,.int .i64 n94]))) (u1 λ(n95:Int) =>
.bind 1 [] (
.tick <|
.ex [.adr] (c1 λa96=>0<=a/\a<((data.len:Nat):Int)/\data.a=some a96) (u1 λa97 =>
.read (True) (ld I.T (Addr.add a97 (Int.toNat a*I.sz))) (.one I.s) (λn98 =>
.ex [.adr] (c1 λa99=>0<=n95/\n95<((data.len:Nat):Int)/\data.a=some a99) (u1 λa100 =>
.read (True) (ld I.T (Addr.add a100 (Int.toNat n95*I.sz))) (.one I.s) (λn101 =>
.ex [.adr] (c1 λa102=>0<=n95/\n95<((data.len:Nat):Int)/\data.a=some a102) (u1 λa103 =>
.actU (st I.T (Addr.add a103 (Int.toNat n95*I.sz)) ((Sh.one I.s).mk n98)) <|
.ex [.adr] (c1 λa104=>0<=a/\a<((data.len:Nat):Int)/\data.a=some a104) (u1 λa105 =>
.actU (st I.T (Addr.add a105 (Int.toNat a*I.sz)) ((Sh.one I.s).mk n101)) <|
.untick <|
.done 1 []))))))) (u0 <|
.lt (.int .i64) (n95) λ(n106:Int) =>
.done 0 [.int .i64 n106,.bool false])))))))
abbrev SortI.E (I:SortI):Type:=HL I.s.prims
abbrev SortI.enc (I:SortI) (x:I.E):List Value:=HL.vals I.s.prims x
abbrev SortI.arr (I:SortI) (d:Sl) (xs:List I.E):HP:=slc I.T I.sz d (xs.flatMap I.enc)
structure SortI.Ok (P:Program) (I:SortI) (lt:I.E->I.E->Bool):Prop where
 pos:0<I.sz
 enc:∀ x,(I.enc x).length=I.sz
 ld:∀ w A (x:I.E),At w A (I.enc x)->(ld I.T A).run P w=.ok ((Sh.one I.s).mk x) w
 size:sizeOf? P I.T=some I.sz
 cells:∀ x:I.E,((Sh.one I.s).mk x).cells.toList=I.enc x
 one:∀ (x:I.E),∀ u ∈ I.enc x,u.oneCell'=true
 less:∀ {x y:I.E} {k:Bool->Prog} {w:World} {l:List HP} {Q:Post},Sat w l->(∀ w',Sat w' l->(k (lt x y)).wp P tt w' Q)->(I.less x y k).wp P tt w Q
def zap {α:Type} (xs:List α) (i j:Nat):List α:=match xs[i]?,xs[j]? with
 | some x,some y=>(xs.set i y).set j x
 | _,_=>xs
def z87 {α:Type} (lt:α->α->Bool) (xs:List α) (i j:Nat):Bool:=match xs[i]?,xs[j]? with
 | some x,some y=>lt x y
 | _,_=>false
section
variable {P:Program} {I:SortI} {lt:I.E->I.E->Bool} {w:World} {l:List HP} {Q:Post} {d:Sl} {xs:List I.E}
theorem SortI.Ok.len (ok:I.Ok P lt) (hs:Sat w (I.arr d xs::l)):d.len=xs.length:=hs.rd.len ok.enc ok.pos
end
inductive Sw {α:Type} (a b:Nat):List α->List α->Prop
 | refl (xs:List α):Sw a b xs xs
 | step {xs ys:List α} {i j:Nat} (h:Sw a b xs ys) (hi:a<=i) (hi':i<b) (hj:a<=j) (hj':j<b):Sw a b xs (zap ys i j)
def tr (i j p:Nat):Nat:=if p=i then j else if p=j then i else p
section
variable {α:Type} {lt:α->α->Bool} {xs ys zs:List α} {a b:Nat}
theorem zn8 (xs:List α) (i j:Nat):(zap xs i j).length=xs.length:=by
 unfold zap;split <;> simp
theorem zxq {i j:Nat} (hi:i<xs.length) (hj:j<xs.length) (p:Nat):(zap xs i j)[p]? = xs[tr i j p]? := by
 simp only [zap,List.getElem?_eq_getElem hi,List.getElem?_eq_getElem hj,tr]
 rw [List.getElem?_set]
 by_cases h1:p=i
 ·subst h1
  rw [if_pos rfl]
  by_cases h2:j=p
  ·subst h2;rw [if_pos rfl,if_pos (by simpa using hi),List.getElem?_eq_getElem hi]
  ·rw [if_neg h2,List.getElem?_set,if_pos rfl,if_pos hi,List.getElem?_eq_getElem hj]
 ·rw [if_neg h1]
  by_cases h2:j=p
  ·subst h2;rw [if_pos rfl,if_pos rfl,if_pos (by simpa using hj),List.getElem?_eq_getElem hi]
  ·rw [if_neg h2,if_neg (Ne.symm h2),List.getElem?_set,if_neg (Ne.symm h1)]
theorem Sw.length (h:Sw a b xs ys):ys.length=xs.length:=by
 induction h with
 | refl=>rfl
 | step _ _ _ _ _ ih=>rw [zn8,ih]
theorem Sw.trans (h1:Sw a b xs ys) (h2:Sw a b ys zs):Sw a b xs zs:=by
 induction h2 with
 | refl=>exact h1
 | step _ hi hi' hj hj' ih=>exact .step ih hi hi' hj hj'
theorem Sw.mono {a' b':Nat} (h:Sw a b xs ys) (ha:a'<=a) (hb:b<=b'):Sw a' b' xs ys:=by
 induction h with
 | refl=>exact .refl _
 | step _ hi hi' hj hj' ih=>exact .step ih (by omega) (by omega) (by omega) (by omega)
theorem Sw.out (h:Sw a b xs ys) {k:Nat} (hk:k<a\/b<=k):ys[k]? = xs[k]? := by
 induction h with
 | refl=>rfl
 | @step ys' i j h1 hi hi' hj hj' ih =>
  rw [<- ih]
  unfold zap
  split
  ·rw [List.getElem?_set_ne (by omega),List.getElem?_set_ne (by omega)]
  ·rfl
theorem ztc (xs:List α) (i j:Nat):(zap xs i j).Perm xs:=by
 unfold zap
 split
 ·rename_i x y hx hy
  obtain ⟨hi,rfl⟩:=List.getElem?_eq_some_iff.1 hx
  obtain ⟨hj,rfl⟩:=List.getElem?_eq_some_iff.1 hy
  exact List.set_set_perm hi hj
 ·exact .refl _
theorem Sw.perm (h:Sw a b xs ys):ys.Perm xs:=by
 induction h with
 | refl=>exact .refl _
 | step _ _ _ _ _ ih=>exact (ztc _ _ _).trans ih
theorem Sw.all (h:Sw a b xs ys) (hb:b<=xs.length) {p:α->Prop} (hp:∀ k x,a<=k->k<b->xs[k]? = some x->p x):∀ k x,a<=k->k<b->ys[k]? = some x->p x:=by
 induction h with
 | refl=>exact hp
 | @step ys' i j h1 hi hi' hj hj' ih =>
  intro k x h2 h3 hx
  have hl:=h1.length
  rw [zxq (by omega) (by omega)] at hx
  unfold tr at hx
  split at hx
  ·exact ih j x hj hj' hx
  ·split at hx
   ·exact ih i x hi hi' hx
   ·exact ih k x h2 h3 hx
def z84 (lt:α->α->Bool) (xs:List α) (a b:Nat):Prop:=∀ p q,a<=p->p<q->q<b->z87 lt xs q p=false
end
section
variable {P:Program} {I:SortI} {lt:I.E->I.E->Bool} {w:World} {l:List HP} {Q:Post} {d:Sl} {xs ys:List I.E}
def Pre (lt:I.E->I.E->Bool) (xs:List I.E) (a b:Nat):Prop:=0<a->∀ k,a<=k->k<b->z87 lt xs k (a-1)=false
theorem z6w {p q:Nat}:z87 lt xs p q=false↔∀ x y,xs[p]? = some x->xs[q]? = some y->lt x y=false:=by
 unfold z87
 constructor
 ·intro h x y hx hy;rw [hx,hy] at h;exact h
 ·intro h
  split
  ·rename_i x y hx hy;exact h x y hx hy
  ·rfl
theorem Sw.outer {a b r:Nat} (h:Sw a b xs ys) (hb:b<=xs.length) (hr:r<a\/b<=r) (hk:∀ k,a<=k->k<b->z87 lt xs k r=false):∀ k,a<=k->k<b->z87 lt ys k r=false:=by
 intro k k1 k2
 rw [z6w]
 intro x y hx hy
 rw [h.out hr] at hy
 exact Sw.all h hb (p:=λx=>lt x y=false) (λk x k1 k2 hx=>z6w.1 (hk k k1 k2) x y hx hy) k x k1 k2 hx
theorem Sw.outer' {a b r:Nat} (h:Sw a b xs ys) (hb:b<=xs.length) (hr:r<a\/b<=r) (hk:∀ k,a<=k->k<b->z87 lt xs r k=false):∀ k,a<=k->k<b->z87 lt ys r k=false:=by
 intro k k1 k2
 rw [z6w]
 intro y x hy hx
 rw [h.out hr] at hy
 exact Sw.all h hb (p:=λx=>lt y x=false) (λk x k1 k2 hx=>z6w.1 (hk k k1 k2) y x hy hx) k x k1 k2 hx
theorem Pre.sw {a b:Nat} (h:Pre lt xs a b) (hb:b<=xs.length) (hs:Sw a b xs ys):Pre lt ys a b:=λh0=>hs.outer hb (.inl (by omega)) (h h0)
end
section
variable {P:Program} {I:SortI} {lt:I.E->I.E->Bool} {w:World} {l:List HP} {Q:Post} {d:Sl} {xs ys:List I.E}
abbrev SortI.ctr (I:SortI) (c:Nat) (n:Int):HP:=pt c (.cells #[.int .i64 n] I.ti)
end
section
variable {P:Program} {I:SortI} {lt:I.E->I.E->Bool} {w:World} {l:List HP} {Q:Post} {d:Sl} {xs ys zs us:List I.E}
theorem zg6 {a b p q:Nat} (h:Sw a b xs ys) (hp:p<a\/b<=p) (hq:q<a\/b<=q):z87 lt ys p q=z87 lt xs p q:=by
 unfold z87;rw [h.out hp,h.out hq]
theorem z84.out {a b c e:Nat} (h:z84 lt xs c e) (hs:Sw a b xs ys) (hd:e<=a\/b<=c):z84 lt ys c e:=λp q h1 h2 h3=>by
 rw [zg6 hs (by omega) (by omega)];exact h p q h1 h2 h3
def ze0 (lt:I.E->I.E->Bool) (vs:List I.E) (a b m:Nat):Prop:=(∀ k,a<=k->k<m->z87 lt vs m k=false)/\(∀ k,m<k->k<b->z87 lt vs k m=false)
theorem ze0.left {a b m:Nat} (h:ze0 lt xs a b m) (hm:m<=xs.length) (hs:Sw a m xs ys):ze0 lt ys a b m :=
 ⟨hs.outer' hm (.inr (by omega)) h.1,λk h1 h2=>by rw [zg6 hs (by omega) (by omega)];exact h.2 k h1 h2⟩
theorem ze0.right {a b m:Nat} (h:ze0 lt xs a b m) (hb:b<=xs.length) (hs:Sw (m+1) b xs ys):ze0 lt ys a b m :=
 ⟨λk h1 h2=>by rw [zg6 hs (by omega) (by omega)];exact h.1 k h1 h2,λk h1 h2=>hs.outer hb (.inl (by omega)) (λk k1 k2=>h.2 k (by omega) k2) k (by omega) h2⟩
structure Stand (lt:I.E->I.E->Bool) (xs:List I.E) (a b:Nat) (ys:List I.E) (c e:Nat):Prop where
 h1:a<=c
 h2:c<=e
 h3:e<=b
 sw:Sw a b xs ys
 pre:Pre lt ys c e
 fin:∀ zs,Sw c e ys zs->z84 lt zs c e->z84 lt zs a b
theorem Stand.step {a b c e:Nat} (h:Stand lt xs a b ys c e) (hb:b<=xs.length) (hs:Sw c e ys zs):Stand lt xs a b zs c e :=
 ⟨h.h1,h.h2,h.h3,h.sw.trans (hs.mono h.h1 h.h3),h.pre.sw (by rw [h.sw.length];have:=h.h3;omega) hs,λus h1 h2=>h.fin us (hs.trans h1) h2⟩
theorem Stand.end {a b c e:Nat} (h:Stand lt xs a b ys c e) (hs:Sw c e ys zs) (hso:z84 lt zs c e):Sw a b xs zs/\z84 lt zs a b :=
 ⟨h.sw.trans (hs.mono h.h1 h.h3),h.fin zs hs hso⟩
end
set_option maxRecDepth 4000
def z9n:ByteArray:=ByteArray.mk #[0,1,2,2,3,3,3,3,4,4,4,4,4,4,4,4,5,5,5,5,5,5,5,5,5,5,5,5,5,5,5,5,6,6,6,6,6,6,6,6,6,6,6,6,6,6,6,6,6,6,6,6,6,6,6,6,6,6,6,6,6,6,6,6,7,7,7,7,7,7,7,7,7,7,7,7,7,7,7,7,7,7,7,7,7,7,7,7,7,7,7,7,7,7,7,7,7,7,7,7,7,7,7,7,7,7,7,7,7,7,7,7,7,7,7,7,7,7,7,7,7,7,7,7,7,7,7,7,8,8,8,8,8,8,8,8,8,8,8,8,8,8,8,8,8,8,8,8,8,8,8,8,8,8,8,8,8,8,8,8,8,8,8,8,8,8,8,8,8,8,8,8,8,8,8,8,8,8,8,8,8,8,8,8,8,8,8,8,8,8,8,8,8,8,8,8,8,8,8,8,8,8,8,8,8,8,8,8,8,8,8,8,8,8,8,8,8,8,8,8,8,8,8,8,8,8,8,8,8,8,8,8,8,8,8,8,8,8,8,8,8,8,8,8,8,8,8,8,8,8,8,8,8,8,8,8]
theorem zst:∀ i:Fin 256,∃ k:Nat,bt z9n (i.val:Int)=k/\k<=8/\(1<=i.val->2 ^ k<=2*i.val):=by
 have h:∀ i:Fin 256,0<=bt z9n (i.val:Int)/\(bt z9n (i.val:Int)).toNat<=8/\(1<=i.val->2 ^ (bt z9n (i.val:Int)).toNat<=2*i.val):=by decide
 intro i
 obtain ⟨h1,h2,h3⟩:=h i
 exact ⟨(bt z9n (i.val:Int)).toNat,by omega,h2,h3⟩
theorem z07o (x:Int):IntKind.wrap .u8 x=x % 256:=by simp [IntKind.wrap,IntKind.bits,IntKind.signed]
section
variable {w:World} {l:List HP}
structure LenS (n x s B:Nat):Prop where
 h1:x*2 ^ s<=n
 h2:1<=x
 h3:x<B
 h4:s<=64
theorem LenS.shift {n x s:Nat} (a b:Nat) (h:LenS n x s (2 ^ (a+b))) (hx:2 ^ a<=x) (hs:s+a<=64):LenS n (x / 2 ^ a) (s+a) (2 ^ b):=by
 obtain ⟨h1,h2,h3,h4⟩:=h
 have hp:0<2 ^ a:=Nat.two_pow_pos a
 refine ⟨?_,Nat.div_pos hx hp,?_,hs⟩
 ·rw [Nat.pow_add,<- Nat.mul_assoc,Nat.mul_right_comm]
  exact Nat.le_trans (Nat.mul_le_mul_right _ (Nat.div_mul_le_self x (2 ^ a))) h1
 ·rw [Nat.div_lt_iff_lt_mul hp,Nat.mul_comm,<- Nat.pow_add];exact h3
theorem z04i (n:Nat) (h0:1<=n) (h1:n<18446744073709551616) (hs:Sat w l):Ret P F.a76 #[.int .u64 n] w λvs w'=>(∃ k:Nat,vs=[.int .i64 k]/\k<=64/\2 ^ k<=2*n)/\Sat w' l :=
 zhx n <| by
  delta z013 Aa Af Aj Ak Aw BJ Bt
  refine zm (λv w'=>(∃ x s:Nat,v=((x:Int),(s:Int),())/\LenS n x s (2 ^ 32)/\s<=32)/\Sat w' l) ?_ ?_
  ·refine zdw (λhc=>?_) λhc=>?_
   ·have hc:(n:Int)>=4294967296:=of_decide_eq_true hc
    refine z83 (y:=((n / 2 ^ 32:Nat):Int)) (by rw [Int.fdiv_eq_ediv_of_nonneg _ (by omega)];omega) ?_
    exact z48 ⟨(((n / 2 ^ 32:Nat):Int),((32:Nat):Int),()),rfl,⟨_,32,rfl,by have:=LenS.shift (n:=n) (x:=n) (s:=0) 32 32 ⟨by omega,h0,by omega,by omega⟩ (by omega) (by omega);simpa using this,by omega⟩,hs⟩
   ·have hc:¬ (n:Int)>=4294967296:=of_decide_eq_false hc
    exact z48 ⟨((n:Int),((0:Nat):Int),()),rfl,⟨n,0,rfl,⟨by omega,h0,by omega,by omega⟩,by omega⟩,hs⟩
  rintro _ w ⟨⟨x,s,rfl,hx,hs1⟩,hs⟩
  refine zm (λv w'=>(∃ x s:Nat,v=((x:Int),(s:Int),())/\LenS n x s (2 ^ 16)/\s<=48)/\Sat w' l) ?_ ?_
  ·refine zdw (λhc=>?_) λhc=>?_
   ·have hc:(x:Int)>=65536:=of_decide_eq_true hc
    refine z83 (y:=((x / 2 ^ 16:Nat):Int)) (by dsimp only;rw [Int.fdiv_eq_ediv_of_nonneg _ (by omega)];omega) ?_
    refine z83 (y:=((s+16:Nat):Int)) (by dsimp only;rw [w64 (by omega) (by omega)];omega) ?_
    exact z48 ⟨(((x / 2 ^ 16:Nat):Int),((s+16:Nat):Int),()),rfl,⟨_,_,rfl,LenS.shift 16 16 hx (by omega) (by omega),by omega⟩,hs⟩
   ·have hc:¬ (x:Int)>=65536:=of_decide_eq_false hc
    exact z48 ⟨((x:Int),(s:Int),()),rfl,⟨x,s,rfl,⟨hx.h1,hx.h2,by omega,hx.h4⟩,by omega⟩,hs⟩
  clear hs hx hs1
  rintro _ w ⟨⟨x,s,rfl,hx,hs1⟩,hs⟩
  refine zm (λv w'=>(∃ x s:Nat,v=((x:Int),(s:Int),())/\LenS n x s (2 ^ 8)/\s<=56)/\Sat w' l) ?_ ?_
  ·refine zdw (λhc=>?_) λhc=>?_
   ·have hc:(x:Int)>=256:=of_decide_eq_true hc
    refine z83 (y:=((x / 2 ^ 8:Nat):Int)) (by dsimp only;rw [Int.fdiv_eq_ediv_of_nonneg _ (by omega)];omega) ?_
    refine z83 (y:=((s+8:Nat):Int)) (by dsimp only;rw [w64 (by omega) (by omega)];omega) ?_
    exact z48 ⟨(((x / 2 ^ 8:Nat):Int),((s+8:Nat):Int),()),rfl,⟨_,_,rfl,LenS.shift 8 8 hx (by omega) (by omega),by omega⟩,hs⟩
   ·have hc:¬ (x:Int)>=256:=of_decide_eq_false hc
    exact z48 ⟨((x:Int),(s:Int),()),rfl,⟨x,s,rfl,⟨hx.h1,hx.h2,by omega,hx.h4⟩,by omega⟩,hs⟩
  clear hs hx hs1
  rintro _ w ⟨⟨x,s,rfl,hx,hs1⟩,hs⟩
  have hx3:=hx.h3
  have e:IntKind.wrap .u8 (x:Int)=x:=by rw [z07o];omega
  have e':IntKind.wrap .u8 ((x:Int),(s:Int),()).1=x:=e
  obtain ⟨k,hk1,hk2,hk3⟩:=zst ⟨x,by omega⟩
  refine wp_must (by rw [e'];omega) ?_
  refine z83 (y:=((s+k:Nat):Int)) ?_ ?_
  ·show IntKind.wrap .i64 ((s:Int)+IntKind.wrap .i64 (bt z9n (IntKind.wrap .u8 (x:Int))))=_
   rw [e,hk1,w64 (x:=(k:Int)) (by omega) (by omega),w64 (by omega) (by omega)];omega
  ·refine ⟨rfl,⟨s+k,rfl,by omega,?_⟩,hs⟩
   have h5:=hk3 hx.h2
   have h6:=hx.h1
   rw [Nat.pow_add]
   calc 2 ^ s*2 ^ k<=2 ^ s*(2*x):=Nat.mul_le_mul_left _ h5
    _=2*(x*2 ^ s):=by rw [Nat.mul_comm (2 ^ s),Nat.mul_assoc]
    _<=2*n:=by omega
theorem z0a5 (n:Nat) (h0:1<=n) (h1:n<18446744073709551616) (hs:Sat w l):Ret P F.a75 #[.int .u64 n] w λvs w'=>(∃ k:Nat,vs=[.int .i64 k]/\k<=64/\2 ^ k<=2*n)/\Sat w' l :=
 zhw n <| by
  delta z012 AA Aa Af Ak
  refine z8 (z04i n h0 h1 hs) λvs w' ⟨⟨k,hv,h2,h3⟩,hs⟩=>?_
  subst hv
  exact ⟨((k:Int),()),rfl,trivial,rfl,⟨k,rfl,h2,h3⟩,hs⟩
theorem z06k (hs:Sat w l):Ret P F.a75 #[.int .u64 0] w λvs w'=>vs=[.int .i64 0]/\Sat w' l :=
 zhw 0 <| by
  delta z012 AA Aa Af Ak
  refine wp_callS (0,()) (vs₀:=[.int .i64 0]) (R:=λw'=>Sat w' l) ?_ rfl λw' hs=>⟨trivial,rfl,rfl,hs⟩
  refine zhx 0 ?_
  delta z013 Aa Af Aj Ak Aw BJ Bt
  refine zm (λv w'=>v=(0,0,())/\Sat w' l) (z3p rfl (z48 ⟨(0,0,()),rfl,rfl,hs⟩)) ?_
  rintro _ w ⟨rfl,hs⟩
  refine zm (λv w'=>v=(0,0,())/\Sat w' l) (z3p rfl (z48 ⟨(0,0,()),rfl,rfl,hs⟩)) ?_
  clear hs
  rintro _ w ⟨rfl,hs⟩
  refine zm (λv w'=>v=(0,0,())/\Sat w' l) (z3p rfl (z48 ⟨(0,0,()),rfl,rfl,hs⟩)) ?_
  clear hs
  rintro _ w ⟨rfl,hs⟩
  refine wp_must (by decide) (z83 (y:=0) ?_ ⟨rfl,rfl,hs⟩)
  show IntKind.wrap .i64 (0+IntKind.wrap .i64 (bt z9n (IntKind.wrap .u8 0)))=0
  decide
end
def zli (x y:Int):Int:=if x<y then -1 else if x>y then 1 else 0
section
variable {w:World} {l:List HP} {Q:Post} {S:World->Prop}
theorem zqm (x:Int) (hs:Sat w l):Ret P F.a2 #[.int .i64 x] w λvs w'=>vs=[.bool false]/\Sat w' l :=
 zy5 x <| by
  delta zf2 Ak Ax
  refine wp_lt ?_
  exact ⟨rfl,by simp,hs⟩
theorem zj3 (x y:Int) (hs:Sat w l):Ret P F.a1 #[.int .i64 x,.int .i64 y] w λvs w'=>vs=[.int .i64 (zli x y)]/\Sat w' l :=
 zy4 x y <| by
  delta zf1 Aa Aj Ak Av Ax
  refine z8 (zqm x hs) λ_ _ hs=>?_
  obtain ⟨rfl,hs⟩:=hs
  refine zd ?_
  refine wp_lt ?_
  refine z8 (zqm y hs) λ_ _ hs=>?_
  obtain ⟨rfl,hs⟩:=hs
  refine zd ?_
  refine wp_lt ?_
  refine z03 ?_ (by simp)
  refine z03 ?_ (by simp)
  unfold zli
  refine zf (λh=>?_) λh=>?_
  ·rw [if_pos h];exact ⟨rfl,rfl,hs⟩
  rw [if_neg h]
  refine zf (λh2=>?_) λh2=>?_
  ·rw [if_pos h2];exact ⟨rfl,rfl,hs⟩
  ·rw [if_neg h2];exact ⟨rfl,rfl,hs⟩
end
abbrev fnV (g:FuncId):Value:=.func (.func g) #[] #[]
structure TxnA where
 pid:Int
 epoch:Int
 first:Int
 last:Int
def z2q (t:TxnA):List Value:=[.int .i64 t.pid,.int .i64 t.epoch,.int .i64 t.first,.int .i64 t.last]
instance:EncA z2q [.int .i64,.int .i64,.int .i64,.int .i64] (λt=>(t.pid,t.epoch,t.first,t.last,())):=⟨λ_=>rfl⟩
instance:EncN z2q 4:=⟨λ_=>rfl,by decide,by simp [z2q,Value.oneCell']⟩
instance:EncF z2q 0 (.int .i64) (λt=>t.pid):=⟨λ_=>rfl⟩
instance:EncF z2q 1 (.int .i64) (λt=>t.epoch):=⟨λ_=>rfl⟩
instance:EncF z2q 2 (.int .i64) (λt=>t.first):=⟨λ_=>rfl⟩
instance:EncF z2q 3 (.int .i64) (λt=>t.last):=⟨λ_=>rfl⟩
section
variable {w:World} {l:List HP} {Q:Post} {S:World->Prop}
theorem zw0 (a b:TxnA) (hs:Sat w l):Ret P F.a60 #[.agg (z2q a).toArray,.agg (z2q b).toArray] w λvs w'=>vs=[.int .i64 (zli a.first b.first)]/\Sat w' l :=
 zuv a.pid a.epoch a.first a.last b.pid b.epoch b.first b.last <| by
  delta z08v AA AP Aa Af Ai Ak Bx
  refine zr hs λa0 w' hs=>?_
  refine zr hs λa1 w' hs=>?_
  refine zb hs ?_
  refine zb hs ?_
  refine z8 (zj3 a.first b.first hs) λ_ _ hs=>?_
  obtain ⟨rfl,hs⟩:=hs
  refine zd ?_
  refine wp_lt ?_
  exact ⟨rfl,rfl,hs.tail.tail⟩
theorem zyj (a b:TxnA) (hs:Sat w l):Ret P F.a55 #[.agg (z2q a).toArray,.agg (z2q b).toArray] w λvs w'=>vs=[.int .i64 (zli a.last b.last)]/\Sat w' l :=
 zur a.pid a.epoch a.first a.last b.pid b.epoch b.first b.last <| by
  delta z08s AA AP Aa Af Ai Ak Bx
  refine zr hs λa0 w' hs=>?_
  refine zr hs λa1 w' hs=>?_
  refine zb hs ?_
  refine zb hs ?_
  refine z8 (zj3 a.last b.last hs) λ_ _ hs=>?_
  obtain ⟨rfl,hs⟩:=hs
  refine zd ?_
  refine wp_lt ?_
  exact ⟨rfl,rfl,hs.tail.tail⟩
def z015 (f : TxnA → Int) (g : FuncId) : Prop := (P.funcs[g]?).any (fun fn => fn.body.isSome && fn.name != "runtime.NumGoroutine") = true ∧
 ∀ (w:World) (l:List HP) (a b:TxnA),Sat w l->Ret P g #[.agg (z2q a).toArray,.agg (z2q b).toArray] w λvs w'=>vs=[.int .i64 (zli (f a) (f b))]/\Sat w' l
theorem byFirst:z015 TxnA.first F.a60:=⟨by kernel_rfl,λw l a b hs=>zw0 a b hs⟩
theorem byLast:z015 TxnA.last F.a55:=⟨by kernel_rfl,λw l a b hs=>zyj a b hs⟩
end
structure ViewA where
 next:Int
 op:List TxnA
 fa:List TxnA
abbrev evX (t:TxnA):Value:=.agg #[.int .i64 t.pid,.int .i64 t.epoch,.int .i64 t.first,.int .i64 t.last]
def opF (A:ViewA) (pid:Int):Option TxnA:=A.op.find? λt=>decide (t.pid=pid)
def faF (A:ViewA) (pid epoch:Int):Option TxnA:=A.fa.find? λt=>decide (t.pid=pid/\t.epoch=epoch)
def z5g (A:ViewA):Int:=match A.op with
 | []=>A.next
 | t::_=>t.first
structure okT (t:TxnA) (next:Int):Prop where
 pid:1<=t.pid/\t.pid<=1048576
 epoch:0<=t.epoch/\t.epoch<=32767
 first:0<=t.first/\t.first<next
structure okV (A:ViewA):Prop where
 next:0<=A.next/\A.next<=1099511627777
 many:A.op.length<=1024/\A.fa.length<=4096
 op:∀ t ∈ A.op,okT t A.next/\t.last = -1
 fa:∀ t ∈ A.fa,okT t A.next/\t.first<t.last/\t.last<A.next
 byFirst:A.op.Pairwise λa b=>a.first<b.first
 byLast:A.fa.Pairwise λa b=>a.last<b.last
 pids:(A.op.map (·.pid)).Nodup
 keys:(A.fa.map λt=>(t.pid,t.epoch)).Nodup
 apart:∀ t ∈ A.op,∀ u ∈ A.fa,¬ (t.pid=u.pid/\t.epoch=u.epoch)
def opK (A:ViewA):List (Int × TxnA):=A.op.map λt=>(t.pid,t)
def faK (A:ViewA):List ((Int × Int) × TxnA):=A.fa.map λt=>((t.pid,t.epoch),t)
def vw (v:Nat) (A:ViewA):HP:=HP.ex λM:Nat × Nat=>HP.and (okV A) (HP.star (pt v (.cells #[.int .i64 A.next,.map (some M.1),.map (some M.2)] T.a16))
 (HP.star (z1f ekI evX M.1 (opK A)) (z1f ekK evX M.2 (faK A))))
section
variable {w:World} {l r r1 r2 r3 l':List HP} {v:Nat} {A:ViewA}
theorem z9g (hs:Sat w (vw v A::l)):∃ m1 m2:Nat,okV A/\Sat w (pt v (.cells #[.int .i64 A.next,.map (some m1),.map (some m2)] T.a16)::z1f ekI evX m1 (opK A)::z1f ekK evX m2 (faK A)::l):=by
 obtain ⟨⟨m1,m2⟩,hs⟩:=hs.ex
 obtain ⟨hok,hs⟩:=hs.and
 have hs:=hs.star
 have hs:=(hs.pick [1]).star
 exact ⟨m1,m2,hok,hs.pick [2,0,0]⟩
theorem z56 (m1 m2:Nat) (hok:okV A) (hs:Sat w l) {es1:List (Int × TxnA)} {es2:List ((Int × Int) × TxnA)} [h1:FocB l v (.cells [.int .i64 A.next,.map (some m1),.map (some m2)].toArray T.a16) r1] [h2:FoM r1 m1 ekI evX es1 r2] [h3:FoM r2 m2 ekK evX es2 r3] [h4:Sub r3 l']
  (hp1:es1.Perm (opK A):=by exact .refl _) (hp2:es2.Perm (faK A):=by exact .refl _):Sat w (vw v A::l'):=by
 have hs:=hs.perm (h1.perm.trans (.cons _ (h2.perm.trans (.cons _ h3.perm))))
 have hs:=((hs.pick [1]).mapPerm hp1)
 have hs:=((hs.pick [2]).mapPerm hp2)
 have hs:Sat w (vw v A::r3):=by
  refine .ex_mk (m1,m2) (.and_mk hok (.star_mk ?_))
  refine (Sat.star_mk (hs.pick [1,0])).pick [1]
 exact hs.sub
theorem zc4 {pid:Int} {t:TxnA} (h:opF A pid=some t):t ∈ A.op/\t.pid=pid:=⟨List.mem_of_find?_eq_some h,by simpa using List.find?_some h⟩
theorem zmi {pid:Int} (h:opF A pid=none):∀ t ∈ A.op,t.pid≠pid:=λt ht=>by simpa using List.find?_eq_none.1 h t ht
theorem zfr {pid epoch:Int} {t:TxnA} (h:faF A pid epoch=some t):t ∈ A.fa/\t.pid=pid/\t.epoch=epoch:=⟨List.mem_of_find?_eq_some h,by simpa using List.find?_some h⟩
theorem zbr {pid epoch:Int} (h:faF A pid epoch=none):∀ t ∈ A.fa,¬ (t.pid=pid/\t.epoch=epoch):=λt ht=>by simpa using List.find?_eq_none.1 h t ht
theorem zmh (A:ViewA) (pid:Int):(∃ t,opF A pid=some t/\(pid,t) ∈ opK A)\/(opF A pid=none/\∀ t,(pid,t) ∉ opK A):=by
 cases h:opF A pid with
 | some t=>exact .inl ⟨t,rfl,List.mem_map.2 ⟨t,(zc4 h).1,by rw [(zc4 h).2]⟩⟩
 | none=>exact .inr ⟨rfl,λt ht=>by
   obtain ⟨u,hu,e⟩:=List.mem_map.1 ht
   simp only [Prod.mk.injEq] at e
   exact zmi h u hu e.1⟩
theorem zlp (A:ViewA) (pid epoch:Int):(∃ t,faF A pid epoch=some t/\((pid,epoch),t) ∈ faK A)\/(faF A pid epoch=none/\∀ t,((pid,epoch),t) ∉ faK A):=by
 cases h:faF A pid epoch with
 | some t=>exact .inl ⟨t,rfl,List.mem_map.2 ⟨t,(zfr h).1,by rw [(zfr h).2.1,(zfr h).2.2]⟩⟩
 | none=>exact .inr ⟨rfl,λt ht=>by
   obtain ⟨u,hu,e⟩:=List.mem_map.1 ht
   simp only [Prod.mk.injEq] at e
   exact zbr h u hu e.1⟩
theorem z07d (hs:Sat w l):Ret P F.a54 #[] w λvs w'=>∃ v,vs=[.pointer (some ⟨v,0,none⟩)]/\Sat w' (vw v ⟨0,[],[]⟩::l) :=
 zkp <| by
  unfold zqo
  refine zch ekI evX hs λm1 w' hs=>?_
  refine zch ekK evX hs λm2 w' hs=>?_
  refine zr hs λv w' hs=>?_
  refine ⟨rfl,v,rfl,?_⟩
  exact z56 m1 m2 (A:=⟨0,[],[]⟩) ⟨by show (0:Int)<=0/\(0:Int)<=_;omega,by simp,by simp,by simp,by simp,by simp,by simp,by simp,by simp⟩ hs
end
theorem zxo {A:ViewA} (hok:okV A) {n:Int} (h1:n<=A.next) (h2:∀ t ∈ A.op,n<=t.first) (h3:n=A.next\/∃ t ∈ A.op,n=t.first):n=z5g A:=by
 unfold z5g
 cases hop:A.op with
 | nil =>
  rcases h3 with h|⟨t,ht,-⟩
  ·exact h
  ·rw [hop] at ht;cases ht
 | cons u us =>
  dsimp only
  have hu:u ∈ A.op:=by rw [hop];exact List.mem_cons_self ..
  have h4:=h2 u hu
  have h5:=(hok.op u hu).1.first
  rcases h3 with h|⟨t,ht,rfl⟩
  ·omega
  ·have hb:=hok.byFirst
   rw [hop] at hb ht
   rcases List.mem_cons.1 ht with rfl|ht
   ·rfl
   ·have:=(List.pairwise_cons.1 hb).1 t ht;omega
def zae (o:Option TxnA):Int × Int × Int × Int × Bool × Unit:=((o.getD ⟨0,0,0,0⟩).pid,(o.getD ⟨0,0,0,0⟩).epoch,(o.getD ⟨0,0,0,0⟩).first,(o.getD ⟨0,0,0,0⟩).last,o.isSome,())
section
variable {w:World} {l r r1 r2 r3 l':List HP} {v:Nat} {A:ViewA}
theorem zjn [hf:Fo l vw v A r] (hs:Sat w l):Ret P F.a61 #[.pointer (some ⟨v,0,none⟩)] w λvs w'=>vs=[.int .i64 (z5g A)]/\Sat w' (vw v A::r) :=
 zuw _ <| by
  delta z010 AP AY Aa Ab Ac Af Aj Ak Am Ar Ay B4 Bx
  obtain ⟨m1,m2,hok,hs⟩:=z9g (hs.perm hf.perm)
  refine z03 ?_ (by simp)
  refine zi ?_
  refine zb hs ?_
  refine wp_lt ?_
  refine zi ?_
  refine zb hs ?_
  refine zkn hs λit w' hs=>?_
  refine zm (λx w'=>x=(z5g A,())/\Sat w' (vw v A::r)) ?_ (by rintro _ w' ⟨rfl,hs⟩;refine zl ?_;refine wp_lt ?_;exact ⟨rfl,rfl,hs⟩)
  refine z0c (λk x w=>∃ (n:Int) (todo:List (Int × TxnA)) (last:Option (Int × TxnA)),x=(n,())/\todo.length=k/\(∀ y ∈ todo,y ∈ opK A)/\n<=A.next/\(∀ t ∈ A.op,(t.pid,t) ∈ todo\/n<=t.first)/\(n=A.next\/∃ t ∈ A.op,n=t.first) /\
   Sat w (itP ekI evX it m1 (opK A) todo last::pt v (.cells #[.int .i64 A.next,.map (some m1),.map (some m2)] T.a16)::z1f ekK evX m2 (faK A)::r)) (opK A).length
   ⟨A.next,opK A,none,rfl,rfl,λy hy=>hy,Int.le_refl _,λt ht=>.inl (List.mem_map.2 ⟨t,ht,rfl⟩),.inl rfl,hs⟩ ?_
  clear hs
  rintro k _ w ⟨n,todo,last,rfl,hk,hsub,h1,h2,h3,hs⟩
  refine zl ?_
  refine zng hs (λk t=>(k,t.pid,t.epoch,t.first,t.last,())) (λkk t todo' w' hp hs=>?_) λh0=>?_
  ·refine z79 kk t.pid t.epoch t.first t.last ?_
   refine zrw hs (kk,t.pid,t.epoch,t.first,t.last,()) ?_
   refine z79 kk t.pid t.epoch t.first t.last ?_
   refine zt hs λc w' hs=>?_
   refine zv hs λw' hs=>?_
   refine zb hs ?_
   refine wp_lt ?_
   have hmem:(kk,t) ∈ opK A:=hsub _ (hp.mem_iff.2 (List.mem_cons_self ..))
   obtain ⟨u,hu,e⟩:=List.mem_map.1 hmem
   simp only [Prod.mk.injEq] at e
   obtain ⟨rfl,rfl⟩:=e
   refine z0z todo'.length ?_ (by rw [<- hk,hp.length_eq,List.length_cons];omega)
   refine ⟨_,todo',some (u.pid,u),rfl,rfl,λy hy=>hsub y (hp.mem_iff.2 (List.mem_cons_of_mem _ hy)),by split <;> omega,λt ht=>?_,?_,hs.sub⟩
   ·rcases h2 t ht with h|h
    ·rcases List.mem_cons.1 (hp.mem_iff.1 h) with e|h
     ·simp only [Prod.mk.injEq] at e
      right
      rw [e.2];split <;> omega
     ·exact .inl h
    ·right;split <;> omega
   ·split
    ·exact .inr ⟨u,hu,rfl⟩
    ·exact h3
  ·refine zn (zg ?_)
   subst h0
   have e:=zxo hok h1 (λt ht=>(h2 t ht).resolve_left (by simp)) h3
   rw [e]
   exact ⟨rfl,z56 m1 m2 hok hs.itDone⟩
theorem z05e (t:TxnA) (hs:Sat w l):Ret P F.a64 #[.agg (z2q t).toArray] w λvs w'=>vs=[.agg (z2q t).toArray]/\Sat w' l :=
 zuz t.pid t.epoch t.first t.last <| by
  delta z08y AP Ab Ac Ai Ak B8 Bx
  refine zr hs λa0 w' hs=>?_
  refine zt hs λa1 w' hs=>?_
  refine zb hs ?_
  refine zb hs ?_
  refine zb hs ?_
  refine zb hs ?_
  refine zv hs λw' hs=>?_
  refine zj hs ?_
  exact ⟨rfl,rfl,hs.tail.tail⟩
instance {t:TxnA}:IsR (sG [.int .i64,.int .i64,.int .i64,.int .i64]) [.agg (z2q t).toArray] (t.pid,t.epoch,t.first,t.last,()):=⟨rfl⟩
end
abbrev lkS:List Sh1:=[.agg [.int .i64,.int .i64,.int .i64,.int .i64],.one .bool]
def z5r (A:ViewA) (b:BatM):Int:=if z0b b then 3 else if b.base>=z5g A then 0 else if b.kind=1/\(faF A b.pid b.epoch).isSome=true/\b.base>=((faF A b.pid b.epoch).getD ⟨0,0,0,0⟩).first then 2 else 1
def zif (A:ViewA) (b:BatM):Int:=if (faF A b.pid b.epoch).isSome=true then 20 else if (opF A b.pid).isSome=true/\¬ (((opF A b.pid).getD ⟨0,0,0,0⟩).pid=b.pid/\((opF A b.pid).getD ⟨0,0,0,0⟩).epoch=b.epoch) then 22 else
 if b.kind=1/\(opF A b.pid).isSome=false/\A.op.length>=1024 then 5 else if b.kind=3/\(opF A b.pid).isSome=true/\A.fa.length>=4096 then 5 else 0
def z4a (A:ViewA) (b:BatM):Int:=if zy b≠0 then zy b else if b.base<A.next then 8 else if b.kind≠0 then zif A b else 0
section
variable {w:World} {l r r1 r2 r3 l':List HP} {v:Nat} {A:ViewA} {b:BatM}
theorem z04a (b:BatM) [hf:Fo l vw v A r] (hs:Sat w l):Ret P F.a56 #[.pointer (some ⟨v,0,none⟩),.agg (z00 b).toArray] w λvs w'=>vs=[.int .i64 (z5r A b)]/\Sat w' (vw v A::r) :=
 zus _ b.base b.pid b.epoch b.seq b.kind b.time b.x <| by
  delta z08t AA AC AG AP AR AS AY Aa Ab Ac Ah Ai Aj Ak Ao Ar Av Ax Ba Bb Bg Bu Bv Bw Bx
  refine zr (hs.perm hf.perm) λa0 w' hs=>?_
  refine z03 ?_ (by simp)
  have ho:=zlp A b.pid b.epoch
  refine zm (λx w'=>∃ c:Nat,x=(⟨c,0,none⟩,(faF A b.pid b.epoch).isSome,())/\Sat w' (pt c (.cells #[.int .i64 ((faF A b.pid b.epoch).getD ⟨0,0,0,0⟩).pid,.int .i64 ((faF A b.pid b.epoch).getD ⟨0,0,0,0⟩).epoch,.int .i64 ((faF A b.pid b.epoch).getD ⟨0,0,0,0⟩).first,.int .i64 ((faF A b.pid b.epoch).getD ⟨0,0,0,0⟩).last] T.a18) ::
   pt a0 (.cells #[.int .i64 b.base,.int .i64 b.pid,.int .i64 b.epoch,.int .i64 b.seq,.int .i64 b.kind,.int .i64 b.time,.slice b.x.a b.x.len b.x.cap] T.a0)::vw v A::r)) ?_ ?_
  ·obtain ⟨m1,m2,hok,hs⟩:=z9g (hs.pick [1])
   refine z02 hs λw' hs=>?_
   refine zi ?_
   refine z0s hs ?_
   refine z0s hs ?_
   refine z0s hs ?_
   refine zcg hs (faF A b.pid b.epoch) ho zae ?_
   refine z79 _ _ _ _ _ ?_
   refine zt hs (λc w' hs=>?_) (λc w' hs=>⟨⟨⟨⟨trivial,λ_=>z07 hs⟩,λ_=>z07 hs⟩,λ_=>z07 hs⟩,λ_=>z8r (ss:=lkS) hs ho zae⟩)
   refine ze ?_
   refine zv hs λw' hs=>?_
   refine wp_lt ?_
   refine ze ?_
   refine zg ⟨c,rfl,?_⟩
   have hs:Sat w' (vw v A::pt c (.cells #[.int .i64 ((faF A b.pid b.epoch).getD ⟨0,0,0,0⟩).pid,.int .i64 ((faF A b.pid b.epoch).getD ⟨0,0,0,0⟩).epoch,.int .i64 ((faF A b.pid b.epoch).getD ⟨0,0,0,0⟩).first,.int .i64 ((faF A b.pid b.epoch).getD ⟨0,0,0,0⟩).last] T.a18) ::
    pt a0 (.cells #[.int .i64 b.base,.int .i64 b.pid,.int .i64 b.epoch,.int .i64 b.seq,.int .i64 b.kind,.int .i64 b.time,.slice b.x.a b.x.len b.x.cap] T.a0)::r):=z56 m1 m2 hok hs
   exact hs.pick [1,1]
  clear hs
  rintro _ w ⟨c,rfl,hs⟩
  refine zl ?_
  refine zj hs ?_
  refine z8 (zql b hs) λ_ _ hs=>?_
  obtain ⟨rfl,hs⟩:=hs
  refine zd ?_
  refine wp_lt ?_
  unfold z5r
  refine zf (λh=>?_) λh=>?_
  ·rw [if_pos h];exact ⟨rfl,rfl,hs.tail.tail⟩
  rw [if_neg h]
  refine z02 hs λw' hs=>?_
  refine z0s hs ?_
  refine z8 (zjn (v:=v) hs) λ_ w' hs=>?_
  obtain ⟨rfl,hs⟩:=hs
  refine zd ?_ ⟨trivial,λ_=>z07 hs⟩
  refine wp_lt ?_
  refine ze ?_
  refine zf (λh2=>?_) λh2=>?_
  ·rw [if_pos h2];exact ⟨rfl,rfl,hs.sub⟩
  rw [if_neg h2]
  refine zb hs ?_
  refine zb hs ?_
  refine zb hs ?_
  refine wp_lt ?_
  refine zf (λh3=>?_) λh3=>?_
  ·rw [if_pos ⟨h3.1.1,h3.1.2,h3.2⟩];exact ⟨rfl,rfl,hs.sub⟩
  ·rw [if_neg (λh4=>h3 ⟨⟨h4.1,h4.2.1⟩,h4.2.2⟩)];exact ⟨rfl,rfl,hs.sub⟩
theorem z07c (b:BatM) [hf:Fo l vw v A r] (hs:Sat w l):Ret P F.a63 #[.pointer (some ⟨v,0,none⟩),.agg (z00 b).toArray] w λvs w'=>vs=[.int .i64 (zif A b)]/\Sat w' (vw v A::r) :=
 zuy _ b.base b.pid b.epoch b.seq b.kind b.time b.x <| by
  delta z08x AC AG AP AR AS AY Aa Ab Ac Ai Ak Ar Au Ax BC BD BE Ba Bg Bk Bu Bv Bw Bx;unfold zif
  have ho:=zlp A b.pid b.epoch
  have ho2:=zmh A b.pid
  obtain ⟨m1,m2,hok,hs⟩:=z9g (hs.perm hf.perm)
  refine zr hs λa0 w' hs=>?_
  refine zb hs ?_
  refine zb hs ?_
  refine zt hs λa3 w' hs=>?_
  refine zv hs λw' hs=>?_
  refine zm (λx w'=>x=((faF A b.pid b.epoch).isSome,())/\Sat w' (pt a3 (.cells #[.int .i64 b.pid,.int .i64 b.epoch] T.a17)::pt a0 (.cells #[.int .i64 b.base,.int .i64 b.pid,.int .i64 b.epoch,.int .i64 b.seq,.int .i64 b.kind,.int .i64 b.time,.slice b.x.a b.x.len b.x.cap] T.a0) ::
   pt v (.cells #[.int .i64 A.next,.map (some m1),.map (some m2)] T.a16)::z1f ekI evX m1 (opK A)::z1f ekK evX m2 (faK A)::r)) ?_ ?_
  ·refine z02 hs λw' hs=>?_
   refine zi ?_
   refine z0s hs ?_
   refine zht hs ?_
   refine zcg hs (faF A b.pid b.epoch) ho zae ?_
   refine z79 _ _ _ _ _ ?_
   refine zt hs (λc w' hs=>?_) (λc w' hs=>⟨⟨⟨trivial,λ_=>z07 hs⟩,λ_=>z0d hs⟩,λ_=>z8r (ss:=lkS) hs ho zae⟩)
   refine ze ?_
   refine zv hs λw' hs=>?_
   refine wp_lt ?_
   refine ze ?_
   exact zg ⟨rfl,hs.sub⟩
  clear hs
  rintro _ w ⟨rfl,hs⟩
  refine zl ?_
  refine zm (λx w'=>∃ c:Nat,x=(⟨c,0,none⟩,(opF A b.pid).isSome,())/\Sat w' (pt c (.cells #[.int .i64 ((opF A b.pid).getD ⟨0,0,0,0⟩).pid,.int .i64 ((opF A b.pid).getD ⟨0,0,0,0⟩).epoch,.int .i64 ((opF A b.pid).getD ⟨0,0,0,0⟩).first,.int .i64 ((opF A b.pid).getD ⟨0,0,0,0⟩).last] T.a18) ::
   pt a3 (.cells #[.int .i64 b.pid,.int .i64 b.epoch] T.a17)::pt a0 (.cells #[.int .i64 b.base,.int .i64 b.pid,.int .i64 b.epoch,.int .i64 b.seq,.int .i64 b.kind,.int .i64 b.time,.slice b.x.a b.x.len b.x.cap] T.a0) ::
   pt v (.cells #[.int .i64 A.next,.map (some m1),.map (some m2)] T.a16)::z1f ekI evX m1 (opK A)::z1f ekK evX m2 (faK A)::r)) ?_ ?_
  ·refine z02 hs λw' hs=>?_
   refine zi ?_
   refine z0s hs ?_
   refine z0s hs ?_
   refine zcg hs (opF A b.pid) ho2 zae ?_
   refine z79 _ _ _ _ _ ?_
   refine zt hs (λc w' hs=>?_) (λc w' hs=>⟨⟨⟨trivial,λ_=>z07 hs⟩,λ_=>z07 hs⟩,λ_=>z8r (ss:=lkS) hs ho2 zae⟩)
   refine ze ?_
   refine zv hs λw' hs=>?_
   refine wp_lt ?_
   refine ze ?_
   exact zg ⟨c,rfl,hs.sub⟩
  clear hs
  rintro _ w ⟨c,rfl,hs⟩
  refine zl ?_
  have hfin:∀ {w'},Sat w' (pt c (.cells #[.int .i64 ((opF A b.pid).getD ⟨0,0,0,0⟩).pid,.int .i64 ((opF A b.pid).getD ⟨0,0,0,0⟩).epoch,.int .i64 ((opF A b.pid).getD ⟨0,0,0,0⟩).first,.int .i64 ((opF A b.pid).getD ⟨0,0,0,0⟩).last] T.a18) ::
   pt a3 (.cells #[.int .i64 b.pid,.int .i64 b.epoch] T.a17)::pt a0 (.cells #[.int .i64 b.base,.int .i64 b.pid,.int .i64 b.epoch,.int .i64 b.seq,.int .i64 b.kind,.int .i64 b.time,.slice b.x.a b.x.len b.x.cap] T.a0) ::
   pt v (.cells #[.int .i64 A.next,.map (some m1),.map (some m2)] T.a16)::z1f ekI evX m1 (opK A)::z1f ekK evX m2 (faK A)::r)->Sat w' (vw v A::r):=λhs=>z56 m1 m2 hok hs
  refine wp_lt ?_
  refine zf (λh1=>?_) λh1=>?_
  ·rw [if_pos h1];exact ⟨rfl,rfl,hfin hs⟩
  rw [if_neg h1]
  refine znf hs (((opF A b.pid).getD ⟨0,0,0,0⟩).pid,((opF A b.pid).getD ⟨0,0,0,0⟩).epoch,()) ?_
  refine zj hs ?_
  refine wp_lt ?_
  refine zf (λh2=>?_) λh2=>?_
  ·rw [if_pos]
   ·exact ⟨rfl,rfl,hfin hs⟩
   ·exact ⟨h2.1,λh=>h2.2 h⟩
  rw [if_neg (λh=>h2 ⟨h.1,λh'=>h.2 h'⟩)]
  refine zb hs ?_
  refine z0n ?_
  refine zb hs ?_
  refine zej hs ?_
  refine wp_lt ?_
  have e1:(opK A).length=A.op.length:=by simp [opK]
  have e2:(faK A).length=A.fa.length:=by simp [faK]
  rw [e1]
  refine zf (λh3=>?_) λh3=>?_
  ·rw [if_pos]
   ·exact ⟨rfl,rfl,hfin hs⟩
   ·exact ⟨h3.1.1,by simpa using h3.1.2,by omega⟩
  rw [if_neg (λh=>h3 ⟨⟨h.1,by simp [h.2.1]⟩,by omega⟩)]
  refine zb hs ?_
  refine z0n ?_
  refine zb hs ?_
  refine zej hs ?_
  refine wp_lt ?_
  rw [e2]
  refine zf (λh4=>?_) λh4=>?_
  ·rw [if_pos]
   ·exact ⟨rfl,rfl,hfin hs⟩
   ·exact ⟨h4.1.1,h4.1.2,by omega⟩
  ·rw [if_neg (λh=>h4 ⟨⟨h.1,h.2.1⟩,by omega⟩)]
   exact ⟨rfl,rfl,hfin hs⟩
theorem zwp (b:BatM) [hf:Fo l vw v A r] [hb:FocR r b.x 4 (b.rs.flatMap zu)] (hs:Sat w l):Ret P F.a57 #[.pointer (some ⟨v,0,none⟩),.agg (z00 b).toArray] w λvs w'=>vs=[.int .i64 (z4a A b)]/\Sat w' (vw v A::r) :=
 zut _ b.base b.pid b.epoch b.seq b.kind b.time b.x <| by
  delta z08u AA AC AG AP AS AY Aa Af Ah Ai Aj Ak Ax Ba Bb;unfold z4a
  refine zr (hs.perm hf.perm) λa0 w' hs=>?_
  refine z03 ?_ (by simp)
  refine zj hs ?_
  refine z8 (z9f b hs) λ_ _ hs=>?_
  obtain ⟨rfl,hs⟩:=hs
  refine zd ?_
  refine wp_lt ?_
  refine zf (λh=>?_) λh=>?_
  ·rw [if_pos h]
   refine wp_lt ?_
   exact ⟨rfl,rfl,hs.tail⟩
  rw [if_neg h]
  refine z02 hs λw' hs=>?_
  refine zb hs ?_
  obtain ⟨m1,m2,hok,hs⟩:=z9g (hs.pick [1])
  refine zi ?_
  refine zb hs ?_
  refine wp_lt ?_
  refine ze ?_
  have hs:Sat w' (vw v A::pt a0 (.cells #[.int .i64 b.base,.int .i64 b.pid,.int .i64 b.epoch,.int .i64 b.seq,.int .i64 b.kind,.int .i64 b.time,.slice b.x.a b.x.len b.x.cap] T.a0)::r):=z56 m1 m2 hok hs
  refine zf (λh2=>?_) λh2=>?_
  ·rw [if_pos h2];exact ⟨rfl,rfl,hs.sub⟩
  rw [if_neg h2]
  refine zb hs ?_
  refine wp_lt ?_
  refine zf (λh3=>?_) λh3=>?_
  ·rw [if_pos h3]
   refine zj hs ?_
   refine z8 (z07c (v:=v) b hs) λ_ _ hs=>?_
   obtain ⟨rfl,hs⟩:=hs
   refine zd ?_
   refine wp_lt ?_
   exact ⟨rfl,rfl,hs.sub⟩
  ·rw [if_neg h3];exact ⟨rfl,rfl,hs.sub⟩
end
def z4c (p:Int) (l:List TxnA):List TxnA:=l.filter λt=>!decide (t.pid=p)
def z3l (A:ViewA) (b:BatM):ViewA :=
 if b.kind=1/\(opF A b.pid).isSome=false then { A with next:=b.base+zp b,op:=A.op++[⟨b.pid,b.epoch,b.base,-1⟩] }
 else if z0b b=true/\(opF A b.pid).isSome=true then
  if b.kind=3 then ⟨b.base+zp b,z4c b.pid A.op,A.fa++[{ (opF A b.pid).getD ⟨0,0,0,0⟩ with last:=b.base }]⟩ else ⟨b.base+zp b,z4c b.pid A.op,A.fa⟩
 else { A with next:=b.base+zp b }
def z81 (A:ViewA) (b:BatM):Int × ViewA:=if z4a A b≠0 then (z4a A b,A) else (0,z3l A b)
theorem z8o {A:ViewA} {b:BatM} (h:z4a A b=0):zy b=0/\A.next<=b.base/\(b.kind≠0->zif A b=0):=by
 unfold z4a at h
 by_cases h1:zy b≠0
 ·rw [if_pos h1] at h;exact absurd h h1
 rw [if_neg h1] at h
 by_cases h2:b.base<A.next
 ·rw [if_pos h2] at h;cases h
 rw [if_neg h2] at h
 refine ⟨Decidable.not_not.1 h1,by omega,λh3=>?_⟩
 rwa [if_pos h3] at h
theorem zg7 {A:ViewA} {b:BatM} (h:zif A b=0):faF A b.pid b.epoch=none/\(∀ t,opF A b.pid=some t->t.epoch=b.epoch)/\(b.kind=1->opF A b.pid=none->A.op.length<1024)/\(b.kind=3->∀ t,opF A b.pid=some t->A.fa.length<4096):=by
 unfold zif at h
 by_cases h1:(faF A b.pid b.epoch).isSome=true
 ·rw [if_pos h1] at h;cases h
 rw [if_neg h1] at h
 have hn:faF A b.pid b.epoch=none:=by
  cases hc:faF A b.pid b.epoch with
  | none=>rfl
  | some t=>rw [hc] at h1;exact absurd rfl h1
 split at h
 ·cases h
 rename_i h2
 split at h
 ·cases h
 rename_i h3
 split at h
 ·cases h
 rename_i h4
 refine ⟨hn,λt ht=>?_,λhk ho=>?_,λhk t ht=>?_⟩
 ·have h5:((opF A b.pid).getD ⟨0,0,0,0⟩).pid=b.pid/\((opF A b.pid).getD ⟨0,0,0,0⟩).epoch=b.epoch:=Decidable.not_not.1 λh6=>h2 ⟨by rw [ht];rfl,h6⟩
  rw [ht] at h5
  exact h5.2
 ·apply Nat.lt_of_not_le
  intro h5
  exact h3 ⟨hk,by rw [ho];rfl,h5⟩
 ·apply Nat.lt_of_not_le
  intro h5
  exact h4 ⟨hk,by rw [ht];rfl,h5⟩
theorem z8c {t:TxnA} {n m:Int} (h:okT t n) (hnm:n<=m):okT t m:=⟨h.pid,h.epoch,h.first.1,Int.lt_of_lt_of_le h.first.2 hnm⟩
theorem zgt {t:TxnA}:∀ {l:List TxnA},(l.map (·.pid)).Nodup->t ∈ l->l.Perm (t::z4c t.pid l)
 | u::l,hnd,ht=>by
  rw [List.map_cons,List.nodup_cons] at hnd
  have hrest:∀ {p:Int},p ∉ l.map (·.pid)->z4c p l=l:=λ{p} hp=>List.filter_eq_self.2 λx hx=>by
   have:x.pid≠p:=λe=>hp (List.mem_map.2 ⟨x,hx,e⟩)
   simpa using this
  rcases List.mem_cons.1 ht with rfl|ht
  ·have:z4c t.pid (t::l)=l:=by
    show (t::l).filter _=l
    rw [List.filter_cons_of_neg (by simp)]
    exact hrest hnd.1
   rw [this]
  ·have hne:u.pid≠t.pid:=λe=>hnd.1 (List.mem_map.2 ⟨t,ht,e.symm⟩)
   have:z4c t.pid (u::l)=u::z4c t.pid l:=by
    show (u::l).filter _=_
    rw [List.filter_cons_of_pos (by simpa using hne)];rfl
   rw [this]
   exact ((zgt hnd.2 ht).cons u).trans (.swap _ _ _)
theorem zzt {A:ViewA} {b:BatM} (hok:okV A) (h:z4a A b=0):okV (z3l A b):=by
 obtain ⟨hv,hbase,hmay⟩:=z8o h
 obtain ⟨s1,s2,hnum,hfit,s3⟩:=z15 b hv
 obtain ⟨hk,hb,hp,he,hse,ht⟩:=hnum
 have hnx:=hok.next
 unfold z3l
 split
 ·rename_i h1
  obtain ⟨hk1,ho⟩:=h1
  obtain ⟨m1,m2,m3,m4⟩:=zg7 (hmay (by omega))
  have ho:opF A b.pid=none:=by
   cases hc:opF A b.pid with
   | none=>rfl
   | some t=>rw [hc] at ho;cases ho
  have hpid:1<=b.pid:=by
   have:=hfit.1
   apply Decidable.byContradiction
   intro h5
   exact this ⟨by omega,.inl (by omega)⟩
  have hlt:=m3 hk1 ho
  refine ⟨by show 0<=b.base+zp b/\b.base+zp b<=_;omega,by show (A.op++[_]).length<=1024/\_;rw [List.length_append];exact ⟨by simp;omega,hok.many.2⟩,λt ht=>?_,λt ht=>?_,?_,hok.byLast,?_,hok.keys,λt ht u hu=>?_⟩
  ·rcases List.mem_append.1 ht with ht|ht
   ·exact ⟨z8c (hok.op t ht).1 (by show A.next<=b.base+zp b;omega),(hok.op t ht).2⟩
   ·rw [List.mem_singleton.1 ht]
    exact ⟨⟨⟨hpid,hp.2⟩,he,hb.1,by show b.base<b.base+zp b;omega⟩,rfl⟩
  ·obtain ⟨h1,h2,h3⟩:=hok.fa t ht
   exact ⟨z8c h1 (by show A.next<=b.base+zp b;omega),h2,by show t.last<b.base+zp b;omega⟩
  ·show (A.op++[_]).Pairwise _
   rw [List.pairwise_append]
   refine ⟨hok.byFirst,by simp,λt ht u hu=>?_⟩
   rw [List.mem_singleton.1 hu]
   have:=(hok.op t ht).1.first
   show t.first<b.base
   omega
  ·show ((A.op++[_]).map _).Nodup
   rw [List.map_append,List.nodup_append]
   refine ⟨hok.pids,by simp,λp hp q hq=>?_⟩
   obtain ⟨t,ht,rfl⟩:=List.mem_map.1 hp
   rw [List.map_singleton,List.mem_singleton] at hq
   rw [hq]
   exact zmi ho t ht
  ·rcases List.mem_append.1 ht with ht|ht
   ·exact hok.apart t ht u hu
   ·rw [List.mem_singleton.1 ht]
    intro h5
    exact zbr m1 u hu ⟨h5.1.symm,h5.2.symm⟩
 ·split
  ·rename_i h1 h2
   obtain ⟨hm,ho⟩:=h2
   obtain ⟨t,ho⟩:∃ t,opF A b.pid=some t:=Option.isSome_iff_exists.1 ho
   have hk0:b.kind≠0:=by
    unfold z0b at hm
    simp only [Bool.or_eq_true,decide_eq_true_eq] at hm
    omega
   obtain ⟨m1,m2,m3,m4⟩:=zg7 (hmay hk0)
   obtain ⟨htm,htp⟩:=zc4 ho
   have hte:=m2 t ho
   have hdrop:∀ u ∈ z4c b.pid A.op,u ∈ A.op/\u.pid≠b.pid:=λu hu=>by
    obtain ⟨h5,h6⟩:=List.mem_filter.1 hu
    exact ⟨h5,by simpa using h6⟩
   have hsub:(z4c b.pid A.op).Sublist A.op:=List.filter_sublist
   have hop:∀ u ∈ z4c b.pid A.op,okT u (b.base+zp b)/\u.last = -1:=λu hu=>⟨z8c (hok.op u (hdrop u hu).1).1 (by omega),(hok.op u (hdrop u hu).1).2⟩
   have hfa:∀ u ∈ A.fa,okT u (b.base+zp b)/\u.first<u.last/\u.last<b.base+zp b:=λu hu=>by
    obtain ⟨h5,h6,h7⟩:=hok.fa u hu
    exact ⟨z8c h5 (by omega),h6,by omega⟩
   have hlen:(z4c b.pid A.op).length<=1024:=Nat.le_trans hsub.length_le hok.many.1
   split
   ·rename_i hk3
    rw [ho]
    have htf:=(hok.op t htm).1
    refine ⟨by show 0<=b.base+zp b/\b.base+zp b<=_;omega,⟨hlen,by show (A.fa++[_]).length<=_;rw [List.length_append];have:=m4 hk3 t ho;simp;omega⟩,hop,λu hu=>?_,hok.byFirst.sublist hsub,?_,hok.pids.sublist (hsub.map _),?_,λu hu x hx=>?_⟩
    ·rcases List.mem_append.1 hu with hu|hu
     ·exact hfa u hu
     ·rw [List.mem_singleton.1 hu]
      have:=htf.first
      exact ⟨⟨htf.pid,htf.epoch,this.1,by show t.first<b.base+zp b;omega⟩,by show t.first<b.base;omega,by show b.base<b.base+zp b;omega⟩
    ·show (A.fa++[_]).Pairwise _
     rw [List.pairwise_append]
     refine ⟨hok.byLast,by simp,λu hu x hx=>?_⟩
     rw [List.mem_singleton.1 hx]
     have:=(hok.fa u hu).2.2
     show u.last<b.base
     omega
    ·show ((A.fa++[_]).map _).Nodup
     rw [List.map_append,List.nodup_append]
     refine ⟨hok.keys,by simp,λp hp q hq=>?_⟩
     obtain ⟨u,hu,rfl⟩:=List.mem_map.1 hp
     rw [List.map_singleton,List.mem_singleton] at hq
     rw [hq]
     intro h5
     simp only [Prod.mk.injEq] at h5
     exact zbr m1 u hu ⟨h5.1.trans htp,h5.2.trans hte⟩
    ·rcases List.mem_append.1 hx with hx|hx
     ·exact hok.apart u (hdrop u hu).1 x hx
     ·rw [List.mem_singleton.1 hx]
      intro h5
      exact (hdrop u hu).2 (h5.1.trans htp)
   ·exact ⟨by show 0<=b.base+zp b/\b.base+zp b<=_;omega,⟨hlen,hok.many.2⟩,hop,hfa,hok.byFirst.sublist hsub,hok.byLast,hok.pids.sublist (hsub.map _),hok.keys,λu hu x hx=>hok.apart u (hdrop u hu).1 x hx⟩
  ·refine ⟨by show 0<=b.base+zp b/\b.base+zp b<=_;omega,hok.many,λt ht=>⟨z8c (hok.op t ht).1 (by show A.next<=b.base+zp b;omega),(hok.op t ht).2⟩,λt ht=>?_,hok.byFirst,hok.byLast,hok.pids,hok.keys,hok.apart⟩
   obtain ⟨h1,h2,h3⟩:=hok.fa t ht
   exact ⟨z8c h1 (by show A.next<=b.base+zp b;omega),h2,by show t.last<b.base+zp b;omega⟩
section
variable {w:World} {l r r1 r2 r3 l':List HP} {v:Nat} {A:ViewA} {b:BatM}
theorem z04b (b:BatM) [hf:Fo l vw v A r] [hb:FocR r b.x 4 (b.rs.flatMap zu)] (hs:Sat w l):Ret P F.a62 #[.pointer (some ⟨v,0,none⟩),.agg (z00 b).toArray] w λvs w'=>vs=[.int .i64 (z81 A b).1]/\Sat w' (vw v (z81 A b).2::r) :=
 zux _ b.base b.pid b.epoch b.seq b.kind b.time b.x <| by
  delta z08w AA AC AG AH AP AR AY Aa Ab Ac Af Ah Ai Aj Ak Al Ar Av Ax B4 B5 B7 B8 Ba Bb Bf Bg Bu Bv Bw Bx;unfold z81
  refine zr (hs.perm hf.perm) λa0 w' hs=>?_
  refine zj hs ?_
  refine z8 (zwp (v:=v) b hs) λ_ _ hs=>?_
  obtain ⟨rfl,hs⟩:=hs
  refine zd ?_
  refine wp_lt ?_
  refine zf (λh=>?_) λh=>?_
  ·rw [if_pos h]
   refine wp_lt ?_
   exact ⟨rfl,rfl,hs.sub⟩
  rw [if_neg h]
  have hc:z4a A b=0:=Decidable.not_not.1 h
  obtain ⟨hv,hbase,hmay⟩:=z8o hc
  refine zj hs ?_
  refine z8 (z9d b hs) λ_ _ hs=>?_
  obtain ⟨rfl,hs⟩:=hs
  refine zd ?_
  have hnx:z1s b=b.base+zp b:=by unfold z1s;rw [if_neg (by rw [hv];simp)]
  rw [hnx]
  obtain ⟨m1,m2,hok,hs⟩:=z9g hs
  have hok':=zzt hok hc
  have ho:=zmh A b.pid
  refine zi ?_
  refine z08 hs λw' hs=>?_
  refine zm (λx w'=>∃ c:Nat,x=(⟨c,0,none⟩,(opF A b.pid).isSome,())/\Sat w' (pt c (.cells #[.int .i64 ((opF A b.pid).getD ⟨0,0,0,0⟩).pid,.int .i64 ((opF A b.pid).getD ⟨0,0,0,0⟩).epoch,.int .i64 ((opF A b.pid).getD ⟨0,0,0,0⟩).first,.int .i64 ((opF A b.pid).getD ⟨0,0,0,0⟩).last] T.a18) ::
   pt a0 (.cells #[.int .i64 b.base,.int .i64 b.pid,.int .i64 b.epoch,.int .i64 b.seq,.int .i64 b.kind,.int .i64 b.time,.slice b.x.a b.x.len b.x.cap] T.a0) ::
   pt v (.cells #[.int .i64 (b.base+zp b),.map (some m1),.map (some m2)] T.a16)::z1f ekI evX m1 (opK A)::z1f ekK evX m2 (faK A)::r)) ?_ ?_
  ·refine z02 hs λw' hs=>?_
   refine zi ?_
   refine z0s hs ?_
   refine z0s hs ?_
   refine zcg hs (opF A b.pid) ho zae ?_
   refine z79 _ _ _ _ _ ?_
   refine zt hs (λc w' hs=>?_) (λc w' hs=>⟨⟨⟨trivial,λ_=>z07 hs⟩,λ_=>z07 hs⟩,λ_=>z8r (ss:=lkS) hs ho zae⟩)
   refine ze ?_
   refine zv hs λw' hs=>?_
   refine wp_lt ?_
   refine ze ?_
   exact zg ⟨c,rfl,hs.sub⟩
  clear hs
  rintro _ w ⟨c,rfl,hs⟩
  refine zl ?_
  refine zb hs ?_
  refine wp_lt ?_
  refine zm (λ_ w'=>Sat w' (vw v (z3l A b)::r)) ?_ (by rintro _ w' hs;refine zl ?_;exact ⟨rfl,rfl,hs⟩)
  refine zf (λh1=>?_) λh1=>?_
  ·have h1:b.kind=1/\(opF A b.pid).isSome=false:=⟨h1.1,by simpa using h1.2⟩
   have htk:z3l A b={ A with next:=b.base+zp b,op:=A.op++[⟨b.pid,b.epoch,b.base,-1⟩] }:=by unfold z3l;rw [if_pos h1]
   rw [htk] at hok' ⊢
   refine z02 hs λw' hs=>?_
   refine zi ?_
   refine zb hs ?_
   refine zb hs ?_
   refine zb hs ?_
   refine zb hs ?_
   refine zb hs ?_
   have hno:∀ u,(b.pid,u) ∉ opK A:=by
    rcases ho with ⟨t,ht,-⟩|⟨-,hno⟩
    ·rw [ht] at h1;cases h1.2
    ·exact hno
   refine zbk hs (opK A) (.inr ⟨hno,rfl⟩) (⟨b.pid,b.epoch,b.base,-1⟩:TxnA) λw' hs=>?_
   refine ze ?_
   refine zg ?_
   exact z56 m1 m2 (A:={ A with next:=b.base+zp b,op:=A.op++[⟨b.pid,b.epoch,b.base,-1⟩] }) hok' hs (by
    show List.Perm _ ((A.op++[_]).map _)
    rw [List.map_append]
    exact List.perm_append_comm (l₁:=[(b.pid,(⟨b.pid,b.epoch,b.base,-1⟩:TxnA))]))
  have h1:¬ (b.kind=1/\(opF A b.pid).isSome=false):=λh=>h1 ⟨h.1,by simpa using h.2⟩
  refine zj hs ?_
  refine z8 (zql b hs) λ_ _ hs=>?_
  obtain ⟨rfl,hs⟩:=hs
  refine zd ?_
  refine wp_lt ?_
  refine zm (λ_ w'=>Sat w' (vw v (z3l A b)::r)) ?_ (by rintro _ w' hs;refine zl ?_;exact zg hs)
  refine zf (λh2=>?_) λh2=>?_
  rotate_left
  ·have htk:z3l A b={ A with next:=b.base+zp b }:=by unfold z3l;rw [if_neg h1,if_neg (λh=>h2 h)]
   rw [htk] at hok' ⊢
   refine zg ?_
   exact z56 m1 m2 (A:={ A with next:=b.base+zp b }) hok' hs
  have h2:z0b b=true/\(opF A b.pid).isSome=true:=h2
  obtain ⟨t,hot⟩:∃ t,opF A b.pid=some t:=Option.isSome_iff_exists.1 h2.2
  obtain ⟨htm,htp⟩:=zc4 hot
  have hdel:(opK A).Perm ((b.pid,t)::(z4c b.pid A.op).map λt=>(t.pid,t)):=by
   have:=(zgt hok.pids htm).map λt:TxnA=>(t.pid,t)
   rw [List.map_cons,htp] at this
   exact this
  rw [hot] at hs
  have hs:Sat _ (pt c (.cells #[.int .i64 t.pid,.int .i64 t.epoch,.int .i64 t.first,.int .i64 t.last] T.a18)::_):=hs
  refine z02 hs λw' hs=>?_
  refine zi ?_
  refine zb hs ?_
  refine zb hs ?_
  refine zrv hs ((z4c b.pid A.op).map λt=>(t.pid,t)) (.inl ⟨t,hdel⟩) λw' hs=>?_
  refine ze ?_
  refine zb hs ?_
  refine zm (λ_ w'=>Sat w' (vw v (z3l A b)::r)) ?_ (by rintro _ w' hs;refine zl ?_;exact zg hs)
  refine zf (λh3=>?_) λh3=>?_
  ·have htk:z3l A b=⟨b.base+zp b,z4c b.pid A.op,A.fa++[(⟨t.pid,t.epoch,t.first,b.base⟩:TxnA)]⟩:=by unfold z3l;rw [if_neg h1,if_pos h2,if_pos h3,hot];rfl
   rw [htk] at hok' ⊢
   obtain ⟨n1,n2,-,-⟩:=zg7 (hmay (by omega))
   have hte:=n2 t hot
   refine zb hs ?_
   refine z08 hs λw' hs=>?_
   refine z02 hs λw' hs=>?_
   refine zi ?_
   refine zb hs ?_
   refine znf hs (t.pid,t.epoch,()) ?_
   refine zj hs ?_
   have hno:∀ u,((t.pid,t.epoch),u) ∉ faK A:=λu hu=>by
    obtain ⟨y,hy,e⟩:=List.mem_map.1 hu
    simp only [Prod.mk.injEq] at e
    exact zbr n1 y hy ⟨e.1.1.trans htp,e.1.2.trans hte⟩
   refine zbk hs (faK A) (.inr ⟨hno,rfl⟩) (⟨t.pid,t.epoch,t.first,b.base⟩:TxnA) λw' hs=>?_
   refine ze ?_
   refine zg ?_
   have hp2:(((t.pid,t.epoch),(⟨t.pid,t.epoch,t.first,b.base⟩:TxnA))::faK A).Perm (faK ⟨b.base+zp b,z4c b.pid A.op,A.fa++[(⟨t.pid,t.epoch,t.first,b.base⟩:TxnA)]⟩):=by
    show List.Perm _ ((A.fa++[_]).map _)
    rw [List.map_append]
    exact List.perm_append_comm (l₁:=[((t.pid,t.epoch),(⟨t.pid,t.epoch,t.first,b.base⟩:TxnA))])
   have hs:=hs.mapPerm hp2
   exact z56 m1 m2 (A:=⟨b.base+zp b,z4c b.pid A.op,A.fa++[(⟨t.pid,t.epoch,t.first,b.base⟩:TxnA)]⟩) hok' hs
  ·have htk:z3l A b=⟨b.base+zp b,z4c b.pid A.op,A.fa⟩:=by unfold z3l;rw [if_neg h1,if_pos h2,if_neg h3]
   rw [htk] at hok' ⊢
   refine zg ?_
   exact z56 m1 m2 (A:=⟨b.base+zp b,z4c b.pid A.op,A.fa⟩) hok' hs
end
theorem Ret.mono {P:Program} {f:FuncId} {args:Array Value} {w:World} {R R':List Value->World->Prop} (h:Ret P f args w R) (hi:∀ vs w',R vs w'->R' vs w'):Ret P f args w R' :=
 Calls.mono h λe w' ⟨vs,he,hv⟩=>⟨vs,he,hi _ _ hv⟩
def stR (R:RdM):Lf:=if R.e=0 then some (z52 R) else none
theorem z7z {R:RdM} (h:R.e=0):stR R=some (z52 R):=if_pos h
theorem z72 {R:RdM} (h:R.e≠0):stR R=none:=if_neg h
theorem z00m {R:RdM}:(stR R).isSome=decide (R.e=0):=by
 unfold stR;split <;> simp [*]
theorem zeg {R:RdM}:(R.uint).1=(z0o (stR R)).1/\stR R.uint.2=(z0o (stR R)).2:=by
 by_cases h:R.e=0
 ·rw [z7z h]
  cases hn:z3y 0 (R.bs.drop R.at_) with
  | none =>
   have e1:R.uint=(0,⟨R.bs,R.at_,6⟩):=by unfold RdM.uint;rw [if_neg (by rw [h];simp)];simp only [hn]
   have e2:z0o (some (z52 R))=(0,none):=by unfold z0o z52;simp only [hn]
   rw [e1,e2]
   exact ⟨rfl,if_neg (show ¬ (6:Int)=0 by decide)⟩
  | some q =>
   have e1:R.uint=(q.1,⟨R.bs,R.at_+q.2,R.e⟩):=by unfold RdM.uint;rw [if_neg (by rw [h];simp)];simp only [hn]
   have e2:z0o (some (z52 R))=(q.1,some ((z52 R).drop q.2)):=by unfold z0o z52;simp only [hn]
   rw [e1,e2]
   refine ⟨rfl,?_⟩
   show (if R.e=0 then some (R.bs.drop (R.at_+q.2)) else none)=some ((R.bs.drop R.at_).drop q.2)
   rw [if_pos h,List.drop_drop]
 ·rw [znd h]
  show 0=(z0o (stR R)).1/\stR R=(z0o (stR R)).2
  rw [z72 h]
  exact ⟨rfl,rfl⟩
theorem zke {R:RdM} {lo hi:Int}:(R.within lo hi).1=(z1q lo hi (stR R)).1/\stR (R.within lo hi).2=(z1q lo hi (stR R)).2:=by
 obtain ⟨h1,h2⟩:=zeg (R:=R)
 unfold RdM.within z1q
 rw [<- h1,<- h2]
 by_cases h:R.uint.2.e=0
 ·rw [if_neg (by rw [h];simp),z7z h]
  simp only
  by_cases hc:zag R.uint.1<lo\/zag R.uint.1>hi
  ·rw [if_pos hc,if_pos hc]
   exact ⟨rfl,if_neg (show ¬ (8:Int)=0 by decide)⟩
  ·rw [if_neg hc,if_neg hc]
   exact ⟨rfl,z7z h⟩
 ·rw [if_pos h]
  show 0=_/\stR R.uint.2=_
  rw [z72 h]
  exact ⟨rfl,rfl⟩
def rdS (T':TypeId) (p:Nat) (s:Lf):HP:=HP.ex λR:RdM=>HP.and (stR R=s) (rdP T' p R)
section
variable {w:World} {l r:List HP} {p:Nat} {s:Lf} {T':TypeId}
theorem z7d (hs:Sat w (rdS T' p s::l)):∃ R:RdM,stR R=s/\Sat w (rdP T' p R::l):=by
 obtain ⟨R,hs⟩:=hs.ex
 obtain ⟨h,hs⟩:=hs.and
 exact ⟨R,h,hs⟩
theorem z2g {R:RdM} (h:stR R=s) (hs:Sat w (rdP T' p R::l)):Sat w (rdS T' p s::l):=.ex_mk R (.and_mk h hs)
theorem zx2 (x:Sl) (bs:List UInt8) [hx:FocR l x 1 (bs.flatMap zk)] (hn:bs.length<=1000000000) (hs:Sat w l) :
  Ret P F.a171 #[x.v] w λvs w'=>∃ p:Nat,vs=[.pointer (some ⟨p,0,none⟩)]/\Sat w' (rdS T.a54 p (some bs)::l) :=
 (znr x bs hn hs).mono λ_ _ h=>by
  obtain ⟨p,rfl,hs⟩:=h
  exact ⟨p,rfl,z2g (R:=⟨bs,0,0⟩) rfl hs⟩
theorem zir [hf:Fo l (rdS T.a54) p s r] (hs:Sat w l):Ret P F.a178 #[.pointer (some ⟨p,0,none⟩)] w λvs w'=>vs=[.int .u64 ((z0o s).1:Int)]/\Sat w' (rdS T.a54 p (z0o s).2::r):=by
 obtain ⟨R,rfl,hs⟩:=z7d (hs.perm hf.perm)
 refine (zrf (p:=p) hs).mono λ_ _ h=>?_
 obtain ⟨rfl,hs⟩:=h
 exact ⟨by rw [zeg.1],z2g zeg.2 hs⟩
theorem zxx (lo hi:Int) [hf:Fo l (rdS T.a54) p s r] (hs:Sat w l):Ret P F.a179 #[.pointer (some ⟨p,0,none⟩),.int .i64 lo,.int .i64 hi] w λvs w'=>vs=[.int .i64 (z1q lo hi s).1]/\Sat w' (rdS T.a54 p (z1q lo hi s).2::r):=by
 obtain ⟨R,rfl,hs⟩:=z7d (hs.perm hf.perm)
 refine (zxi (p:=p) lo hi hs).mono λ_ _ h=>?_
 obtain ⟨rfl,hs⟩:=h
 exact ⟨by rw [zke.1],z2g zke.2 hs⟩
theorem zwf [hf:Fo l (rdS T.a54) p s r] (hs:Sat w l):Ret P F.a174 #[.pointer (some ⟨p,0,none⟩)] w λvs w'=>∃ e:Int,vs=[.int .i64 e]/\(e=0↔s.isSome=true)/\Sat w' (rdS T.a54 p s::r):=by
 obtain ⟨R,rfl,hs⟩:=z7d (hs.perm hf.perm)
 refine (z071 (p:=p) hs).mono λ_ _ h=>?_
 obtain ⟨rfl,hs⟩:=h
 exact ⟨R.e,rfl,by rw [z00m,decide_eq_true_iff],z2g rfl hs⟩
theorem zwe [hf:Fo l (rdS T.a54) p s r] (hs:Sat w l):Ret P F.a173 #[.pointer (some ⟨p,0,none⟩)] w λvs w'=>∃ e:Int,vs=[.int .i64 e]/\(e=0↔s=some [])/\Sat w' r:=by
 obtain ⟨R,rfl,hs⟩:=z7d (hs.perm hf.perm)
 have hb:=(z6n hs).1
 refine (z070 (p:=p) hs).mono λ_ _ h=>?_
 obtain ⟨rfl,hs⟩:=h
 refine ⟨_,rfl,?_,hs.tail⟩
 rw [zs8 hb]
 unfold stR
 by_cases h:R.e=0 <;> simp [h]
end
section
variable {w:World} {l r:List HP} {p:Nat} {s:Lf}
theorem z05f (b:Bool) (hs:Sat w l):Ret P F.a168 #[.bool b] w λvs w'=>∃ z:Sl,vs=[z.v]/\Sat w' (slc T.a52 1 z ([z8k b].flatMap zk)::l) :=
 zpk b <| by
  delta z033 AO Aj Ak
  refine zf (λh=>?_) λh=>?_
  ·subst h
   refine za3 hs (enc:=zk) (1:UInt8) λz w' hs=>?_
   exact ⟨rfl,z,rfl,hs⟩
  ·have h:b=false:=by simpa using h
   subst h
   refine za3 hs (enc:=zk) (0:UInt8) λz w' hs=>?_
   exact ⟨rfl,z,rfl,hs⟩
theorem zin (n:Nat) {x:Sl} {bs:List UInt8} {e:Int} {at_:Nat} (hn:at_+n<=bs.length) (hb:bs.length<=1000000000) (hcap:x.len<=x.cap) [hf:FocB l p (.cells [.slice x.a x.len x.cap,.int .i64 at_,.int .i64 e].toArray T.a54) r] [hr:FocR r x 1 (bs.flatMap zk)] (hs:Sat w l) :
  Ret P F.a185 #[.pointer (some ⟨p,0,none⟩),.int .i64 n] w λvs w'=>vs=[.slice (z0w x.a 1 at_ x.cap) n (x.cap-at_)]/\Sat w' (pt p (.cells #[.slice x.a x.len x.cap,.int .i64 (at_+n:Nat),.int .i64 e] T.a54)::r) :=
 zq1 _ n <| by
  delta z03k AC AG AH AI AP AY Aa Ak Aw
  have hs:=hs.perm hf.perm
  have hl:=hs.slen x (xs:=bs) (enc:=zk)
  refine zi ?_
  refine zb hs ?_
  refine zi ?_
  have e2:IntKind.wrap .i64 ((at_:Int)+n)=((at_+n:Nat):Int):=by rw [w64 (by omega) (by omega)];omega
  rw [e2]
  refine z08 hs λw' hs=>?_
  refine z02 hs λw' hs=>?_
  refine zi ?_
  refine zb hs ?_
  refine zi ?_
  refine zb hs ?_
  refine zi ?_
  refine zb hs ?_
  have e3:IntKind.wrap .i64 (((at_+n:Nat):Int)-n)=(at_:Int):=by rw [w64 (by omega) (by omega)];omega
  rw [e3]
  refine wp_must (by omega) ?_
  refine ze ?_
  refine ⟨rfl,?_,hs⟩
  simp only [Int.toNat_natCast,Nat.add_sub_cancel_left]
end
end Go.Dec
