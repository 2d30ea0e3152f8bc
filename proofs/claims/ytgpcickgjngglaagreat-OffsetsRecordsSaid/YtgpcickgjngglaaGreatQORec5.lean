/- What the claim of this folder leans on: our own texts, joined, without what it does not use. -/
import Derived.Test.YtgpcickgjngglaaGreatRows
import Derived.WalkKit
import Derived.ProofKit
import Derived.OpenShut
import Derived.RowKit3
import Derived.OrdersHeld
import Derived.Scope
import Derived.KernelRfl
import Derived.Laws.Sem
import Derived.Laws.StructEq
import Derived.Deep.AppendSrc
import Derived.Laws.BytesArg
import Derived.Laws.RangeString
import Derived.Maps.RangeRun
import Derived.Lib.ConvBytes
import Derived.Lib.SlBytesConst
import Derived.ChangeSlices
import Derived.ChangeMaps5
import Derived.ChangeSame
import Derived.Deep.Slices
import Derived.Deep.Fields
import Derived.Test.YtgpcickgjngglaaGreatProg
import Derived.Laws.MakeOwn
import Derived.WideKeyRuns
import Derived.DeepKeys3
import Derived.Sort.MapsRangeIn
import Derived.Sort.KeysCollected
import Derived.RangeFuncNested
import Derived.RangeFuncBound
import Derived.RangeFuncCalls
import Derived.RangeFuncLeaves
import Derived.RangeFuncBox
import Derived.OwnWalkIn
import Derived.TacticsInMore
import Derived.RegionIn
import Derived.LoopNIn
import Derived.LoopIn
import Derived.Maps.AppendAt
import Derived.Shelf.Abstract
import Derived.Shelf.Sort.Plain
import Derived.Shelf.Slices.In.SortNone
import Derived.Test.YtgpcickgjngglaaGreatQORec1
import Derived.Test.YtgpcickgjngglaaGreatQORec2
import Derived.Test.YtgpcickgjngglaaGreatQORec3
import Derived.Test.YtgpcickgjngglaaGreatQORec4
set_option linter.unusedVariables false
set_option linter.unusedSimpArgs false
namespace Go.Dec
structure ComM where
 part:Int
 off:Int
 mem:Int
 gen:Int
def z3t (c:ComM):List Value:=[.int .i64 c.part,.int .i64 c.off,.int .i64 c.mem,.int .i64 c.gen]
instance:EncA z3t [.int .i64,.int .i64,.int .i64,.int .i64] (λc=>(c.part,c.off,c.mem,c.gen,())):=⟨λ_=>rfl⟩
instance:EncN z3t 4:=⟨λ_=>rfl,by decide,by simp [z3t,Value.oneCell']⟩
def z45 (c:ComM):Prop:=(0<=c.part/\c.part<=255)/\(0<=c.off/\c.off<=1099511627776)/\(0<=c.mem/\c.mem<=64)/\(0<=c.gen/\c.gen<=2147483647)
instance (c:ComM):Decidable (z45 c):=by unfold z45;infer_instance
def z5q (n:Nat):UInt8:=UInt8.ofNat (48+n)
def z7j (p:Int):List UInt8:=[z5q (p.toNat / 100),z5q (p.toNat / 10 % 10),z5q (p.toNat % 10)]
def z13 (p:Int):ByteArray:=⟨(111::z7j p).toArray⟩
def z3o (c:ComM):List UInt8:=uI c.off++(uI c.mem++uI c.gen)
def z4u (c:ComM) (time:Int):RecM:=⟨z13 c.part,⟨(z3o c).toArray⟩,false,time⟩
def z4r (r:RecM) (c:ComM):Prop:=z45 c/\r.key=z13 c.part/\r.value=⟨(z3o c).toArray⟩/\r.gone=false
theorem zfc {a b:Nat} (ha:a<=9) (hb:b<=9) (h:z5q a=z5q b):a=b:=by
 have:=congrArg UInt8.toNat h
 unfold z5q at this
 simp only [UInt8.toNat_ofNat'] at this
 omega
theorem zye {p q:Int} (hp:0<=p/\p<=255) (hq:0<=q/\q<=255) (h:z7j p=z7j q):p=q:=by
 unfold z7j at h
 simp only [List.cons.injEq,and_true] at h
 obtain ⟨h1,h2,h3⟩:=h
 have h1:=zfc (by omega) (by omega) h1
 have h2:=zfc (by omega) (by omega) h2
 have h3:=zfc (by omega) (by omega) h3
 omega
theorem zyd {p q:Int} (hp:0<=p/\p<=255) (hq:0<=q/\q<=255) (h:z13 p=z13 q):p=q:=by
 have:(111::z7j p)=111::z7j q:=by
  have:=congrArg (λb:ByteArray=>b.data.toList) h
  simpa [z13] using this
 exact zye hp hq (List.cons.inj this).2
theorem z061 {a b:List UInt8} (h:(⟨a.toArray⟩:ByteArray)=⟨b.toArray⟩):a=b:=by
 have:=congrArg (λb:ByteArray=>b.data.toList) h
 simpa using this
theorem zyc {r:RecM} {c c':ComM} (h:z4r r c) (h':z4r r c'):c=c':=by
 obtain ⟨⟨p1,o1,m1,g1⟩,k1,v1,-⟩:=h
 obtain ⟨⟨p2,o2,m2,g2⟩,k2,v2,-⟩:=h'
 have e1:=zyd p1 p2 (k1.symm.trans k2)
 have e2:=z061 (v1.symm.trans v2)
 unfold z3o at e2
 obtain ⟨e3,e2⟩:=zmm (by omega) (by omega) e2
 obtain ⟨e4,e2⟩:=zmm (by omega) (by omega) e2
 have e2:uI c.gen++[]=uI c'.gen++[]:=by rw [e2]
 obtain ⟨e5,-⟩:=zmm (by omega) (by omega) e2
 obtain ⟨a,b,c,d⟩:=c
 obtain ⟨a',b',c',d'⟩:=c'
 simp only at e1 e3 e4 e5
 subst e1 e3 e4 e5
 rfl
def zg8 (r:RecM) (c:ComM) (e:Int):Prop:=(e=0/\z4r r c)\/(e=6/\c=⟨0,0,0,0⟩/\∀ c',¬ z4r r c')
theorem zlw {r:RecM} {c c':ComM} {e e':Int} (h:zg8 r c e) (h':zg8 r c' e'):c=c'/\e=e':=by
 rcases h with ⟨rfl,h⟩|⟨rfl,rfl,h⟩ <;> rcases h' with ⟨rfl,h'⟩|⟨rfl,rfl,h'⟩
 ·exact ⟨zyc h h',rfl⟩
 ·exact absurd h (h' _)
 ·exact absurd h' (h _)
 ·exact ⟨rfl,rfl⟩
theorem z03q {c:ComM} (h:z45 c) (time:Int):z4r (z4u c time) c:=⟨h,rfl,rfl,rfl⟩
theorem zdq {c:ComM} (h:z45 c):(zv (some (z3o c))).1=c.off.toNat/\(zv (zv (some (z3o c))).2).1=c.mem.toNat/\(zv (zv (zv (some (z3o c))).2).2).1=c.gen.toNat/\(zv (zv (zv (some (z3o c))).2).2).2=some []:=by
 obtain ⟨-,h1,h2,h3⟩:=h
 have e1:zv (some (z3o c))=(c.off.toNat,some (uI c.mem++uI c.gen)):=z4q (by omega) _
 have e2:zv (some (uI c.mem++uI c.gen))=(c.mem.toNat,some (uI c.gen)):=z4q (by omega) _
 have e3:zv (some (uI c.gen))=(c.gen.toNat,some []):=by
  have:=z4q (v:=c.gen.toNat) (by omega) []
  rw [List.append_nil] at this
  exact this
 have f2:(zv (some (z3o c))).2=some (uI c.mem++uI c.gen):=by rw [e1]
 have f3:(zv (zv (some (z3o c))).2).2=some (uI c.gen):=by rw [f2,e2]
 refine ⟨by rw [e1],by rw [f2,e2],by rw [f3,e3],by rw [f3,e3]⟩
theorem zzz {bs:List UInt8} (h:(zv (zv (zv (some bs)).2).2).2=some []):bs=z25 (zv (some bs)).1++(z25 (zv (zv (some bs)).2).1++z25 (zv (zv (zv (some bs)).2).2).1):=by
 obtain ⟨-,h3⟩:=z4p h
 obtain ⟨-,h2⟩:=z4p h3
 obtain ⟨-,h1⟩:=z4p h2
 rw [List.append_nil] at h1
 exact Option.some.inj h1
theorem Ret.mono {P:Program} {f:FuncId} {args:Array Value} {w:World} {R R':List Value->World->Prop} (h:Ret P f args w R) (hi:∀ vs w',R vs w'->R' vs w'):Ret P f args w R' :=
 Calls.mono h λe w' ⟨vs,he,hv⟩=>⟨vs,he,hi _ _ hv⟩
def stR (R:RdM):Lf:=if R.e=0 then some (z4s R) else none
theorem z7p {R:RdM} (h:R.e=0):stR R=some (z4s R):=if_pos h
theorem z6u {R:RdM} (h:R.e≠0):stR R=none:=if_neg h
theorem zzs {R:RdM}:(stR R).isSome=decide (R.e=0):=by
 unfold stR;split <;> simp [*]
theorem z84 {R:RdM}:(R.uint).1=(zv (stR R)).1/\stR R.uint.2=(zv (stR R)).2:=by
 by_cases h:R.e=0
 ·rw [z7p h]
  cases hn:z2p 0 (R.bs.drop R.at_) with
  | none =>
   have e1:R.uint=(0,⟨R.bs,R.at_,6⟩):=by unfold RdM.uint;rw [if_neg (by rw [h];simp)];simp only [hn]
   have e2:zv (some (z4s R))=(0,none):=by unfold zv z4s;simp only [hn]
   rw [e1,e2]
   exact ⟨rfl,if_neg (show ¬ (6:Int)=0 by decide)⟩
  | some q =>
   have e1:R.uint=(q.1,⟨R.bs,R.at_+q.2,R.e⟩):=by unfold RdM.uint;rw [if_neg (by rw [h];simp)];simp only [hn]
   have e2:zv (some (z4s R))=(q.1,some ((z4s R).drop q.2)):=by unfold zv z4s;simp only [hn]
   rw [e1,e2]
   refine ⟨rfl,?_⟩
   show (if R.e=0 then some (R.bs.drop (R.at_+q.2)) else none)=some ((R.bs.drop R.at_).drop q.2)
   rw [if_pos h,List.drop_drop]
 ·rw [zmn h]
  show 0=(zv (stR R)).1/\stR R=(zv (stR R)).2
  rw [z6u h]
  exact ⟨rfl,rfl⟩
theorem zjn {R:RdM} {lo hi:Int}:(R.within lo hi).1=(z1i lo hi (stR R)).1/\stR (R.within lo hi).2=(z1i lo hi (stR R)).2:=by
 obtain ⟨h1,h2⟩:=z84 (R:=R)
 unfold RdM.within z1i
 rw [<- h1,<- h2]
 by_cases h:R.uint.2.e=0
 ·rw [if_neg (by rw [h];simp),z7p h]
  simp only
  by_cases hc:zag R.uint.1<lo\/zag R.uint.1>hi
  ·rw [if_pos hc,if_pos hc]
   exact ⟨rfl,if_neg (show ¬ (8:Int)=0 by decide)⟩
  ·rw [if_neg hc,if_neg hc]
   exact ⟨rfl,z7p h⟩
 ·rw [if_pos h]
  show 0=_/\stR R.uint.2=_
  rw [z6u h]
  exact ⟨rfl,rfl⟩
def rdS (T':TypeId) (p:Nat) (s:Lf):HP:=HP.ex λR:RdM=>HP.and (stR R=s) (rdP T' p R)
section
variable {w:World} {l r:List HP} {p:Nat} {s:Lf} {T':TypeId}
theorem z74 (hs:Sat w (rdS T' p s::l)):∃ R:RdM,stR R=s/\Sat w (rdP T' p R::l):=by
 obtain ⟨R,hs⟩:=hs.ex
 obtain ⟨h,hs⟩:=hs.and
 exact ⟨R,h,hs⟩
theorem z2b {R:RdM} (h:stR R=s) (hs:Sat w (rdP T' p R::l)):Sat w (rdS T' p s::l):=.ex_mk R (.and_mk h hs)
theorem zlk (x:Sl) (bs:List UInt8) [hx:FocR l x 1 (bs.flatMap zh)] (hn:bs.length<=1000000000) (hs:Sat w l) :
  Ret P F.a199 #[x.v] w λvs w'=>∃ p:Nat,vs=[.pointer (some ⟨p,0,none⟩)]/\Sat w' (rdS T.a59 p (some bs)::l) :=
 (zmz x bs hn hs).mono λ_ _ h=>by
  obtain ⟨p,rfl,hs⟩:=h
  exact ⟨p,rfl,z2b (R:=⟨bs,0,0⟩) rfl hs⟩
theorem z9g [hf:Fo l (rdS T.a59) p s r] (hs:Sat w l):Ret P F.a206 #[.pointer (some ⟨p,0,none⟩)] w λvs w'=>vs=[.int .u64 ((zv s).1:Int)]/\Sat w' (rdS T.a59 p (zv s).2::r):=by
 obtain ⟨R,rfl,hs⟩:=z74 (hs.perm hf.perm)
 refine (zqx (p:=p) hs).mono λ_ _ h=>?_
 obtain ⟨rfl,hs⟩:=h
 exact ⟨by rw [z84.1],z2b z84.2 hs⟩
theorem zx9 (lo hi:Int) [hf:Fo l (rdS T.a59) p s r] (hs:Sat w l):Ret P F.a207 #[.pointer (some ⟨p,0,none⟩),.int .i64 lo,.int .i64 hi] w λvs w'=>vs=[.int .i64 (z1i lo hi s).1]/\Sat w' (rdS T.a59 p (z1i lo hi s).2::r):=by
 obtain ⟨R,rfl,hs⟩:=z74 (hs.perm hf.perm)
 refine (zwv (p:=p) lo hi hs).mono λ_ _ h=>?_
 obtain ⟨rfl,hs⟩:=h
 exact ⟨by rw [zjn.1],z2b zjn.2 hs⟩
theorem zvw [hf:Fo l (rdS T.a59) p s r] (hs:Sat w l):Ret P F.a202 #[.pointer (some ⟨p,0,none⟩)] w λvs w'=>∃ e:Int,vs=[.int .i64 e]/\(e=0↔s.isSome=true)/\Sat w' (rdS T.a59 p s::r):=by
 obtain ⟨R,rfl,hs⟩:=z74 (hs.perm hf.perm)
 refine (z06g (p:=p) hs).mono λ_ _ h=>?_
 obtain ⟨rfl,hs⟩:=h
 exact ⟨R.e,rfl,by rw [zzs,decide_eq_true_iff],z2b rfl hs⟩
theorem zkz [hf:Fo l (rdS T.a59) p s r] (hs:Sat w l):Ret P F.a201 #[.pointer (some ⟨p,0,none⟩)] w λvs w'=>∃ e:Int,vs=[.int .i64 e]/\(e=0↔s=some [])/\Sat w' r:=by
 obtain ⟨R,rfl,hs⟩:=z74 (hs.perm hf.perm)
 have hb:=(z6b hs).1
 refine (z06f (p:=p) hs).mono λ_ _ h=>?_
 obtain ⟨rfl,hs⟩:=h
 refine ⟨_,rfl,?_,hs.tail⟩
 rw [zrs hb]
 unfold stR
 by_cases h:R.e=0 <;> simp [h]
end
section
variable {w:World} {l r:List HP} {p:Nat} {s:Lf}
theorem z04w (b:Bool) (hs:Sat w l):Ret P F.a196 #[.bool b] w λvs w'=>∃ z:Sl,vs=[z.v]/\Sat w' (slc T.a57 1 z ([z8d b].flatMap zh)::l) :=
 zp3 b <| by
  delta z02k AP Aa Ab
  refine zg (λh=>?_) λh=>?_
  ·subst h
   refine z6h hs (enc:=zh) (1:UInt8) λz w' hs=>?_
   exact ⟨rfl,z,rfl,hs⟩
  ·have h:b=false:=by simpa using h
   subst h
   refine z6h hs (enc:=zh) (0:UInt8) λz w' hs=>?_
   exact ⟨rfl,z,rfl,hs⟩
theorem zi0 (n:Nat) {x:Sl} {bs:List UInt8} {e:Int} {at_:Nat} (hn:at_+n<=bs.length) (hb:bs.length<=1000000000) (hcap:x.len<=x.cap) [hf:FocB l p (.cells [.slice x.a x.len x.cap,.int .i64 at_,.int .i64 e].toArray T.a59) r] [hr:FocR r x 1 (bs.flatMap zh)] (hs:Sat w l) :
  Ret P F.a213 #[.pointer (some ⟨p,0,none⟩),.int .i64 n] w λvs w'=>vs=[.slice (z12 x.a 1 at_ x.cap) n (x.cap-at_)]/\Sat w' (pt p (.cells #[.slice x.a x.len x.cap,.int .i64 (at_+n:Nat),.int .i64 e] T.a59)::r) :=
 zpk _ n <| by
  delta z031 AC AD AE AF AG Ab Ac Aj Ax
  have hs:=hs.perm hf.perm
  have hl:=hs.slen x (xs:=bs) (enc:=zh)
  refine zi ?_
  refine za hs ?_
  refine zi ?_
  have e2:IntKind.wrap .i64 ((at_:Int)+n)=((at_+n:Nat):Int):=by rw [w64 (by omega) (by omega)];omega
  rw [e2]
  refine z02 hs λw' hs=>?_
  refine zw hs λw' hs=>?_
  refine zi ?_
  refine za hs ?_
  refine zi ?_
  refine za hs ?_
  refine zi ?_
  refine za hs ?_
  have e3:IntKind.wrap .i64 (((at_+n:Nat):Int)-n)=(at_:Int):=by rw [w64 (by omega) (by omega)];omega
  rw [e3]
  refine wp_must (by omega) ?_
  refine zd ?_
  refine ⟨rfl,?_,hs⟩
  simp only [Int.toNat_natCast,Nat.add_sub_cancel_left]
end
abbrev polyB:BitVec 32:=0xEDB88320#32
def zxt (s:BitVec 32):BitVec 32:=(s >>> 1) ^^^ (polyB &&& (0#32-(s &&& 1#32)))
def zrq:Nat->BitVec 32->BitVec 32
 | 0,s=>s
 | k+1,s=>zxt (zrq k s)
def zrp (s:BitVec 32) (c:UInt8):BitVec 32:=zrq 8 (s ^^^ BitVec.ofNat 32 c.toNat)
def z5p (s:BitVec 32) (bs:List UInt8):BitVec 32:=bs.foldl zrp s
def zsf (x:BitVec 32) (bs:List UInt8):BitVec 32 := ~~~ (z5p (~~~ x) bs)
def z9x (bs:List UInt8):Nat:=(zsf 0#32 bs).toNat
def z3l (n:Nat):List UInt8:=[UInt8.ofNat n,UInt8.ofNat (n / 256),UInt8.ofNat (n / 65536),UInt8.ofNat (n / 16777216)]
def z0g:List UInt8->Nat
 | a::b::c::d::_=>a.toNat+256*b.toNat+65536*c.toNat+16777216*d.toNat
 | _=>0
def z34 (bs:List UInt8):List UInt8:=z3l bs.length++bs
def z2i (bs:List UInt8):List UInt8:=if bs.length>262144 then [] else z34 bs++z3l (z9x (z34 bs))
def z0x (b:List UInt8):Option (List UInt8 × Nat) :=
 if b.length<8\/z0g b>262144\/z0g b+8>b.length then none else if z0g (b.drop (z0g b+4))=z9x (b.take (z0g b+4)) then some ((b.drop 4).take (z0g b),z0g b+8) else none
theorem zwh (a b c d:UInt8) (r:List UInt8):z0g (a::b::c::d::r)=a.toNat+256*b.toNat+65536*c.toNat+16777216*d.toNat:=rfl
theorem zlm {n:Nat} (h:n<4294967296) (r:List UInt8):z0g (z3l n++r)=n:=by
 unfold z3l z0g
 simp
 omega
theorem zfj:∀ (b:List UInt8),4<=b.length->z3l (z0g b)=b.take 4/\z0g b<4294967296
 | a::b::c::d::r,_=>by
  have h1:=a.toNat_lt
  have h2:=b.toNat_lt
  have h3:=c.toNat_lt
  have h4:=d.toNat_lt
  rw [zwh]
  refine ⟨?_,by omega⟩
  have e:∀ (x:UInt8) (n:Nat),n % 256=x.toNat->UInt8.ofNat n=x:=λx n h=>by
   apply UInt8.toNat_inj.1
   simp [h]
  unfold z3l
  rw [e a _ (by omega),e b _ (by omega),e c _ (by omega),e d _ (by omega)]
  rfl
theorem z63 (n:Nat):(z3l n).length=4:=rfl
theorem zr3 (bs:List UInt8):z9x bs<4294967296:=(zsf 0#32 bs).isLt
theorem z6k {bs:List UInt8} (h:bs.length<=262144) (r:List UInt8):z0x (z2i bs++r)=some (bs,bs.length+8):=by
 have hs:=zr3 (z34 bs)
 have hl:(z34 bs).length=bs.length+4:=by unfold z34;rw [List.length_append,z63];omega
 have e0:z2i bs++r=z34 bs++(z3l (z9x (z34 bs))++r):=by unfold z2i;rw [if_neg (by omega),List.append_assoc]
 have e1:z0g (z2i bs++r)=bs.length:=by
  rw [e0];unfold z34;rw [List.append_assoc];exact zlm (by omega) _
 have e2:(z2i bs++r).length=bs.length+8+r.length:=by
  rw [e0,List.length_append,List.length_append,hl,z63];omega
 unfold z0x
 rw [e1,e2,if_neg (by omega),e0,<- hl,List.drop_left,List.take_left,zlm hs,if_pos rfl]
 congr 2
 unfold z34
 rw [List.append_assoc,show (4:Nat)=(z3l bs.length).length from rfl,List.drop_left,List.take_left]
theorem z62 {b body:List UInt8} {n:Nat} (h:z0x b=some (body,n)):n=body.length+8/\n<=b.length/\body.length<=262144/\b.take n=z2i body:=by
 unfold z0x at h
 split at h
 ·cases h
 rename_i h1
 split at h
 ·rename_i h2
  simp only [Option.some.injEq,Prod.mk.injEq] at h
  obtain ⟨rfl,rfl⟩:=h
  have hbl:((b.drop 4).take (z0g b)).length=z0g b:=by rw [List.length_take,List.length_drop];omega
  refine ⟨by rw [hbl],by omega,by rw [hbl];omega,?_⟩
  have hh:z34 ((b.drop 4).take (z0g b))=b.take (z0g b+4):=by
   unfold z34
   rw [hbl,(zfj b (by omega)).1,Nat.add_comm,List.take_add]
  unfold z2i
  rw [if_neg (by rw [hbl];omega),hh,<- h2,(zfj (b.drop (z0g b+4)) (by rw [List.length_drop];omega)).1,show z0g b+8=(z0g b+4)+4 from rfl,List.take_add]
 ·cases h
theorem zvy (b:List UInt8):z0x b=if b.length<8\/z0g b>262144\/z0g b+8>b.length then none else if z2i ((b.drop 4).take (z0g b))=b.take (z0g b+8) then some ((b.drop 4).take (z0g b),z0g b+8) else none:=by
 by_cases h1:b.length<8\/z0g b>262144\/z0g b+8>b.length
 ·unfold z0x;rw [if_pos h1,if_pos h1]
 rw [if_neg h1]
 by_cases h2:z2i ((b.drop 4).take (z0g b))=b.take (z0g b+8)
 ·rw [if_pos h2]
  have hbl:((b.drop 4).take (z0g b)).length=z0g b:=by rw [List.length_take,List.length_drop];omega
  have h3:=z6k (bs:=(b.drop 4).take (z0g b)) (by rw [hbl];omega) (b.drop (z0g b+8))
  rw [h2,List.take_append_drop,hbl] at h3
  exact h3
 ·rw [if_neg h2]
  cases hf:z0x b with
  | none=>rfl
  | some q =>
   obtain ⟨g1,g2,g3,g4⟩:=z62 (body:=q.1) (n:=q.2) hf
   unfold z0x at hf
   rw [if_neg h1] at hf
   split at hf
   ·simp only [Option.some.injEq] at hf
    subst hf
    exact absurd g4.symm h2
   ·cases hf
theorem bvi (s:BitVec 32):BitVec.ofInt 32 ((s.toNat:Nat):Int)=s:=by rw [BitVec.ofInt_natCast,BitVec.ofNat_toNat,BitVec.setWidth_eq]
theorem wbv (s:BitVec 32):IntKind.wrap .u32 ((s.toNat:Nat):Int)=((s.toNat:Nat):Int):=by rw [zkd,Nat.mod_eq_of_lt s.isLt]
theorem zwg (s:BitVec 32):BitVec.ofInt 32 4294967295 ^^^ BitVec.ofInt 32 ((s.toNat:Nat):Int) = ~~~ s:=by
 rw [bvi]
 have:BitVec.ofInt 32 4294967295=BitVec.allOnes 32:=by decide +kernel
 rw [this,BitVec.allOnes_xor]
theorem z092 (s:BitVec 32):BitVec.ofInt 32 (Int.fdiv ((s.toNat:Nat):Int) 2)=s >>> 1:=by
 rw [z7v _ (by decide),BitVec.ofInt_natCast]
 apply BitVec.eq_of_toNat_eq
 have:=s.isLt
 rw [BitVec.toNat_ofNat,BitVec.toNat_ushiftRight,Nat.shiftRight_eq_div_pow]
 show s.toNat / 2 % 2 ^ 32=s.toNat / 2 ^ 1
 omega
theorem z063 (s:BitVec 32):BitVec.ofInt 32 (IntKind.wrap .u32 (0-((s.toNat:Nat):Int)))=0#32-s:=by
 apply BitVec.eq_of_toNat_eq
 have:=s.isLt
 have e:IntKind.wrap .u32 (0-((s.toNat:Nat):Int))=(((4294967296-s.toNat) % 4294967296:Nat):Int):=by
  simp [IntKind.wrap,IntKind.bits,IntKind.signed];omega
 rw [e,BitVec.ofInt_natCast,BitVec.toNat_ofNat,BitVec.toNat_sub]
 simp
theorem z04s (s:BitVec 32):IntKind.wrap .u32 (((BitVec.toNat (BitVec.ofInt 32 (Int.fdiv ((s.toNat:Nat):Int) 2) ^^^ BitVec.ofInt 32 (IntKind.wrap .u32 (((BitVec.toNat (BitVec.ofInt 32 3988292384 &&& BitVec.ofInt 32 (IntKind.wrap .u32 (0-IntKind.wrap .u32 (((BitVec.toNat (BitVec.ofInt 32 ((s.toNat:Nat):Int) &&& BitVec.ofInt 32 1):Nat):Int))))):Nat):Int)))):Nat):Int))=(((zxt s).toNat:Nat):Int):=by
 rw [wbv,wbv,wbv,bvi,bvi,z063,z092]
 rfl
theorem z003 (s:BitVec 32) (c:UInt8):IntKind.wrap .u32 (((BitVec.toNat (BitVec.ofInt 32 ((s.toNat:Nat):Int) ^^^ BitVec.ofInt 32 (IntKind.wrap .u32 ((c.toNat:Nat):Int))):Nat):Int))=(((s ^^^ BitVec.ofNat 32 c.toNat).toNat:Nat):Int):=by
 have:=c.toNat_lt
 rw [wbv,bvi,zkd,Nat.mod_eq_of_lt (by omega),BitVec.ofInt_natCast]
section
variable {w:World} {l r:List HP} {Q:Post} {S:World->Prop}
theorem zvn (s:BitVec 32) (bs:List UInt8) (i:Nat) (hi:i<bs.length):z5p s (bs.take (i+1))=zrp (z5p s (bs.take i)) bs[i]:=by
 unfold z5p
 rw [List.take_add_one,List.getElem?_eq_getElem hi,Option.toList_some,List.foldl_append];rfl
theorem z03i (m:BitVec 32) (x:Sl) (ps:List (Sl × List UInt8)) [hx:FocR l x 1 ((ps.map Prod.fst).flatMap z0c)] (hps:∀ p ∈ ps,FocR l p.1 1 (p.2.flatMap zh)/\p.2.length<=1000000000) (hpl:ps.length<=1000000) (hs:Sat w l) :
  Ret P F.a42 #[.int .u32 ((m.toNat:Nat):Int),x.v] w λvs w'=>vs=[.int .u32 (((zsf m (ps.flatMap Prod.snd)).toNat:Nat):Int)]/\Sat w' l :=
 zu2 _ x <| by
  delta z07u AF AY AZ Aa Ab Ac Ag Ax BB BE BF
  have hl:=hs.slen x (xs:=ps.map Prod.fst) (enc:=z0c)
  rw [List.length_map] at hl
  rw [zwg,wbv]
  refine wp_lt ?_
  refine zk (λu w'=>u=((((z5p (~~~ m) (ps.flatMap Prod.snd)).toNat:Nat):Int),())/\Sat w' l) ?_ ?_
  rotate_left
  ·rintro _ w' ⟨rfl,hs⟩
   refine zj ?_
   rw [zwg,wbv]
   refine wp_lt ?_
   exact ⟨rfl,rfl,hs⟩
  refine z09 (λk u w=>∃ i:Nat,u=((((z5p (~~~ m) ((ps.take i).flatMap Prod.snd)).toNat:Nat):Int),(i:Int),())/\i<=ps.length/\ps.length-i=k/\Sat w l) ps.length ⟨0,rfl,by omega,rfl,hs⟩ ?_
  clear hs
  rintro k _ w ⟨i,rfl,hi,hk,hs⟩
  refine zj ?_
  refine zg (λhc=>?_) λhc=>?_
  rotate_left
  ·refine zn (zf ⟨?_,hs⟩)
   rw [List.take_of_length_le (by omega)]
  have hil:i<ps.length:=by omega
  obtain ⟨hF,hpl2⟩:=hps _ (List.getElem_mem hil)
  have hpi:=hs.slen ps[i].1 (xs:=ps[i].2) (enc:=zh)
  refine zk (λu w'=>u=((((z5p (~~~ m) ((ps.take (i+1)).flatMap Prod.snd)).toNat:Nat):Int),())/\Sat w' l) ?_ ?_
  rotate_left
  ·rintro _ w' ⟨rfl,hs⟩
   refine zj ?_
   refine z27 (us':=[.int .u32 (((z5p (~~~ m) ((ps.take (i+1)).flatMap Prod.snd)).toNat:Nat):Int),.int .i64 ((i+1:Nat):Int)]) (by (try simp (disch:=omega) only [w64]);first|rfl|(congr;omega)) ?_
   refine z0w (ps.length-(i+1)) ?_
   exact ⟨i+1,rfl,by omega,rfl,hs⟩
  refine z1w hs (xs:=ps.map Prod.fst) (enc:=z0c) i (by rw [List.length_map];exact hil) ?_
  rw [List.getElem_map]
  have hto:z5p (~~~ m) ((ps.take (i+1)).flatMap Prod.snd)=z5p (z5p (~~~ m) ((ps.take i).flatMap Prod.snd)) ps[i].2:=by
   rw [List.take_add_one,List.getElem?_eq_getElem hil,Option.toList_some,List.flatMap_append,List.flatMap_singleton]
   unfold z5p
   rw [List.foldl_append]
  rw [hto]
  generalize z5p (~~~ m) ((ps.take i).flatMap Prod.snd)=s0
  generalize ps[i]=q at *
  refine zk (λu w'=>u=((((z5p s0 q.2).toNat:Nat):Int),())/\Sat w' l) ?_ (by rintro _ w' ⟨rfl,hs⟩;refine zj ?_;exact zf ⟨rfl,hs⟩)
  refine z09 (λk u w=>∃ j:Nat,u=((((z5p s0 (q.2.take j)).toNat:Nat):Int),(j:Int),())/\j<=q.2.length/\q.2.length-j=k/\Sat w l) q.2.length ⟨0,rfl,by omega,rfl,hs⟩ ?_
  clear hs
  rintro k _ w ⟨j,rfl,hj,hk,hs⟩
  refine zj ?_
  refine zg (λhc=>?_) λhc=>?_
  rotate_left
  ·refine zn (zf ⟨?_,hs⟩)
   rw [List.take_of_length_le (by omega)]
  have hjl:j<q.2.length:=by omega
  refine zk (λu w'=>u=((((z5p s0 (q.2.take (j+1))).toNat:Nat):Int),())/\Sat w' l) ?_ ?_
  rotate_left
  ·rintro _ w' ⟨rfl,hs⟩
   refine zj ?_
   refine z27 (us':=[.int .u32 (((z5p s0 (q.2.take (j+1))).toNat:Nat):Int),.int .i64 ((j+1:Nat):Int)]) (by (try simp (disch:=omega) only [w64]);first|rfl|(congr;omega)) ?_
   refine z0w (q.2.length-(j+1)) ?_
   exact ⟨j+1,rfl,by omega,rfl,hs⟩
  refine z1w hs (xs:=q.2) (enc:=zh) j hjl ?_
  refine wp_lt ?_
  rw [z003]
  refine wp_lt ?_
  rw [zvn s0 q.2 j hjl]
  generalize z5p s0 (q.2.take j)=s1
  show Prog.wp P _ _ _ _
  refine zk (λu w'=>u=((((zrp s1 q.2[j]).toNat:Nat):Int),())/\Sat w' l) ?_ (by rintro _ w' ⟨rfl,hs⟩;refine zj ?_;exact zf ⟨rfl,hs⟩)
  unfold zrp
  generalize s1 ^^^ BitVec.ofNat 32 q.2[j].toNat=s2
  refine z09 (λk u w=>∃ i:Nat,u=((((zrq i s2).toNat:Nat):Int),(i:Int),())/\i<=8/\8-i=k/\Sat w l) 8 ⟨0,rfl,by omega,rfl,hs⟩ ?_
  clear hs
  rintro k _ w ⟨i,rfl,hi,hk,hs⟩
  refine zj ?_
  refine zg (λhc=>?_) λhc=>?_
  rotate_left
  ·obtain rfl:i=8:=by omega
   exact zn (zf ⟨rfl,hs⟩)
  rw [z04s]
  refine wp_lt ?_
  refine z27 (us':=[.int .u32 (((zxt (zrq i s2)).toNat:Nat):Int),.int .i64 ((i+1:Nat):Int)]) (by (try simp (disch:=omega) only [w64]);first|rfl|(congr;omega)) ?_
  refine z0w (8-(i+1)) ?_
  exact ⟨i+1,rfl,by omega,rfl,hs⟩
theorem z05q (x:Sl) (ps:List (Sl × List UInt8)) [hx:FocR l x 1 ((ps.map Prod.fst).flatMap z0c)] (hps:∀ p ∈ ps,FocR l p.1 1 (p.2.flatMap zh)/\p.2.length<=1000000000) (hpl:ps.length<=1000000) (hs:Sat w l) :
  Ret P F.a45 #[x.v] w λvs w'=>vs=[.int .u32 ((z9x (ps.flatMap Prod.snd):Nat):Int)]/\Sat w' l :=
 zu5 x <| by
  delta z07x Ab BA BB
  refine z8 (z03i 0#32 x ps hps hpl hs) λ_ _ hs=>?_
  obtain ⟨rfl,hs⟩:=hs
  refine zb ?_
  refine wp_lt ?_
  exact ⟨rfl,rfl,hs⟩
theorem zhn (x y:Sl) (bs:List UInt8) [hx:FocR l x 1 ([y].flatMap z0c)] [hy:FocR l y 1 (bs.flatMap zh)] (hn:bs.length<=1000000000) (hs:Sat w l) :
  Ret P F.a45 #[x.v] w λvs w'=>vs=[.int .u32 ((z9x bs:Nat):Int)]/\Sat w' l:=by
 have:=@z05q w l x [(y,bs)] hx (by intro p hp;rw [List.mem_singleton.1 hp];exact ⟨hy,hn⟩) (by simp) hs
 simpa using this
theorem zpy (n:Nat) (hn:n<4294967296) (hs:Sat w l):Ret P F.a46 #[.int .u32 (n:Int)] w λvs w'=>∃ z:Sl,vs=[z.v]/\Sat w' (slc T.a57 1 z ((z3l n).flatMap zh)::l) :=
 zu6 n <| by
  delta z07y AP Ab
  have e0:IntKind.wrap .u8 (n:Int)=(((UInt8.ofNat n).toNat:Nat):Int):=by rw [z90];simp
  have e1:IntKind.wrap .u8 (Int.fdiv (n:Int) 256)=(((UInt8.ofNat (n / 256)).toNat:Nat):Int):=by rw [z7v n (by decide),z90];simp
  have e2:IntKind.wrap .u8 (Int.fdiv (n:Int) 65536)=(((UInt8.ofNat (n / 65536)).toNat:Nat):Int):=by rw [z7v n (by decide),z90];simp
  have e3:IntKind.wrap .u8 (Int.fdiv (n:Int) 16777216)=(((UInt8.ofNat (n / 16777216)).toNat:Nat):Int):=by rw [z7v n (by decide),z90];simp
  rw [e0,e1,e2,e3]
  refine z9j hs (enc:=zh) (z3l n) (cs:=((z3l n).flatMap zh).toArray) (by kernel_rfl) (λb w' hs=>?_) (by simp)
  exact ⟨rfl,_,rfl,hs⟩
theorem zyy {a b c d:Nat} (ha:a<256) (hb:b<256) (hc:c<256) (hd:d<256) :
  IntKind.wrap .u32 (((BitVec.toNat (BitVec.ofInt 32 (IntKind.wrap .u32 (((BitVec.toNat (BitVec.ofInt 32 (IntKind.wrap .u32 (((BitVec.toNat (BitVec.ofInt 32 (IntKind.wrap .u32 (a:Int)) ||| BitVec.ofInt 32 (IntKind.wrap .u32 (IntKind.wrap .u32 (b:Int)*256))):Nat):Int))) ||| BitVec.ofInt 32 (IntKind.wrap .u32 (IntKind.wrap .u32 (c:Int)*65536))):Nat):Int))) ||| BitVec.ofInt 32 (IntKind.wrap .u32 (IntKind.wrap .u32 (d:Int)*16777216))):Nat):Int))=((a+256*b+65536*c+16777216*d:Nat):Int):=by
 have wm:∀ {m:Nat},m<4294967296->IntKind.wrap .u32 (m:Int)=(m:Int):=λ{m} h=>by rw [zkd,Nat.mod_eq_of_lt h]
 have or2:∀ {x y i:Nat},x<2 ^ i->y*2 ^ i+x<4294967296->BitVec.toNat (BitVec.ofInt 32 (x:Int) ||| BitVec.ofInt 32 ((y*2 ^ i:Nat):Int))=x+y*2 ^ i:=λ{x y i} h1 h2=>by
  rw [BitVec.ofInt_natCast,BitVec.ofInt_natCast,BitVec.toNat_or,BitVec.toNat_ofNat,BitVec.toNat_ofNat,Nat.mod_eq_of_lt (show x<2 ^ 32 by omega),Nat.mod_eq_of_lt (show y*2 ^ i<2 ^ 32 by omega),Nat.or_comm,Nat.mul_comm,<- Nat.two_pow_add_eq_or_of_lt h1,Nat.add_comm]
 have m1:((b:Nat):Int)*256=((b*2 ^ 8:Nat):Int):=rfl
 have m2:((c:Nat):Int)*65536=((c*2 ^ 16:Nat):Int):=rfl
 have m3:((d:Nat):Int)*16777216=((d*2 ^ 24:Nat):Int):=rfl
 rw [wm (show a<_ by omega),wm (show b<_ by omega),wm (show c<_ by omega),wm (show d<_ by omega),m1,m2,m3,wm (show b*2 ^ 8<_ by omega),wm (show c*2 ^ 16<_ by omega),wm (show d*2 ^ 24<_ by omega),
  or2 (by omega) (by omega),wm (show a+b*2 ^ 8<_ by omega),or2 (by omega) (by omega),wm (show a+b*2 ^ 8+c*2 ^ 16<_ by omega),or2 (by omega) (by omega),wm (by omega)]
 congr 1
 omega
theorem zys {bs:List UInt8} (h:4<=bs.length):z0g bs=bs[0].toNat+256*bs[1].toNat+65536*bs[2].toNat+16777216*bs[3].toNat:=by
 match bs,h with
 | a::b::c::d::r,_=>rfl
theorem z87 {α:Type} {enc:α->List Value} {xs:List α} {sz m:Nat} {ii:Int} {x:Sl} {T:TypeId} {g':Prop} {p:Pr} {dec:α->p.D} {f:p.D->Prog} (hs:Sat w l) [hf:FocR l x sz (xs.flatMap enc)] [hE:EncN enc sz] [hD:Enc1 enc p dec] [hT:One P T]
  (n:Nat) (hn:n<xs.length) (h:(f (dec xs[n])).wp P S w Q) (hm:m=n*sz:=by rfl) (hi:ii=n:=by rfl) :
  (Prog.ex [.adr] (c1 λa=>(0:Int)<=ii/\ii<((x.len:Nat):Int)/\x.a=some a) (u1 λa=>.read g' (ld T (Addr.add a m)) (.one (.one p)) (u1 f))).wp P S w Q:=by
 subst hm hi
 have hr:=hf.rd w hs
 have hl:x.len=xs.length:=hr.len hE.len hE.pos
 obtain ⟨a,ha,he⟩:=hr.el hE.len (by omega)
 refine ⟨(a,()),⟨by omega,by omega,ha⟩,(dec xs[n],()),λ_=>?_,h⟩
 have:=he n hn
 rw [hD.ok] at this
 have h2:=At.ld1 (P:=P) (T:=T) this rfl
 cases p <;> exact h2
theorem zd4 (x:Sl) (bs:List UInt8) [hx:FocR l x 1 (bs.flatMap zh)] (hn:4<=bs.length) (hs:Sat w l):Ret P F.a47 #[x.v] w λvs w'=>vs=[.int .u32 ((z0g bs:Nat):Int)]/\Sat w' l :=
 zu7 x <| by
  delta z07z AC AG AY Ab Ag BB
  refine zw hs λw' hs=>?_
  refine z87 hs (xs:=bs) (enc:=zh) 0 (by omega) ?_
  refine z87 hs (xs:=bs) (enc:=zh) 1 (by omega) ?_
  refine z87 hs (xs:=bs) (enc:=zh) 2 (by omega) ?_
  refine z87 hs (xs:=bs) (enc:=zh) 3 (by omega) ?_
  rw [zyy (by have:=bs[0].toNat_lt;omega) (by have:=bs[1].toNat_lt;omega) (by have:=bs[2].toNat_lt;omega) (by have:=bs[3].toNat_lt;omega),<- zys hn]
  refine wp_lt ?_
  refine zd ?_
  exact ⟨rfl,rfl,hs⟩
theorem zq0 (x:Sl) (ps:List (Sl × List UInt8)) [hx:FocR l x 1 ((ps.map Prod.fst).flatMap z0c)] (hps:∀ p ∈ ps,FocR l p.1 1 (p.2.flatMap zh)/\p.2.length<=1000000000) (hpl:ps.length<=1000000) (hs:Sat w l) :
  Ret P F.a44 #[x.v] w λvs w'=>∃ z:Sl,vs=[z.v]/\Sat w' (slc T.a57 1 z ((z2i (ps.flatMap Prod.snd)).flatMap zh)::l) :=
 zu4 x <| by
  delta z07w AF AI AJ AP AS Aa Ab Ac Ag Ah Ax Ay BA Bl
  have hl:=hs.slen x (xs:=ps.map Prod.fst) (enc:=z0c)
  rw [List.length_map] at hl
  have hstep:∀ i (hi:i<ps.length),(ps.take (i+1)).flatMap Prod.snd=(ps.take i).flatMap Prod.snd++ps[i].2:=λi hi=>by
   rw [List.take_add_one,List.getElem?_eq_getElem hi,Option.toList_some,List.flatMap_append,List.flatMap_singleton]
  have hmany:∀ i,((ps.take i).flatMap Prod.snd).length<=(ps.flatMap Prod.snd).length:=λi=>by
   have:ps.flatMap Prod.snd=(ps.take i).flatMap Prod.snd++(ps.drop i).flatMap Prod.snd:=by rw [<- List.flatMap_append,List.take_append_drop]
   rw [this,List.length_append]
   omega
  refine zk (λu w'=>u=((((ps.flatMap Prod.snd).length:Nat):Int),())/\(ps.flatMap Prod.snd).length<=262144/\Sat w' l) ?_ ?_
  ·refine z09 (λk u w=>∃ i:Nat,u=(((((ps.take i).flatMap Prod.snd).length:Nat):Int),(i:Int),())/\i<=ps.length/\ps.length-i=k/\((ps.take i).flatMap Prod.snd).length<=262144/\Sat w l) ps.length ⟨0,rfl,by omega,rfl,by simp,hs⟩ ?_
   clear hs
   rintro k _ w ⟨i,rfl,hi,hk,hsm,hs⟩
   refine zj ?_
   refine zg (λhc=>?_) λhc=>?_
   rotate_left
   ·rw [List.take_of_length_le (by omega)] at hsm ⊢
    exact zn (zf ⟨rfl,hsm,hs⟩)
   have hil:i<ps.length:=by omega
   refine z1w hs (xs:=ps.map Prod.fst) (enc:=z0c) i (by rw [List.length_map];exact hil) ?_
   rw [List.getElem_map]
   obtain ⟨hF,hpb⟩:=hps _ (List.getElem_mem hil)
   have hpi:=hs.slen ps[i].1 (xs:=ps[i].2) (enc:=zh)
   have h1:=hmany (i+1)
   have h2:=congrArg List.length (hstep i hil)
   rw [List.length_append] at h2
   have e:IntKind.wrap .i64 (((((ps.take i).flatMap Prod.snd).length:Nat):Int)+((ps[i].1.len:Nat):Int))=((((ps.take (i+1)).flatMap Prod.snd).length:Nat):Int):=by rw [w64 (by omega) (by omega)];omega
   refine z7r e ?_
   refine zg (λhbig=>?_) λhbig=>?_
   ·refine zn (zn ⟨rfl,⟨none,0,0⟩,rfl,?_⟩)
    have:z2i (ps.flatMap Prod.snd)=[]:=by unfold z2i;rw [if_pos (by omega)]
    rw [this]
    exact hs.slc_nil
   refine z27 (us':=[.int .i64 ((((ps.take (i+1)).flatMap Prod.snd).length:Nat):Int),.int .i64 ((i+1:Nat):Int)]) (by (try simp (disch:=omega) only [w64]);first|rfl|(congr;omega)) ?_
   refine z0w (ps.length-(i+1)) ?_
   exact ⟨i+1,rfl,by omega,rfl,by omega,hs⟩
  clear hs
  rintro _ w ⟨rfl,hsm,hs⟩
  refine zj ?_
  have e8:IntKind.wrap .i64 ((((ps.flatMap Prod.snd).length:Nat):Int)+8)=(((ps.flatMap Prod.snd).length+8:Nat):Int):=by rw [w64 (by omega) (by omega)];omega
  rw [e8,zkd,Nat.mod_eq_of_lt (by omega)]
  refine zrd ((ps.flatMap Prod.snd).length+8) hs λz w' hs=>?_
  refine z8 (zpy (ps.flatMap Prod.snd).length (by omega) hs) λ_ _ hs=>?_
  obtain ⟨y,rfl,hs⟩:=hs
  refine zb ?_
  have hs:=hs.pick [1,0]
  refine wp_app' (xs:=[]) (ys:=z3l (ps.flatMap Prod.snd).length) (enc:=zh) hs (λz w' hs=>?_) (by simp [z63])
  rw [List.nil_append] at hs
  have hs:Sat w' (slc T.a57 1 z ((z3l (ps.flatMap Prod.snd).length).flatMap zh)::l):=hs.sub
  refine zk (λu w'=>∃ z:Sl,u=(z,())/\Sat w' (slc T.a57 1 z ((z34 (ps.flatMap Prod.snd)).flatMap zh)::l)) ?_ ?_
  ·refine z09 (λk u w=>∃ (i:Nat) (z:Sl),u=(z,(i:Int),())/\i<=ps.length/\ps.length-i=k/\Sat w (slc T.a57 1 z ((z3l (ps.flatMap Prod.snd).length++(ps.take i).flatMap Prod.snd).flatMap zh)::l)) ps.length ⟨0,z,rfl,by omega,rfl,?_⟩ ?_
   ·simpa using hs
   clear hs
   rintro k _ w ⟨i,z,rfl,hi,hk,hs⟩
   refine zj ?_
   refine zg (λhc=>?_) λhc=>?_
   rotate_left
   ·refine zn (zf ⟨z,rfl,?_⟩)
    rw [List.take_of_length_le (by omega)] at hs
    exact hs
   have hil:i<ps.length:=by omega
   refine z1w hs (xs:=ps.map Prod.fst) (enc:=z0c) i (by rw [List.length_map];exact hil) ?_
   rw [List.getElem_map]
   have hF:=(hps _ (List.getElem_mem hil)).1
   have h1:=hmany (i+1)
   rw [hstep i hil,List.length_append] at h1
   refine wp_app' (xs:=z3l (ps.flatMap Prod.snd).length++(ps.take i).flatMap Prod.snd) (ys:=ps[i].2) (enc:=zh) hs (λz w' hs=>?_) (by rw [List.length_append,z63];omega)
   rw [List.append_assoc,<- hstep i hil] at hs
   refine z27 (us':=[z.v,.int .i64 ((i+1:Nat):Int)]) (by (try simp (disch:=omega) only [w64]);first|rfl|(congr;omega)) ?_
   refine z0w (ps.length-(i+1)) ?_
   exact ⟨i+1,z,rfl,by omega,rfl,hs⟩
  clear hs
  rintro _ w ⟨z,rfl,hs⟩
  refine zj ?_
  have hhl:(z34 (ps.flatMap Prod.snd)).length=(ps.flatMap Prod.snd).length+4:=by unfold z34;rw [List.length_append,z63];omega
  have hsl:=zr3 (z34 (ps.flatMap Prod.snd))
  refine z6h hs (enc:=z0c) z λy w' hs=>?_
  refine z8 (zhn y z (z34 (ps.flatMap Prod.snd)) (by omega) hs) λ_ _ hs=>?_
  obtain ⟨rfl,hs⟩:=hs
  refine zb ?_
  refine z8 (zpy (z9x (z34 (ps.flatMap Prod.snd))) hsl hs) λ_ _ hs=>?_
  obtain ⟨u,rfl,hs⟩:=hs
  refine zb ?_
  have hs:=hs.pick [2,0,0]
  refine wp_app' (xs:=z34 (ps.flatMap Prod.snd)) (ys:=z3l (z9x (z34 (ps.flatMap Prod.snd)))) (enc:=zh) hs (λz w' hs=>?_) (by rw [z63];omega)
  have e:z2i (ps.flatMap Prod.snd)=z34 (ps.flatMap Prod.snd)++z3l (z9x (z34 (ps.flatMap Prod.snd))):=by unfold z2i;rw [if_neg (by omega)]
  rw [<- e] at hs
  exact ⟨rfl,z,rfl,hs.sub⟩
theorem zy7 (x y:Sl) (bs:List UInt8) [hx:FocR l x 1 ([y].flatMap z0c)] [hy:FocR l y 1 (bs.flatMap zh)] (hn:bs.length<=1000000000) (hs:Sat w l) :
  Ret P F.a44 #[x.v] w λvs w'=>∃ z:Sl,vs=[z.v]/\Sat w' (slc T.a57 1 z ((z2i bs).flatMap zh)::l):=by
 have:=@zq0 w l x [(y,bs)] hx (by intro p hp;rw [List.mem_singleton.1 hp];exact ⟨hy,hn⟩) (by simp) hs
 simpa using this
theorem zbp (x:Sl) (bs:List UInt8) [hx:FocR l x 1 (bs.flatMap zh)] (hcap:x.len<=x.cap) (hn:bs.length<=1000000000) (hs:Sat w l) :
  Ret P F.a41 #[x.v] w λvs w'=>∃ z:Sl,vs=[z.v,.int .i64 ((((z0x bs).getD ([],0)).2:Nat):Int),.bool (z0x bs).isSome]/\Sat w' (slc T.a57 1 z (((z0x bs).getD ([],0)).1.flatMap zh)::l) :=
 zu1 x <| by
  delta z07t AC AF AG AP Aa Ab Ac Ag Ah Ay BA BB Bc
  have hl:=hs.slen x (xs:=bs) (enc:=zh)
  have hno:∀ {w':World},z0x bs=none->Sat w' l->∃ z:Sl,[.slice none 0 0,.int .i64 0,.bool false]=[z.v,.int .i64 ((((z0x bs).getD ([],0)).2:Nat):Int),.bool (z0x bs).isSome]/\Sat w' (slc T.a57 1 z (((z0x bs).getD ([],0)).1.flatMap zh)::l):=λ{w'} h hs=>by
   rw [h];exact ⟨⟨none,0,0⟩,rfl,hs.slc_nil⟩
  refine zg (λh=>?_) λh=>?_
  ·exact ⟨rfl,hno (by unfold z0x;rw [if_pos (.inl (by omega))]) hs⟩
  refine z8 (zd4 x bs (by omega) hs) λ_ _ hs=>?_
  obtain ⟨rfl,hs⟩:=hs
  refine zb ?_
  have hf:=(zfj bs (by omega)).2
  refine wp_lt ?_
  have e1:IntKind.wrap .i64 ((z0g bs:Nat):Int)=((z0g bs:Nat):Int):=by rw [w64 (by omega) (by omega)]
  have e2:IntKind.wrap .i64 (((x.len:Nat):Int)-8)=((bs.length-8:Nat):Int):=by rw [w64 (by omega) (by omega)];omega
  have e3:IntKind.wrap .i64 (((z0g bs:Nat):Int)+4)=((z0g bs+4:Nat):Int):=by rw [w64 (by omega) (by omega)];omega
  rw [e1,e2,e3]
  refine zg (λh2=>?_) λh2=>?_
  ·exact ⟨rfl,hno (by unfold z0x;rw [if_pos (by omega)]) hs⟩
  refine wp_lt ?_
  rw [Int.toNat_natCast]
  have hle:z0g bs+8<=bs.length:=by omega
  have hF1:FocR l ⟨z12 x.a 1 (z0g bs+4) x.cap,x.len-(z0g bs+4),x.cap-(z0g bs+4)⟩ 1 ((bs.drop (z0g bs+4)).flatMap zh):=FocR.post hcap
  have hF2:FocR l ⟨x.a,z0g bs+4,x.cap⟩ 1 ((bs.take (z0g bs+4)).flatMap zh):=FocR.pre (by omega)
  have htl:(bs.take (z0g bs+4)).length<=1000000000:=by rw [List.length_take];omega
  have hdl:4<=(bs.drop (z0g bs+4)).length:=by rw [List.length_drop];omega
  refine zk (λu w'=>u=(decide (z0g (bs.drop (z0g bs+4))≠z9x (bs.take (z0g bs+4))),())/\Sat w' l) ?_ ?_
  ·have hbeq:∀ a b:Nat,(((a:Int) != (b:Int)):Bool)=decide (a≠b):=λa b=>by
    rw [Bool.eq_iff_iff];simp;omega
   refine zw hs λw' hs=>?_
   refine wp_must ⟨by omega,show ((z0g bs+4:Nat):Int)<=((x.len:Nat):Int) by omega⟩ ?_
   refine wp_must ⟨by omega,show ((z0g bs+4:Nat):Int)<=((x.cap:Nat):Int) by omega⟩ ?_
   refine zi6 ?_ ?_
   ·refine z8 (zd4 ⟨z12 x.a 1 (z0g bs+4) x.cap,x.len-(z0g bs+4),x.cap-(z0g bs+4)⟩ (bs.drop (z0g bs+4)) hdl hs) λ_ _ hs=>?_
    obtain ⟨rfl,hs⟩:=hs
    refine zb ?_
    refine z6h hs (enc:=z0c) ⟨x.a,z0g bs+4,x.cap⟩ λy w' hs=>?_
    refine z8 (zhn y ⟨x.a,z0g bs+4,x.cap⟩ (bs.take (z0g bs+4)) htl hs) λ_ _ hs=>?_
    obtain ⟨rfl,hs⟩:=hs
    refine zb ?_
    refine zd ?_
    exact zf ⟨by rw [hbeq],hs.tail⟩
   ·refine z6h hs (enc:=z0c) ⟨x.a,z0g bs+4,x.cap⟩ λy w' hs=>?_
    refine z8 (zd4 ⟨z12 x.a 1 (z0g bs+4) x.cap,x.len-(z0g bs+4),x.cap-(z0g bs+4)⟩ (bs.drop (z0g bs+4)) hdl hs) λ_ _ hs=>?_
    obtain ⟨rfl,hs⟩:=hs
    refine zb ?_
    refine z8 (zhn y ⟨x.a,z0g bs+4,x.cap⟩ (bs.take (z0g bs+4)) htl hs) λ_ _ hs=>?_
    obtain ⟨rfl,hs⟩:=hs
    refine zb ?_
    refine zd ?_
    exact zf ⟨by rw [hbeq],hs.tail⟩
  clear hs
  rintro _ w ⟨rfl,hs⟩
  refine zj ?_
  refine zg (λh3=>?_) λh3=>?_
  ·exact ⟨rfl,hno (by unfold z0x;rw [if_neg (by omega),if_neg h3]) hs⟩
  have h3:z0g (bs.drop (z0g bs+4))=z9x (bs.take (z0g bs+4)):=Decidable.not_not.1 h3
  have hsome:z0x bs=some ((bs.drop 4).take (z0g bs),z0g bs+8):=by unfold z0x;rw [if_neg (by omega),if_pos h3]
  rw [hsome]
  refine wp_must ⟨by omega,by omega,show ((z0g bs+4:Nat):Int)<=((x.cap:Nat):Int) by omega⟩ ?_
  have hF3:FocR l ⟨z12 x.a 1 4 x.cap,x.len-4,x.cap-4⟩ 1 ((bs.drop 4).flatMap zh):=FocR.post hcap
  have hF4:FocR l ⟨z12 x.a 1 4 x.cap,z0g bs+4-4,x.cap-4⟩ 1 (((bs.drop 4).take (z0g bs+4-4)).flatMap zh):=FocR.pre (x:=⟨z12 x.a 1 4 x.cap,x.len-4,x.cap-4⟩) (by rw [List.length_drop];omega)
  refine z8 (zko ⟨z12 x.a 1 4 x.cap,z0g bs+4-4,x.cap-4⟩ ((bs.drop 4).take (z0g bs+4-4)) (by rw [List.length_take];omega) hs) λ_ _ hs=>?_
  obtain ⟨z,rfl,hs⟩:=hs
  refine zb ?_
  refine z1u (y:=((z0g bs+8:Nat):Int)) ?_ (by rw [w64 (by omega) (by omega)];omega)
  exact ⟨rfl,z,rfl,hs⟩
def zk4 (bs:List UInt8):Option (List UInt8):=match z0x bs with
 | some (body,n)=>if n=bs.length then some body else none
 | none=>none
end
section
variable {w:World} {l r:List HP} {p:Nat} {s:Lf}
theorem zr1 {R:RdM} (hb:R.at_<=R.bs.length) (he:R.e=0) (h:R.bs.length-R.at_=0):stR R=some []:=by
 rw [z7p he]
 unfold z4s
 rw [List.drop_eq_nil_of_le (by omega)]
theorem zmg {R:RdM} (he:R.e=0) (h:R.at_<R.bs.length):stR R=some (R.bs[R.at_]::R.bs.drop (R.at_+1)):=by
 rw [z7p he]
 unfold z4s
 rw [List.drop_eq_getElem_cons h]
theorem zfi {x:Sl} {bs:List UInt8} {n k:Nat} (hcap:x.len<=x.cap) (hk:n+k<=bs.length) [hf:FocR l x 1 (bs.flatMap zh)]:FocR l ⟨z12 x.a 1 n x.cap,k,x.cap-n⟩ 1 (((bs.drop n).take k).flatMap zh):=by
 have h:FocR l ⟨z12 x.a 1 n x.cap,x.len-n,x.cap-n⟩ 1 ((bs.drop n).flatMap zh):=FocR.post hcap
 exact FocR.pre (x:=⟨z12 x.a 1 n x.cap,x.len-n,x.cap-n⟩) (by rw [List.length_drop];omega)
theorem zhk [hf:Fo l (rdS T.a59) p s r] (hs:Sat w l):Ret P F.a200 #[.pointer (some ⟨p,0,none⟩)] w λvs w'=>vs=[.int .i64 ((z0u s).1:Int)]/\Sat w' (rdS T.a59 p (z0u s).2::r) :=
 zp7 _ <| by
  delta z02o AF AM AY Aa Ab Ac Ad Ag Ah Ai Aj Am An Ay
  obtain ⟨R,rfl,hs⟩:=z74 (hs.perm hf.perm)
  have hb:=z6b hs
  refine z8 (zd6 (p:=p) hs) λ_ _ hs=>?_
  obtain ⟨rfl,hs⟩:=hs
  refine zb ?_
  refine zg (λh=>?_) λh=>?_
  ·have h:R.e≠0:=by simpa using h
   rw [z6u h]
   exact ⟨rfl,rfl,z2b (z6u h) hs⟩
  have h:R.e=0:=by simpa using h
  refine zi ?_
  refine z8 (zdc (p:=p) hs) λ_ _ hs=>?_
  obtain ⟨rfl,hs⟩:=hs
  refine zb ?_
  refine zg (λh2=>?_) λh2=>?_
  ·refine zi ?_
   refine z8 (z7d (p:=p) 6 hs) λ_ _ hs=>?_
   obtain ⟨rfl,hs⟩:=hs
   refine zb ?_
   rw [zr1 hb.1 h (by omega)]
   exact ⟨rfl,rfl,z2b (if_neg (by show ¬ (if R.e=0 then (6:Int) else R.e)=0;rw [if_pos h];decide)) hs⟩
  have hlt:R.at_<R.bs.length:=by omega
  rw [zmg h hlt]
  obtain ⟨x,-,hs⟩:=z1x hs
  have hl:=hs.slen x (xs:=R.bs) (enc:=zh)
  have hcap:x.len<=x.cap:=(hs.pick [1]).slc_cap
  refine zi ?_
  refine z8 (zi0 (p:=p) 1 (x:=x) (bs:=R.bs) (at_:=R.at_) (e:=R.e) (by omega) hb.2 hcap hs) λ_ w' hs=>?_
  obtain ⟨rfl,hs⟩:=hs
  refine zb ?_
  refine z87 (hf:=zfi hcap (by omega)) hs (xs:=(R.bs.drop R.at_).take 1) (enc:=zh) 0 (by rw [List.length_take,List.length_drop];omega) ?_ rfl rfl
  have hg:((R.bs.drop R.at_).take 1)[0]'(by rw [List.length_take,List.length_drop];omega)=R.bs[R.at_]:=by simp
  rw [hg]
  have hc:=(R.bs[R.at_]).toNat_lt
  refine z1u (y:=((R.bs[R.at_]).toNat:Int)) ?_ (by rw [w64 (by omega) (by omega)])
  refine ⟨rfl,rfl,z2b (R:=⟨R.bs,R.at_+1,R.e⟩) ?_ (z0t ⟨R.bs,R.at_+1,R.e⟩ ⟨by show R.at_+1<=R.bs.length;omega,hb.2⟩ hs)⟩
  rw [z7p (R:=⟨R.bs,R.at_+1,R.e⟩) h]
  rfl
end
section
variable {w:World} {l r:List HP} {p:Nat} {s:Lf}
theorem z06w {P:Program} {t tx ty el:TypeId} {bytes:Nat} {xs:List UInt8} {t0:ByteArray} {x:Sl} {k:Sl->Prog} {Q:Post} {S:World->Prop} (hs:Sat w l) [ht:SlT P t el 1 bytes] [hst:StT P tx] [hf:FocS l x el 1 (xs.flatMap zh) r]
  (h:∀ z w',Sat w' (slc el 1 z ((xs++bl t0).flatMap zh)::r)->(k z).wp P S w' Q) (hb:(xs.length+t0.size)*bytes<=140737488355328/\xs.length+t0.size<=9223372036854775807) (hS:∀ w',S w':=by exact λ_=>trivial) :
  (Prog.act (app t tx ty (.slice x.a x.len x.cap) (.string t0)) sL (u1 k)).wp P S w Q:=by
 have h1:x.len=xs.length:=(hs.focS x).rd.len (enc:=zh) (λ_=>rfl) (by decide)
 obtain ⟨i,z,hi,h2,rfl,hz,hzs⟩:=ht.parts
 have hsrc:Src P i.size tx (.string t0) t0.size (byteCells t0) w:=by rw [h2];exact Src.ofString w hst.ok t0
 have hs':=hs.focS x
 rw [<- h2] at hs'
 obtain ⟨z,w',hrun,hlen,hs',_⟩:=zkk (ty:=ty) ht.ok.1 hi hz hzs hs' hsrc (by rw [h1];exact hb.1) (by rw [h1];exact hb.2)
 refine ⟨(z,()),w',hrun,hS _,h z w' ?_⟩
 rw [h2] at hs'
 rw [List.flatMap_append,za9 (bl t0)]
 exact hs'
theorem zrg (t:ByteArray) (ht:t.size<=1000000000) (hs:Sat w l):Ret P F.a209 #[.string t] w λvs w'=>∃ z:Sl,vs=[z.v]/\Sat w' (slc T.a57 1 z ((uI (t.size:Nat)++bl t).flatMap zh)::l) :=
 zpg t <| by
  delta z02x AP Ab Ay
  refine z8 (z3j ((t.size:Nat):Int) (by omega) hs) λ_ w' hs=>?_
  obtain ⟨x,rfl,hs⟩:=hs
  refine zb ?_
  have hl:=hs.slen x
  have hul:=z11 ((t.size:Nat):Int)
  refine z06w (t0:=t) (xs:=uI (t.size:Nat)) hs (λz w' hs=>?_) (by omega)
  exact ⟨rfl,z,rfl,hs⟩
theorem z03h [hf:Fo l (rdS T.a59) p s r] (hs:Sat w l):Ret P F.a203 #[.pointer (some ⟨p,0,none⟩)] w λvs w'=>vs=[.bool (z4e s).1]/\Sat w' (rdS T.a59 p (z4e s).2::r) :=
 zpa _ <| by
  delta z02r AC AG AM AX AY Aa Ab Ac Ad Ag Ai Aj Am An Ao Ap Ay B0 Bz
  obtain ⟨R,rfl,hs⟩:=z74 (hs.perm hf.perm)
  have hb:=z6b hs
  refine z8 (zd6 (p:=p) hs) λ_ _ hs=>?_
  obtain ⟨rfl,hs⟩:=hs
  refine zb ?_
  refine zg (λh=>?_) λh=>?_
  ·have h:R.e≠0:=by simpa using h
   rw [z6u h]
   exact ⟨rfl,rfl,z2b (z6u h) hs⟩
  have h:R.e=0:=by simpa using h
  refine zw hs λw' hs=>?_
  refine zi ?_
  refine z8 (zdc (p:=p) hs) λ_ _ hs=>?_
  obtain ⟨rfl,hs⟩:=hs
  refine zb ?_
  obtain ⟨x,-,hs⟩:=z1x hs
  have hl:=hs.slen x (xs:=R.bs) (enc:=zh)
  have hcap:x.len<=x.cap:=(hs.pick [1]).slc_cap
  refine z0j ?_
  refine za hs ?_
  refine z0j ?_
  refine za hs ?_
  by_cases h2:R.bs.length-R.at_=0
  ·refine zbh hs (xs:=R.bs) (enc:=zh) (0:Int) (λhg=>absurd hg (by rw [h2];simp)) ?_
   refine zd ?_
   refine z0o ?_ (by rw [h2];exact .inl rfl)
   refine zi ?_
   have hs:=z0t R hb hs
   refine z8 (z7d (p:=p) 6 hs) λ_ _ hs=>?_
   obtain ⟨rfl,hs⟩:=hs
   refine zb ?_
   rw [zr1 hb.1 h h2]
   exact ⟨rfl,rfl,z2b (if_neg (by show ¬ (if R.e=0 then (6:Int) else R.e)=0;rw [if_pos h];decide)) hs⟩
  ·have hlt:R.at_<R.bs.length:=by omega
   refine zbh hs (xs:=R.bs) (enc:=zh) (((R.bs[R.at_]).toNat:Nat):Int) (λ_=>⟨R.at_,hlt,rfl,rfl⟩) ?_
   refine zd ?_
   rw [zmg h hlt]
   have hc:=(R.bs[R.at_]).toNat_lt
   unfold z4e
   simp only
   refine zg (λh3=>?_) λh3=>?_
   ·rw [if_neg (by omega)]
    refine zi ?_
    have hs:=z0t R hb hs
    refine z8 (z7d (p:=p) 6 hs) λ_ _ hs=>?_
    obtain ⟨rfl,hs⟩:=hs
    refine zb ?_
    exact ⟨rfl,rfl,z2b (if_neg (by show ¬ (if R.e=0 then (6:Int) else R.e)=0;rw [if_pos h];decide)) hs⟩
   ·rw [if_pos (by omega)]
    refine zi ?_
    refine z8 (zi0 (p:=p) 1 (x:=x) (bs:=R.bs) (at_:=R.at_) (e:=R.e) (by omega) hb.2 hcap hs) λ_ w' hs=>?_
    obtain ⟨rfl,hs⟩:=hs
    refine zb ?_
    refine z87 (hf:=zfi hcap (by omega)) hs (xs:=(R.bs.drop R.at_).take 1) (enc:=zh) 0 (by rw [List.length_take,List.length_drop];omega) ?_ rfl rfl
    have hg:((R.bs.drop R.at_).take 1)[0]'(by rw [List.length_take,List.length_drop];omega)=R.bs[R.at_]:=by simp
    rw [hg]
    refine wp_lt ?_
    have e:((((R.bs[R.at_]).toNat:Nat):Int) == 1)=decide ((R.bs[R.at_]).toNat=1):=by
     rw [Bool.eq_iff_iff];simp;omega
    rw [e]
    refine ⟨rfl,rfl,z2b (R:=⟨R.bs,R.at_+1,R.e⟩) ?_ (z0t ⟨R.bs,R.at_+1,R.e⟩ ⟨by show R.at_+1<=R.bs.length;omega,hb.2⟩ hs)⟩
    rw [z7p (R:=⟨R.bs,R.at_+1,R.e⟩) h]
    rfl
theorem zr7 (most:Nat) (hm:most<=1000000000) [hf:Fo l (rdS T.a59) p s r] (hs:Sat w l):Ret P F.a205 #[.pointer (some ⟨p,0,none⟩),.int .i64 (most:Nat)] w λvs w'=>vs=[.string (z1h most s).1]/\Sat w' (rdS T.a59 p (z1h most s).2::r) :=
 zpc _ _ <| by
  delta z02t AB AD AE AF AM AR AU Aa Ab Ac Ad Ah Ai Aj Am An Ao Ay Az B2 Bj
  obtain ⟨R,rfl,hs⟩:=z74 (hs.perm hf.perm)
  have hb:=z6b hs
  refine z8 (zd6 (p:=p) hs) λ_ _ hs=>?_
  obtain ⟨rfl,hs⟩:=hs
  refine zb ?_
  refine zg (λh=>?_) λh=>?_
  ·have h:R.e≠0:=by simpa using h
   rw [z6u h]
   exact ⟨rfl,rfl,z2b (z6u h) hs⟩
  have h:R.e=0:=by simpa using h
  refine zi ?_
  obtain ⟨x,-,hs⟩:=z1x hs
  refine za hs ?_
  refine wp_lt ?_
  refine zi ?_
  have hs:=z0t R hb hs
  refine z8 (zqr (p:=p) h hs) λ_ _ hs=>?_
  obtain ⟨rfl,hs⟩:=hs
  refine zb ?_
  refine wp_lt ?_
  refine zi ?_
  have hst:=z84 (R:=R)
  have hbs:=zr8 R
  generalize hU:R.uint=U at *
  obtain ⟨v,R'⟩:=U
  have hs:Sat _ (rdP T.a59 p R'::r):=hs
  have hbs:R'.bs=R.bs:=hbs
  have hb':=z6b hs
  obtain ⟨y,-,hs⟩:=z1x hs
  have hl:=hs.slen y (xs:=R'.bs) (enc:=zh)
  have hcap:y.len<=y.cap:=(hs.pick [1]).slc_cap
  refine za hs ?_
  refine wp_lt ?_
  have hend':∀ {w':World} {e:Int} {y:Sl},e≠0->Sat w' (pt p (.cells #[.slice y.a y.len y.cap,.int .i64 R'.at_,.int .i64 e] T.a59)::slc T.a57 1 y (R'.bs.flatMap zh)::r) ->
    (z1h most (stR R)).2=none->(z1h most (stR R)).1=⟨#[]⟩ ->
    (Prog.ex [.adr] (c1 λa27=>some ((⟨p,0,none⟩:Addr))=some a27) (u1 λa28=>.actU (st T.a13 (Addr.add (Addr.add a28 0) 1) (.int .i64 (R.at_:Int))) <| .done 0 [.string (ByteArray.mk #[])])).wp P (λ_=>True) w' λe vs w'=>e=0/\vs=[.string (z1h most (stR R)).1]/\Sat w' (rdS T.a59 p (z1h most (stR R)).2::r):=by
   intro w' e y he hs h1 h2
   refine zi ?_
   refine z02 hs λw' hs=>?_
   rw [h1,h2]
   refine ⟨rfl,rfl,z2b (R:=⟨R'.bs,R.at_,e⟩) (z6u he) (z0t ⟨R'.bs,R.at_,e⟩ ⟨by rw [hbs];exact hb.1,hb'.2⟩ hs)⟩
  refine z4b ?_
  refine zg (λhe=>?_) λhe=>?_
  ·have he:R'.e≠0:=by simpa using he
   refine z52 ?_
   have h1:(zv (stR R)).2=none:=by rw [<- hst.2];exact z6u he
   refine hend' he hs (by unfold z1h;rw [h1]) (by unfold z1h;rw [h1])
  ·have he:R'.e=0:=by simpa using he
   have h1:(zv (stR R)).2=some (z4s R'):=by rw [<- hst.2];exact z7p he
   have hv:=z4p h1
   have h0:(zv (stR R)).1=v:=hst.1.symm
   have hlen:(z4s R').length=R'.bs.length-R'.at_:=zm3
   have ew:IntKind.wrap .u64 (if 0>((most:Nat):Int) then 0 else ((most:Nat):Int))=((most:Nat):Int):=by
    rw [if_neg (by omega),zi8 (by omega) (by omega)]
   rw [ew]
   refine wp_lt ?_
   refine z4b ?_
   refine zg (λh3=>?_) λh3=>?_
   ·refine zi ?_
    have hs:=z0t R' hb' hs
    refine z8 (z7d (p:=p) 7 hs) λ_ _ hs=>?_
    obtain ⟨rfl,hs⟩:=hs
    refine zb ?_
    refine z52 ?_
    refine z52 ?_
    obtain ⟨y2,-,hs⟩:=z1x hs
    refine hend' (e:=(R'.fail 7).e) ?_ hs ?_ ?_
    ·show (if R'.e=0 then (7:Int) else R'.e)≠0
     rw [if_pos he];decide
    ·unfold z1h;rw [h1];simp only;rw [h0,if_neg (by omega)]
    ·unfold z1h;rw [h1];simp only;rw [h0,if_neg (by omega)]
   ·refine zi ?_
    have hs:=z0t R' hb' hs
    refine z8 (zdc (p:=p) hs) λ_ _ hs=>?_
    obtain ⟨rfl,hs⟩:=hs
    refine zb ?_
    have eu:IntKind.wrap .u64 ((R'.bs.length-R'.at_:Nat):Int)=((R'.bs.length-R'.at_:Nat):Int):=zi8 (by omega) (by omega)
    rw [eu]
    refine wp_lt ?_
    refine zg (λh4=>?_) λh4=>?_
    ·refine zi ?_
     refine z8 (z7d (p:=p) 6 hs) λ_ _ hs=>?_
     obtain ⟨rfl,hs⟩:=hs
     refine zb ?_
     refine z52 ?_
     refine z52 ?_
     obtain ⟨y2,-,hs⟩:=z1x hs
     refine hend' (e:=(R'.fail 6).e) ?_ hs ?_ ?_
     ·show (if R'.e=0 then (6:Int) else R'.e)≠0
      rw [if_pos he];decide
     ·unfold z1h;rw [h1];simp only;rw [h0,if_neg (by omega)]
     ·unfold z1h;rw [h1];simp only;rw [h0,if_neg (by omega)]
    ·refine zi ?_
     rw [w64 (by omega) (by omega)]
     obtain ⟨y2,-,hs⟩:=z1x hs
     have hcap2:y2.len<=y2.cap:=(hs.pick [1]).slc_cap
     refine z8 (zi0 (p:=p) v (x:=y2) (bs:=R'.bs) (at_:=R'.at_) (e:=R'.e) (by omega) hb'.2 hcap2 hs) λ_ w' hs=>?_
     obtain ⟨rfl,hs⟩:=hs
     refine zb ?_
     refine zmr (hf:=zfi hcap2 (by omega)) (bs:=(R'.bs.drop R'.at_).take v) hs ?_
     refine wp_lt ?_
     have e1:z1h most (stR R)=(⟨((z4s R').take v).toArray⟩,some ((z4s R').drop v)):=by
      unfold z1h;rw [h1];simp only;rw [h0,if_pos ⟨by omega,by omega⟩]
     rw [e1]
     refine zn (zn ⟨rfl,rfl,z2b (R:=⟨R'.bs,R'.at_+v,R'.e⟩) ?_ (z0t ⟨R'.bs,R'.at_+v,R'.e⟩ ⟨by show R'.at_+v<=R'.bs.length;omega,hb'.2⟩ hs)⟩)
     rw [z7p (R:=⟨R'.bs,R'.at_+v,R'.e⟩) he]
     unfold z4s
     rw [List.drop_drop]
end
section
variable {w:World} {l r:List HP} {p:Nat} {s:Lf}
theorem za2 (most:Int) (hm:0<=most/\most<9223372036854775807) [hf:Fo l (rdS T.a59) p s r] (hs:Sat w l):Ret P F.a118 #[.pointer (some ⟨p,0,none⟩),.int .i64 most] w λvs w'=>vs=[.int .i64 (z01 most s).1]/\Sat w' (rdS T.a59 p (z01 most s).2::r) :=
 zns _ most <| by
  delta z019 AF AU Aa Ab Ac Ad Ah Bj;unfold z01
  refine z8 (z9g (p:=p) hs) λ_ _ hs=>?_
  obtain ⟨rfl,hs⟩:=hs
  refine zb ?_
  refine wp_lt ?_
  have e:IntKind.wrap .u64 most=most:=by rw [z89];omega
  rw [e]
  refine zg (λh=>?_) λh=>?_
  ·refine z1u (y:=most+1) ?_ (by rw [w64 (by omega) (by omega)])
   rw [if_pos h]
   exact ⟨rfl,rfl,hs⟩
  ·refine z1u (y:=((zv s).1:Int)) ?_ (by rw [w64 (by omega) (by omega)])
   rw [if_neg h]
   exact ⟨rfl,rfl,hs⟩
theorem zpn (a b:ByteArray) (ha:a.size<=1000000000) (hs:Sat w l):Ret P F.a111 #[.string a,.string b] w λvs w'=>vs=[.int .i64 (z0k (bl a) (bl b):Nat)]/\Sat w' l :=
 znl a b <| by
  delta z012 AB AC AF AG AO Aa Ab Ac Ah
  refine z1u (y:=((min a.size b.size:Nat):Int)) ?_ (by split <;> omega)
  refine zk (λ_ w'=>(bl a).take (min a.size b.size)=(bl b).take (min a.size b.size)/\Sat w' l) ?_ ?_
  rotate_left
  ·rintro _ w' ⟨ht,hs⟩
   refine zj ?_
   refine wp_lt ?_
   refine ⟨rfl,?_,hs⟩
   rw [zcq (i:=min a.size b.size) (by rw [z1f];omega) (by rw [z1f];omega) ht (by rw [z1f,z1f];omega)]
  refine z09 (λk v w=>∃ i:Nat,v=((i:Int),())/\i<=min a.size b.size/\min a.size b.size-i=k/\(bl a).take i=(bl b).take i/\Sat w l) (min a.size b.size) ⟨0,rfl,by omega,rfl,rfl,hs⟩ ?_
  clear hs
  rintro k _ w ⟨i,rfl,hi,hk,ht,hs⟩
  refine zj ?_
  refine zg (λhc=>?_) λhc=>?_
  rotate_left
  ·refine zn (zf ⟨?_,hs⟩)
   have:i=min a.size b.size:=by omega
   rwa [this] at ht
  have h1:i<(bl a).length:=by rw [z1f];omega
  have h2:i<(bl b).length:=by rw [z1f];omega
  refine wp_lt ?_
  refine zw hs λw' hs=>?_
  refine wp_must (by omega) ?_
  refine wp_must (by omega) ?_
  refine zd ?_
  have hb:∀ (c:ByteArray) (h:i<(bl c).length),bt c (i:Int)=(((bl c)[i]).toNat:Int):=λc h=>by
   unfold bt
   rw [Int.toNat_natCast,List.getD_eq_getElem?_getD,List.getElem?_eq_getElem h];rfl
  rw [hb a h1,hb b h2]
  refine zg (λhd=>?_) λhd=>?_
  ·refine wp_lt ?_
   refine zn (zn ⟨rfl,?_,hs⟩)
   have hne:(bl a)[i]≠(bl b)[i]:=λe=>by rw [e] at hd;simp at hd
   rw [zcq (i:=i) (by omega) (by omega) ht (.inr (.inr (by rw [List.getElem?_eq_getElem h1,List.getElem?_eq_getElem h2];simpa using hne)))]
  ·have he:(bl a)[i]=(bl b)[i]:=by
    apply UInt8.toNat_inj.1
    have:(((bl a)[i]).toNat:Int)=(((bl b)[i]).toNat:Int):=by simpa using hd
    omega
   refine z27 (us':=[.int .i64 ((i+1:Nat):Int)]) (by (try simp (disch:=omega) only [w64]);first|rfl|(congr;omega)) ?_
   refine z0w (min a.size b.size-(i+1)) ?_
   exact ⟨i+1,rfl,by omega,rfl,by rw [List.take_succ_eq_append_getElem h1,List.take_succ_eq_append_getElem h2,ht,he],hs⟩
end
theorem zsz {lo hi:Int} (h:lo<=0/\0<=hi) (s:Lf):lo<=(z1i lo hi s).1/\(z1i lo hi s).1<=hi:=by
 unfold z1i
 split
 ·exact h
 ·split
  ·exact h
  ·simp only;omega
theorem zg6 {most:Int} (h:0<=most) (s:Lf):0<=(z01 most s).1/\(z01 most s).1<=most+1:=by
 unfold z01
 simp only
 split <;> omega
theorem zzw (most:Nat) (s:Lf):(z1h most s).1.size<=most:=by
 unfold z1h
 split
 ·show 0<=most;omega
 ·split
  ·rename_i h
   show (List.take _ _).length<=most
   rw [List.length_take];omega
  ·show 0<=most;omega
section
variable {w:World} {l r:List HP} {p:Nat} {s:Lf}
theorem z04g (time:Int) (ht:0<=time/\time<=1099511627776) (ahead:ByteArray) (ha:ahead.size<=100000) [hf:Fo l (rdS T.a59) p s r] (hs:Sat w l) :
  Ret P F.a116 #[.pointer (some ⟨p,0,none⟩),.int .i64 time,.string ahead] w λvs w'=>∃ x:RecM,vs=[.agg (z00 x).toArray,.bool (z3c time ahead s).1.isSome]/\(∀ y,(z3c time ahead s).1=some y->x=y)/\x.key.size<=2100/\Sat w' (rdS T.a59 p (z3c time ahead s).2::r) :=
 znq _ _ _ <| by
  delta z017 AA AB AC AE AF AG AM AR Aa Ab Ac Ad Ah Ai Ao Ar Au Bc Bh Bp Bq Bu
  refine zm hs λa0 w' hs=>?_
  have hbd:=zsz (lo := -1099511627776) (hi:=1099511627776) (by decide) s
  refine z8 (zx9 (p:=p) (-1099511627776) 1099511627776 hs) λ_ _ hs=>?_
  obtain ⟨rfl,hs⟩:=hs
  refine zb ?_
  refine wp_lt ?_
  refine z8 (z03h (p:=p) hs) λ_ _ hs=>?_
  obtain ⟨rfl,hs⟩:=hs
  refine zb ?_
  refine zm hs λa4 w' hs=>?_
  rw [w64 (by omega) (by omega)]
  refine zl hs λw' hs=>?_
  refine z8 (za2 (p:=p) 1024 (by omega) hs) λ_ _ hs=>?_
  obtain ⟨rfl,hs⟩:=hs
  refine zb ?_
  refine wp_lt ?_
  refine z8 (zr7 (p:=p) 1024 (by omega) hs) λ_ _ hs=>?_
  obtain ⟨rfl,hs⟩:=hs
  refine zb ?_
  refine wp_lt ?_
  have hR:z3c time ahead s=if (z01 1024 (z4e (z1i (-1099511627776) 1099511627776 s).2).2).1>ahead.size then (none,(z1h 1024 (z01 1024 (z4e (z1i (-1099511627776) 1099511627776 s).2).2).2).2) else
   let a:=z1i (-1099511627776) 1099511627776 s
   let b:=z4e a.2
   let c:=z01 1024 b.2
   let d:=z1h 1024 c.2
   let e:=if b.1 then (⟨#[]⟩,d.2) else z1h 1024 d.2
   if e.2.isSome=true/\(z0k (bl ahead) (bl (z57 ahead c.1 d.1)):Int)=c.1 then (some ⟨z57 ahead c.1 d.1,e.1,b.1,time+a.1⟩,e.2) else (none,e.2):=rfl
  simp only at hR
  have hcb:=zg6 (most:=1024) (by decide) (z4e (z1i (-1099511627776) 1099511627776 s).2).2
  have hdb:=zzw 1024 (z01 1024 (z4e (z1i (-1099511627776) 1099511627776 s).2).2).2
  generalize z3c time ahead s=RR at *
  generalize z1i (-1099511627776) 1099511627776 s=a at *
  generalize z4e a.2=b at *
  generalize z01 1024 b.2=c at *
  generalize z1h 1024 c.2=d at *
  refine zg (λh=>?_) λh=>?_
  ·rw [if_pos h] at hR
   subst hR
   refine ze hs ?_
   refine zl hs λw' hs=>?_
   refine ze hs ?_
   exact ⟨rfl,⟨⟨#[]⟩,⟨#[]⟩,b.1,time+a.1⟩,rfl,(λy hy=>by cases hy),by show 0<=2100;omega,hs.sub⟩
  rw [if_neg h] at hR
  refine wp_must (by omega) ?_
  have hks:(ByteArray.extract ahead 0 (Int.toNat c.1)).size<=1025:=by
   rw [ByteArray.size_extract];omega
  refine wp_must (by omega) ?_
  refine z02 hs λw' hs=>?_
  have ek:ByteArray.extract ahead 0 (Int.toNat c.1)++d.1=z57 ahead c.1 d.1:=rfl
  rw [ek] at hs
  refine za hs ?_
  have hkey:(z57 ahead c.1 d.1).size<=2100:=by
   unfold z57
   rw [ByteArray.size_append]
   omega
  refine zk (λ_ w'=>Sat w' (pt a4 (.cells #[.string (z57 ahead c.1 d.1),.string (if b.1=true then ((⟨#[]⟩:ByteArray),d.2) else z1h 1024 d.2).1,.bool b.1,.int .i64 (time+a.1)] T.a2)::rdS T.a59 p (if b.1=true then ((⟨#[]⟩:ByteArray),d.2) else z1h 1024 d.2).2::pt a0 (.cells #[.string ⟨#[]⟩,.string ⟨#[]⟩,.bool false,.int .i64 0] T.a2)::r)) ?_ ?_
  ·refine zg (λh2=>?_) λh2=>?_
   ·have h2:b.1=false:=by simpa using h2
    refine z8 (zr7 (p:=p) 1024 (by omega) hs) λ_ _ hs=>?_
    obtain ⟨rfl,hs⟩:=hs
    refine zb ?_
    refine z02 hs λw' hs=>?_
    refine zf ?_
    rw [if_neg (by rw [h2];simp)]
    exact hs.sub
   ·have h2:b.1=true:=by simpa using h2
    refine zf ?_
    rw [if_pos h2]
    dsimp only
    exact hs.sub
  rintro _ w1 hs
  generalize (if b.1=true then ((⟨#[]⟩:ByteArray),d.2) else z1h 1024 d.2)=e at *
  refine zk (λq w'=>q=(RR.1.isSome,())/\Sat w' (pt a0 (.cells #[.string (z57 ahead c.1 d.1),.string e.1,.bool b.1,.int .i64 (time+a.1)] T.a2)::rdS T.a59 p e.2::r)) ?_ ?_
  ·refine zw hs λw' hs=>?_
   refine zbg hs ?_
   refine z8 (zvw (p:=p) hs) λ_ _ hs=>?_
   obtain ⟨er,rfl,her,hs⟩:=hs
   refine zb ?_ (by first|trivial|(repeat (first|exact trivial|exact λ_=>z05 hs|exact λ_=>z0b hs|refine And.intro ?_ ?_)))
   refine za hs ?_
   refine zg (λh2=>?_) λh2=>?_
   ·have h2:e.2.isSome=true:=her.1 (by simpa using h2)
    refine z8 (zpn ahead (z57 ahead c.1 d.1) (by omega) hs) λ_ _ hs=>?_
    obtain ⟨rfl,hs⟩:=hs
    refine zb ?_ (by first|trivial|(repeat (first|exact trivial|exact λ_=>z05 hs|exact λ_=>z0b hs|refine And.intro ?_ ?_)))
    refine zd ?_
    refine zl hs λw' hs=>?_
    refine wp_lt ?_
    refine zd ?_
    refine zf ⟨?_,hs.sub⟩
    have e3:(((z0k (bl ahead) (bl (z57 ahead c.1 d.1)):Nat):Int) == c.1)=RR.1.isSome:=by
     rw [hR]
     by_cases h3:((z0k (bl ahead) (bl (z57 ahead c.1 d.1)):Nat):Int)=c.1
     ·rw [if_pos ⟨h2,h3⟩];simpa using h3
     ·rw [if_neg λh=>h3 h.2];simpa using h3
    rw [e3]
   ·have h2:¬ e.2.isSome=true:=λh=>h2 (by simpa using her.2 h)
    refine zd ?_
    refine zl hs λw' hs=>?_
    refine zd ?_
    refine zf ⟨?_,hs.sub⟩
    rw [hR,if_neg λh=>h2 h.1]
    rfl
  rintro _ w1 ⟨rfl,hs⟩
  refine ze hs ?_
  refine ⟨rfl,⟨z57 ahead c.1 d.1,e.1,b.1,time+a.1⟩,rfl,λy hy=>?_,hkey,?_⟩
  ·rw [hR] at hy
   split at hy
   ·simpa using hy
   ·cases hy
  ·have e4:RR.2=e.2:=by rw [hR];split <;> rfl
   rw [e4]
   exact hs.sub
end
theorem zj7 {K V:Type} {kk:K} {v v':V}:∀ {es:List (K × V)},(es.map Prod.fst).Nodup->(kk,v) ∈ es->(kk,v') ∈ es->v'=v
 | a::r,hnd,hv,hv'=>by
  rw [List.map_cons,List.nodup_cons] at hnd
  rcases List.mem_cons.1 hv with h1|h1 <;> rcases List.mem_cons.1 hv' with h2|h2
  ·rw [<- h1] at h2;exact (Prod.mk.inj h2).2
  ·exact absurd (List.mem_map.2 ⟨_,h2,by rw [<- h1]⟩) hnd.1
  ·exact absurd (List.mem_map.2 ⟨_,h1,by rw [<- h2]⟩) hnd.1
  ·exact zj7 hnd.2 h1 h2
section
variable {K V:Type} {ek:K->Value} {ev:V->Value} {m:Nat} {es:List (K × V)} {P:Program} {w:World} {l r:List HP} {Q:Post} {S:World->Prop} {T kt:TypeId} {z:Value} {g:Prop} {kk:K} {kv:Value}
theorem zq9 [hf:FoM l m ek ev es r] [hT:MapT P T kt z] [hk:KeyT P kt ek] [hkv:IsK ek kv kk] (hs:Sat w l) {v:V} (hv:(kk,v) ∈ es) {ss:List Sh1} {x:HL (prims ss)} (hx:z18 ss x=[ev v,.bool true]) :
  (Instr.lookup T (.map (some m)) kv true).run P w=.ok ((Sh.tup ss).mk x) w:=by
 have hs:=hs.perm hf.perm
 have hnd:=hs.mapNodup
 rcases zc6 (P:=P) (T:=T) true hs kk with ⟨v',hv',hr⟩|⟨hno,-⟩
 ·have:v'=v:=zj7 hnd hv hv'
  rw [hkv.ok,hr,this]
  show Result.ok (Value.tuple #[ev v,.bool true]) w=Result.ok (Value.tuple (z18 ss x).toArray) w
  rw [hx]
 ·exact absurd hv (hno _)
theorem zli [hf:FoM l m ek ev es r] [hT:MapT P T kt z] [hk:KeyT P kt ek] [hkv:IsK ek kv kk] (hs:Sat w l) (hv:∀ v,(kk,v) ∉ es) {ss:List Sh1} {x:HL (prims ss)} (hx:z18 ss x=[z,.bool false]) :
  (Instr.lookup T (.map (some m)) kv true).run P w=.ok ((Sh.tup ss).mk x) w:=by
 have hs:=hs.perm hf.perm
 rcases zc6 (P:=P) (T:=T) true hs kk with ⟨v',hv',hr⟩|⟨-,hr⟩
 ·exact absurd hv' (hv _)
 ·rw [hkv.ok,hr]
  show Result.ok (Value.tuple #[z,.bool false]) w=Result.ok (Value.tuple (z18 ss x).toArray) w
  rw [hx]
theorem zcg {ss:List Sh1} {k:HL (prims ss)->Prog} [hf:FoM l m ek ev es r] [hT:MapT P T kt z] [hk:KeyT P kt ek] [hkv:IsK ek kv kk] (hs:Sat w l) (o:Option V) (ho:(∃ v,o=some v/\(kk,v) ∈ es)\/(o=none/\∀ v,(kk,v) ∉ es)) (d:Option V->HL (prims ss))
  (h:(k (d o)).wp P (λw'=>S w'/\(g->(Instr.lookup T (.map (some m)) kv true).run P w'=.ok ((Sh.tup ss).mk (d o)) w')) w Q) (h1:∀ v,z18 ss (d (some v))=[ev v,.bool true]:=by intros;rfl) (h0:z18 ss (d none)=[z,.bool false]:=by rfl) :
  (Prog.hold g (Instr.lookup T (.map (some m)) kv true) (.tup ss) k).wp P S w Q:=by
 refine ⟨d o,λ_=>?_,h⟩
 rcases ho with ⟨v,rfl,hv⟩|⟨rfl,hv⟩
 ·exact zq9 hs hv (h1 v)
 ·exact zli hs hv h0
theorem z8m {ss:List Sh1} [hf:FoM l m ek ev es r] [hT:MapT P T kt z] [hk:KeyT P kt ek] [hkv:IsK ek kv kk] (hs:Sat w l) {o:Option V} (ho:(∃ v,o=some v/\(kk,v) ∈ es)\/(o=none/\∀ v,(kk,v) ∉ es)) (d:Option V->HL (prims ss))
  (h1:∀ v,z18 ss (d (some v))=[ev v,.bool true]:=by intros;rfl) (h0:z18 ss (d none)=[z,.bool false]:=by rfl) :
  (Instr.lookup T (.map (some m)) kv true).run P w=.ok ((Sh.tup ss).mk (d o)) w:=by
 rcases ho with ⟨v,rfl,hv⟩|⟨rfl,hv⟩
 ·exact zq9 hs hv (h1 v)
 ·exact zli hs hv h0
theorem z002 {ss:List Sh1} {k:HL (prims ss)->Prog} [hf:FoM l m ek ev es r] [hT:MapT P T kt z] [hk:KeyT P kt ek] [hkv:IsK ek kv kk] (hs:Sat w l) (o:Option V) (ho:(∃ v,o=some v/\(kk,v) ∈ es)\/(o=none/\∀ v,(kk,v) ∉ es)) (d:Option V->HL (prims ss))
  (h:(k (d o)).wp P S w Q) (h1:∀ v,z18 ss (d (some v))=[ev v,.bool true]:=by intros;rfl) (h0:z18 ss (d none)=[z,.bool false]:=by rfl) :
  (Prog.read g (Instr.lookup T (.map (some m)) kv true) (.tup ss) k).wp P S w Q :=
 ⟨d o,λ_=>z8m hs ho d h1 h0,h⟩
end
section
variable {P:Program} {w:World} {l r:List HP} {Q:Post} {S:World->Prop} {t:TypeId} {sz:Nat}
theorem z050 {α:Type} {enc:α->List Value} {xs:List α} {x:Sl} {T:TypeId} {m j:Nat} {ii:Int} {gg g':Prop} {p:Pr} {dec:α->p.D} {f:p.D->Prog} (hs:Sat w l) [hf:FocR l x sz (xs.flatMap enc)] [hE:EncN enc sz] [hD:EncF enc j p dec] [hT:One P T]
  (n:Nat) (hn:n<xs.length) (h:(f (dec xs[n])).wp P S w Q) (hm:m=n*sz:=by rfl) (hi:ii=n:=by rfl) :
  (Prog.ex [.adr] (c1 λa=>gg->(0:Int)<=ii/\ii<((x.len:Nat):Int)/\x.a=some a) (u1 λa=>.read g' (ld T (Addr.add (Addr.add a m) j)) (.one (.one p)) (u1 f))).wp P S w Q:=by
 obtain ⟨a,ha,hl,hr⟩:=ze1 (P:=P) (T:=T) (x:=x) (sz:=sz) (xs:=xs) (enc:=enc) (j:=j) (p:=p) (dec:=dec) hs (n:=n) hn
 subst hm hi
 exact ⟨(a,()),λ_=>⟨by omega,by omega,ha⟩,(dec xs[n],()),λ_=>hr,h⟩
theorem zhe {α β γ δ:Type} {f:α->β->γ->δ->Prog} (a:α) (b:β) (c:γ) (d:δ) (h:(f a b c d).wp P S w Q):(u4 f (a,b,c,d,())).wp P S w Q:=h
theorem zrc {α:Type} {enc:α->List Value} {n:Nat} {ps:Array (Nat × Value)} {el:TypeId} {bytes:Nat} {k:Sl->Prog} (hs:Sat w l) [ht:SlT P t el sz bytes] [hE:EncN enc sz] (xs:List α)
  (h:∀ x w',Sat w' (slc el sz x (xs.flatMap enc)::l)->(k x).wp P S w' Q) (hc:z48 P t n ps=some (el,(xs.flatMap enc).toArray):=by kernel_rfl) (hn:xs.length=n:=by rfl) (hS:∀ w',S w':=by exact λ_=>trivial) :
  (Prog.act (Instr.buildSlice t n ps) sL (u1 k)).wp P S w Q:=z9j hs xs hc (λb w' hs=>h _ w' hs) (by simp) hn hS
end
section
variable {P:Program} {w:World} {l r:List HP} {Q:Post} {S:World->Prop} {α β γ δ ε ζ η θ:Type}
theorem z38 {f:α->β->Prog} (a:α) (b:β) (h:(f a b).wp P S w Q):(u2 f (a,b,())).wp P S w Q:=h
theorem zhd {f:α->β->γ->Prog} (a:α) (b:β) (c:γ) (h:(f a b c).wp P S w Q):(u3 f (a,b,c,())).wp P S w Q:=h
theorem z2t {f:α->β->γ->δ->ε->Prog} (a:α) (b:β) (c:γ) (d:δ) (e:ε) (h:(f a b c d e).wp P S w Q):(u5 f (a,b,c,d,e,())).wp P S w Q:=h
theorem zt5 {f:α->β->γ->δ->ε->ζ->Prog} (a:α) (b:β) (c:γ) (d:δ) (e:ε) (z:ζ) (h:(f a b c d e z).wp P S w Q):(u6 f (a,b,c,d,e,z,())).wp P S w Q:=h
theorem zkc {f:α->β->γ->δ->ε->ζ->η->Prog} (a:α) (b:β) (c:γ) (d:δ) (e:ε) (z:ζ) (y:η) (h:(f a b c d e z y).wp P S w Q):(u7 f (a,b,c,d,e,z,y,())).wp P S w Q:=h
theorem ze7 {f:α->β->γ->δ->ε->ζ->η->θ->Prog} (a:α) (b:β) (c:γ) (d:δ) (e:ε) (z:ζ) (y:η) (x:θ) (h:(f a b c d e z y x).wp P S w Q):(u8 f (a,b,c,d,e,z,y,x,())).wp P S w Q:=h
theorem z051 {α:Type} {enc:α->List Value} {xs:List α} {i i':Int} {x:Sl} {T t:TypeId} {sz n':Nat} {k:Prog} {us:List Value} (hs:Sat w l) [hf:FocS l x T sz (xs.flatMap enc) r] [hE:EncN enc sz] [hT:Agg P t n'] (n:Nat) (hn:n<xs.length) (y:α)
  (h:∀ w',Sat w' (slc T sz x ((xs.set n y).flatMap enc)::r)->k.wp P S w' Q) (hy:us=enc y:=by rfl) (hi:i=n:=by first|rfl|omega) (hi':i'=i:=by rfl) (hz:Nat.beq sz n'=true:=by rfl) (hS:∀ w',S w':=by exact λ_=>trivial) :
  (Prog.ex [.adr] (c1 λa=>0<=i/\i<((x.len:Nat):Int)/\x.a=some a) (u1 λa=>.actU (st t (Addr.add a (Int.toNat i'*sz)) (.agg us.toArray)) k)).wp P S w Q:=by
 have hz:=Nat.eq_of_beq_eq_true hz
 subst hi hi' hz
 have hr:=(hs.focS x).rd
 have hl:x.len=xs.length:=hr.len hE.len hE.pos
 obtain ⟨a,ha,he⟩:=hr.el hE.len (by omega)
 refine ⟨(a,()),⟨by omega,by omega,ha⟩,?_⟩
 exact zxe (xs:=xs) (i:=n) (y:=y) hE.len hs ha hn (λb o e=>by subst e;rw [z4c,Int.toNat_natCast]) hT.ok.2 (by show us.toArray.toList=_;rw [hy]) (hE.one y) λw' hs'=>⟨hS _,h w' hs'⟩
theorem zxa {f : FuncId} {cap : Array Value} {args : List Value} {s : Sh} {k : HL s.prims → Prog} {vs₀ : List Value} {R : World → Prop} (hok : (P.funcs[f]?).any (fun fn => fn.body.isSome && fn.name != "runtime.NumGoroutine") = true) (x : HL s.prims)
  (hc:Ret P f (args.toArray++cap) w λvs w'=>vs=vs₀/\R w') (hx:z8x vs₀=s.mk x) (h:∀ w',R w'->S w'/\(k x).wp P S w' Q):(Prog.callv (.func (.func f) #[] cap) args s k).wp P S w Q:=by
 refine ⟨f,#[],cap,rfl,hok,?_⟩
 have e:(#[]:Array Value)++args.toArray++cap=args.toArray++cap:=by simp
 rw [e]
 refine Calls.mono hc λe w' ⟨vs,he,hv,hR⟩=>?_
 exact ⟨x,by rw [he,hv,hx],h w' hR⟩
end
section
variable {P:Program} {w:World} {l r:List HP} {Q:Post} {S:World->Prop} {b off:Nat} {T T':TypeId} {g:Prop}
theorem z04l {a:Addr} {vs:List Value} {fr:Nat × Nat} {ps:List Pr} (x:HL ps) {n:Nat} (hs:Sat w l) [ha:AddrIs a b off] [hb:FocB l b (.cells vs.toArray T' fr) r] [hT:Agg P T n] (hx:(vs.drop off).take n=HL.vals ps x) (hn:(HL.vals ps x).length=n) :
  (ld T a).run P w=.ok ((Sh.one (.agg ps)).mk x) w:=by
 rw [ha.ok]
 refine At.ldA (P:=P) (T:=T) (vs:=HL.vals ps x) ⟨b,off,vs.toArray,T',fr,rfl,(hs.focB b).get,λi hi=>?_⟩ hn
 rw [<- hx,List.getElem?_take,if_pos (by omega),List.getElem?_drop]
 simp
theorem zds {a:Addr} {vs:List Value} {fr:Nat × Nat} {ps:List Pr} {k:HL ps->Prog} (hs:Sat w l) (x:HL ps) {n:Nat} [ha:AddrIs a b off] [hb:FocB l b (.cells vs.toArray T' fr) r] [hT:Agg P T n] {p:Prog} [hA:App k x p]
  (h:p.wp P S w Q) (hx:(vs.drop off).take n=HL.vals ps x:=by rfl) (hn:(HL.vals ps x).length=n:=by rfl):(Prog.read g (ld T a) (.one (.agg ps)) k).wp P S w Q :=
 ⟨x,λ_=>z04l (T:=T) x hs hx hn,by rw [hA.ok];exact h⟩
end
section
variable {P:Program} {w:World} {l r:List HP} {Q:Post} {S:World->Prop} {T:TypeId} {sz:Nat} {x:Sl}
theorem At.part {A:Addr} {vs:List Value} (h:At w A vs) (j q:Nat):At w (A.add j) ((vs.drop j).take q):=by
 obtain ⟨b,o,arr,T',fr,rfl,hb,hc⟩:=h
 refine ⟨b,o+j,arr,T',fr,z4c ..,hb,λi hi=>?_⟩
 rw [List.length_take,List.length_drop] at hi
 rw [List.getElem?_take,if_pos (by omega),List.getElem?_drop,Nat.add_assoc,hc (j+i) (by omega)]
end
def zt8:BatM:=⟨0,0,0,0,0,0,z7k,[]⟩
abbrev zeroC:Array Value:=#[.int .i64 0,.int .i64 0,.int .i64 0,.int .i64 0,.int .i64 0,.int .i64 0,.slice none 0 0]
theorem zxb {P:Program} {p:Prog} {S:World->Prop} {w:World} {Q0 Q:Post} (h:p.wp P S w Q0) (h0:∀ e vs w,Q0 e vs w->e=0) (hQ:∀ vs w,Q0 0 vs w->Q 0 vs w):p.wp P S w Q :=
 Prog.wp_mono p (λe vs w h=>by have:=h0 e vs w h;subst this;exact hQ vs w h) h
theorem zsu (time:Int) (n:Nat) (ahead:ByteArray) (s:Lf):z4m time (n+1) ahead s=match (z3c time ahead s).1 with
  | none=>none
  | some x=>(z4m time n x.key (z3c time ahead s).2).map λq=>(x::q.1,q.2):=rfl
def BatM.at (b:BatM) (z:Sl):BatM:={ b with x:=z }
section
variable {w:World} {l r:List HP} {p:Nat} {s:Lf}
theorem zkw (x:Sl) (raw:List UInt8) [hx:FocR l x 1 (raw.flatMap zh)] (hn:raw.length<=1000000000) (hs:Sat w l) :
  Ret P F.a103 #[x.v] w λvs w'=>(∃ b z,z5z raw=some b/\vs=[.agg (zr (b.at z)).toArray,.int .i64 0]/\Sat w' (slc T.a2 4 z (b.rs.flatMap z00)::l)) \/
   (z5z raw=none/\vs=[.agg (zr zt8).toArray,.int .i64 6]/\Sat w' l) :=
 znd _ <| by
  delta z00u AB AD AE AF AM AP AQ AR AW Aa Ab Ac Ad Ah Ai Ao Ar Au Ax B1 B7 Bc Bn Bp Bq Bz
  refine zm hs λa0 w' hs=>?_
  refine zm hs λa1 w' hs=>?_
  refine zl hs λw' hs=>?_
  refine z8 (zlk x raw hn hs) λ_ w' hs=>?_
  obtain ⟨p,rfl,hs⟩:=hs
  refine zb ?_
  refine z8 (zhk (p:=p) hs) λ_ _ hs=>?_
  obtain ⟨rfl,hs⟩:=hs
  refine zb ?_
  have hfail:∀ {w':World},Sat w' (pt a1 (.cells zeroC T.a0)::pt a0 (.cells zeroC T.a0)::l)->z5z raw=none ->
    (Prog.read True (ld T.a0 ⟨a1,0,none⟩) (sG [.int .i64,.int .i64,.int .i64,.int .i64,.int .i64,.int .i64,.slc]) (u7 λn4 n5 n6 n7 n8 n9 l10 =>
     .actU (st T.a0 ⟨a0,0,none⟩ (.agg #[.int .i64 n4,.int .i64 n5,.int .i64 n6,.int .i64 n7,.int .i64 n8,.int .i64 n9,l10.v])) <|
     .read True (ld T.a0 ⟨a0,0,none⟩) (sG [.int .i64,.int .i64,.int .i64,.int .i64,.int .i64,.int .i64,.slc]) (u7 λn11 n12 n13 n14 n15 n16 l17 =>
     .done 0 [.agg #[.int .i64 n11,.int .i64 n12,.int .i64 n13,.int .i64 n14,.int .i64 n15,.int .i64 n16,l17.v],.int .i64 6]))).wp P (λ_=>True) w' λe vs w=>e=0/\((∃ b z,z5z raw=some b/\vs=[.agg (zr (b.at z)).toArray,.int .i64 0]/\Sat w (slc T.a2 4 z (b.rs.flatMap z00)::l)) \/
      (z5z raw=none/\vs=[.agg (zr zt8).toArray,.int .i64 6]/\Sat w l)):=by
   intro w' hs hd
   have hs:Sat w' (pt a1 (.cells [.int .i64 0,.int .i64 0,.int .i64 0,.int .i64 0,.int .i64 0,.int .i64 0,.slice none 0 0].toArray T.a0)::pt a0 (.cells [.int .i64 0,.int .i64 0,.int .i64 0,.int .i64 0,.int .i64 0,.int .i64 0,.slice none 0 0].toArray T.a0)::l):=hs
   refine ze hs ?_
   refine zl hs λw' hs=>?_
   refine ze hs ?_
   exact ⟨rfl,.inr ⟨hd,rfl,hs.sub⟩⟩
  replace hs:Sat _ (rdS T.a59 p (z0u (some raw)).2::pt a1 (.cells zeroC T.a0)::pt a0 (.cells zeroC T.a0)::l):=hs.sub
  refine zg (λh=>?_) λh=>?_
  ·refine hfail hs.sub ?_
   unfold z5z
   rw [if_pos (by omega)]
  have hdec:z5z raw=zkp (hdS (z0u (some raw)).2):=by
   unfold z5z
   rw [if_neg (by omega)]
  generalize z5z raw=DD at *
  generalize (z0u (some raw)).2=s at *
  have hH:hdS s=⟨z0u s,z01 1099511627776 (z0u s).2,z01 1048576 (z01 1099511627776 (z0u s).2).2,
   if (z01 1048576 (z01 1099511627776 (z0u s).2).2).1>0 then z01 32767 (z01 1048576 (z01 1099511627776 (z0u s).2).2).2 else (0,(z01 1048576 (z01 1099511627776 (z0u s).2).2).2),
   if (z01 1048576 (z01 1099511627776 (z0u s).2).2).1>0/\z36 (z0u s).1=false then z01 2147483647 (if (z01 1048576 (z01 1099511627776 (z0u s).2).2).1>0 then z01 32767 (z01 1048576 (z01 1099511627776 (z0u s).2).2).2 else (0,(z01 1048576 (z01 1099511627776 (z0u s).2).2).2)).2 else (0,(if (z01 1048576 (z01 1099511627776 (z0u s).2).2).1>0 then z01 32767 (z01 1048576 (z01 1099511627776 (z0u s).2).2).2 else (0,(z01 1048576 (z01 1099511627776 (z0u s).2).2).2)).2),
   z01 1099511627776 (if (z01 1048576 (z01 1099511627776 (z0u s).2).2).1>0/\z36 (z0u s).1=false then z01 2147483647 (if (z01 1048576 (z01 1099511627776 (z0u s).2).2).1>0 then z01 32767 (z01 1048576 (z01 1099511627776 (z0u s).2).2).2 else (0,(z01 1048576 (z01 1099511627776 (z0u s).2).2).2)).2 else (0,(if (z01 1048576 (z01 1099511627776 (z0u s).2).2).1>0 then z01 32767 (z01 1048576 (z01 1099511627776 (z0u s).2).2).2 else (0,(z01 1048576 (z01 1099511627776 (z0u s).2).2).2)).2)).2⟩:=rfl
  refine z8 (zhk (p:=p) hs) λ_ _ hs=>?_
  obtain ⟨rfl,hs⟩:=hs
  refine zb ?_
  generalize z0u s=k at *
  refine z8 (za2 (p:=p) 1099511627776 (by omega) hs) λ_ _ hs=>?_
  obtain ⟨rfl,hs⟩:=hs
  refine zb ?_
  generalize z01 1099511627776 k.2=ba at *
  refine z8 (za2 (p:=p) 1048576 (by omega) hs) λ_ _ hs=>?_
  obtain ⟨rfl,hs⟩:=hs
  refine zb ?_
  generalize z01 1048576 ba.2=pi at *
  refine zm hs λa2 w' hs=>?_
  refine zl hs λw' hs=>?_
  refine za hs ?_
  generalize hep:(if pi.1>0 then z01 32767 pi.2 else (0,pi.2))=ep at *
  generalize hsq:(if pi.1>0/\z36 k.1=false then z01 2147483647 ep.2 else (0,ep.2))=sq at *
  refine zk (λ_ w'=>Sat w' (pt a2 (.cells [.int .i64 ba.1,.int .i64 pi.1,.int .i64 ep.1,.int .i64 sq.1,.int .i64 k.1,.int .i64 0,.slice none 0 0].toArray T.a0)::rdS T.a59 p sq.2::pt a1 (.cells zeroC T.a0)::pt a0 (.cells zeroC T.a0)::l)) ?_ ?_
  ·refine zg (λh=>?_) λh=>?_
   ·rw [if_pos h] at hep
    refine z8 (za2 (p:=p) 32767 (by omega) hs) λ_ _ hs=>?_
    obtain ⟨rfl,hs⟩:=hs
    refine zb ?_
    rw [hep] at hs ⊢
    refine z02 hs λw' hs=>?_
    refine ze hs ?_
    refine z8 (z6p ⟨ba.1,pi.1,ep.1,0,k.1,0,z7k,[]⟩ hs) λ_ w' hs=>?_
    obtain ⟨rfl,hs⟩:=hs
    refine zb ?_
    have em:z0h ⟨ba.1,pi.1,ep.1,0,k.1,0,z7k,[]⟩=z36 k.1:=rfl
    rw [em]
    refine z4b ?_
    refine zg (λh2=>?_) λh2=>?_
    ·have h2:z36 k.1=false:=by simpa using h2
     rw [if_pos ⟨h,h2⟩] at hsq
     refine z8 (za2 (p:=p) 2147483647 (by omega) hs) λ_ _ hs=>?_
     obtain ⟨rfl,hs⟩:=hs
     refine zb ?_
     rw [hsq] at hs ⊢
     refine z02 hs λw' hs=>?_
     refine z52 ?_
     refine zf ?_
     exact hs.sub
    ·have h2:z36 k.1≠false:=by simpa using h2
     rw [if_neg λh=>h2 h.2] at hsq
     refine z52 ?_
     refine zf ?_
     rw [<- hsq]
     exact hs.sub
   ·rw [if_neg h] at hep
    rw [if_neg λh2=>h h2.1] at hsq
    refine zf ?_
    rw [<- hsq,<- hep]
    exact hs.sub
  rintro _ w1 hs
  refine z8 (za2 (p:=p) 1099511627776 (by omega) hs) λ_ _ hs=>?_
  obtain ⟨rfl,hs⟩:=hs
  refine zb ?_
  have htb:=zg6 (most:=1099511627776) (by decide) sq.2
  generalize z01 1099511627776 sq.2=tm at *
  refine z02 hs λw' hs=>?_
  refine z8 (zvw (p:=p) hs) λ_ _ hs=>?_
  obtain ⟨er,rfl,her,hs⟩:=hs
  refine zb ?_
  refine za hs ?_
  rw [hH] at hdec
  generalize hHH:(⟨k,ba,pi,ep,sq,tm⟩:HdS)=H at *
  have e1:H.tm=tm:=by rw [<- hHH]
  have e2:H.k=k:=by rw [<- hHH]
  unfold zkp at hdec
  rw [e1,e2] at hdec
  refine zg (λh=>?_) λh=>?_
  ·refine hfail hs.sub ?_
   rw [hdec,if_pos]
   rcases h with h|h
   ·left
    cases hi:tm.2.isSome with
    | false=>rfl
    | true=>exact absurd (her.2 hi) h
   ·right;omega
  have htm:tm.1<=1099511627776:=by
   apply Decidable.byContradiction
   intro hh
   exact h (.inr (by omega))
  have her0:tm.2.isSome=true:=her.1 (Decidable.byContradiction λhh=>h (.inl hh))
  rw [if_neg (by rw [her0];rintro (h|h);cases h;omega)] at hdec
  refine ze hs ?_
  refine z8 (z6p ⟨ba.1,pi.1,ep.1,sq.1,k.1,tm.1,z7k,[]⟩ hs) λ_ w' hs=>?_
  obtain ⟨rfl,hs⟩:=hs
  refine zb ?_
  have em:z0h ⟨ba.1,pi.1,ep.1,sq.1,k.1,tm.1,z7k,[]⟩=z36 k.1:=rfl
  rw [em]
  refine zk (λ_ w'=>∃ (rs:List RecM) (z:Sl) (s1:Lf),DD=(if s1=some []/\z04 (H.b rs)=0 then some (H.b rs) else none)/\Sat w' (slc T.a2 4 z (rs.flatMap z00)::pt a2 (.cells [.int .i64 ba.1,.int .i64 pi.1,.int .i64 ep.1,.int .i64 sq.1,.int .i64 k.1,.int .i64 tm.1,.slice z.a z.len z.cap].toArray T.a0)::rdS T.a59 p s1::pt a1 (.cells zeroC T.a0)::pt a0 (.cells zeroC T.a0)::l)) ?_ ?_
  ·refine zg (λh2=>?_) λh2=>?_
   rotate_left
   ·have h2:z36 k.1=true:=by simpa using h2
    rw [if_pos h2] at hdec
    refine zf ⟨[],⟨none,0,0⟩,tm.2,hdec,?_⟩
    have hs:Sat _ (slc T.a2 4 ⟨none,0,0⟩ (([]:List RecM).flatMap z00)::_):=hs.slc_nil
    exact hs.sub
   have h2:z36 k.1=false:=by simpa using h2
   rw [if_neg (by rw [h2];simp)] at hdec
   refine z8 (za2 (p:=p) 64 (by omega) hs) λ_ _ hs=>?_
   obtain ⟨rfl,hs⟩:=hs
   refine zb ?_
   have hnb:=zg6 (most:=64) (by decide) tm.2
   generalize z01 64 tm.2=n at *
   refine wp_lt ?_
   refine zg (λh3=>?_) λh3=>?_
   ·rw [if_pos h3] at hdec
    have hf:=hfail hs.sub hdec
    exact zxb hf (λ_ _ _ h=>h.1) λvs w h=>z8a (by decide) h
   rw [if_neg h3] at hdec
   refine zk (λ_ w'=>∃ (rs:List RecM) (z:Sl) (s1:Lf),z4m tm.1 n.1.toNat ⟨#[]⟩ n.2=some (rs,s1)/\Sat w' (slc T.a2 4 z (rs.flatMap z00)::pt a2 (.cells [.int .i64 ba.1,.int .i64 pi.1,.int .i64 ep.1,.int .i64 sq.1,.int .i64 k.1,.int .i64 tm.1,.slice z.a z.len z.cap].toArray T.a0)::rdS T.a59 p s1::pt a1 (.cells zeroC T.a0)::pt a0 (.cells zeroC T.a0)::l)) ?_ ?_
   rotate_left
   ·rintro _ w1 ⟨rs,z,s1,hrs,hs⟩
    rw [hrs] at hdec
    exact zf ⟨rs,z,s1,hdec,hs⟩
   refine z09 (λm v w=>∃ (i:Nat) (done:List RecM) (ahead:ByteArray) (z:Sl) (s1:Lf),v=(ahead,((i:Int),()))/\i<=n.1.toNat/\n.1.toNat-i=m/\done.length=i/\ahead.size<=2100 /\
    z4m tm.1 n.1.toNat ⟨#[]⟩ n.2=(z4m tm.1 (n.1.toNat-i) ahead s1).map (λq=>(done++q.1,q.2))/\Sat w (slc T.a2 4 z (done.flatMap z00)::pt a2 (.cells [.int .i64 ba.1,.int .i64 pi.1,.int .i64 ep.1,.int .i64 sq.1,.int .i64 k.1,.int .i64 tm.1,.slice z.a z.len z.cap].toArray T.a0)::rdS T.a59 p s1::pt a1 (.cells zeroC T.a0)::pt a0 (.cells zeroC T.a0)::l)) n.1.toNat
    ⟨0,[],⟨#[]⟩,⟨none,0,0⟩,n.2,rfl,by omega,rfl,rfl,(by show 0<=2100;omega),?_,(show Sat _ (slc T.a2 4 ⟨none,0,0⟩ (([]:List RecM).flatMap z00)::_) from hs.slc_nil).sub⟩ ?_
   ·cases z4m tm.1 n.1.toNat ⟨#[]⟩ n.2 <;> simp
   clear hs
   rintro m _ w ⟨i,done,ahead,z,s1,rfl,hi,hm,hdl,hah,hrec,hs⟩
   refine zg (λhc=>?_) λhc=>?_
   rotate_left
   ·refine zn (zf ⟨done,z,s1,?_,hs⟩)
    have hc:¬ ((i:Int)<n.1):=hc
    rw [hrec,show n.1.toNat-i=0 by omega]
    simp [z4m]
   have hc:(i:Int)<n.1:=hc
   refine za hs ?_
   refine z8 (z04g (p:=p) tm.1 ⟨htb.1,htm⟩ ahead (by omega) hs) λ_ w' hs=>?_
   obtain ⟨y,rfl,hy,hyk,hs⟩:=hs
   refine ⟨(y.key,y.value,y.gone,y.time,(z3c tm.1 ahead s1).1.isSome,()),rfl,trivial,z2t _ _ _ _ _ ?_⟩
   refine zm hs λa3 w' hs=>?_
   refine zl hs λw' hs=>?_
   refine wp_lt ?_
   have hsucc:n.1.toNat-i=(n.1.toNat-(i+1))+1:=by omega
   rw [hsucc] at hrec
   rw [zsu] at hrec
   refine zg (λh4=>?_) λh4=>?_
   ·have h4:(z3c tm.1 ahead s1).1=none:=by simpa using h4
    rw [h4] at hrec
    have hrec:z4m tm.1 n.1.toNat ⟨#[]⟩ n.2=none:=hrec
    rw [hrec] at hdec
    have hf:=hfail hs.sub hdec
    exact zxb hf (λ_ _ _ h=>h.1) λvs w h=>z8a (by decide) (z8a (by decide) (z8a (by decide) h))
   have h4:(z3c tm.1 ahead s1).1.isSome=true:=by
    cases hq:(z3c tm.1 ahead s1).1 with
    | none=>rw [hq] at h4;exact absurd (by simp) h4
    | some q=>rfl
   obtain ⟨y',hy'⟩:=Option.isSome_iff_exists.1 h4
   obtain rfl:=hy y' hy'
   rw [hy'] at hrec
   refine za hs ?_
   refine ze hs ?_
   refine z5m (xs:=done) (enc:=z00) (y:=y) hs (λz' w' hs=>?_) rfl (by omega)
   refine z02 hs λw' hs=>?_
   refine za hs ?_
   refine wp_lt ?_
   have e5:IntKind.wrap .i64 ((i:Int)+1)=((i+1:Nat):Int):=by rw [w64 (by omega) (by omega)];omega
   rw [e5]
   refine z0w (n.1.toNat-(i+1)) ?_
   refine ⟨i+1,done++[y],y.key,z',(z3c tm.1 ahead s1).2,rfl,by omega,rfl,by simp [hdl],hyk,?_,hs.sub⟩
   rw [hrec,Option.map_map]
   congr 1
   funext q
   simp
  rintro _ w1 ⟨rs,z,s1,hDD,hs⟩
  have hb:H.b rs=⟨ba.1,pi.1,ep.1,sq.1,k.1,tm.1,z7k,rs⟩:=by rw [<- hHH];rfl
  have hv0:z04 (H.b rs)=z04 ⟨ba.1,pi.1,ep.1,sq.1,k.1,tm.1,z,rs⟩:=by rw [hb];rfl
  refine zk (λq w'=>q=(DD.isNone,())/\Sat w' (slc T.a2 4 z (rs.flatMap z00)::pt a2 (.cells [.int .i64 ba.1,.int .i64 pi.1,.int .i64 ep.1,.int .i64 sq.1,.int .i64 k.1,.int .i64 tm.1,.slice z.a z.len z.cap].toArray T.a0)::pt a1 (.cells zeroC T.a0)::pt a0 (.cells zeroC T.a0)::l)) ?_ ?_
  ·refine z8 (zkz (p:=p) hs) λ_ w' hs=>?_
   obtain ⟨e,rfl,he,hs⟩:=hs
   refine zb ?_
   refine ze hs ?_
   refine zg (λh5=>?_) λh5=>?_
   ·refine zf ⟨?_,hs.sub⟩
    rw [hDD,if_neg λhh=>h5 (he.2 hh.1)]
    rfl
   ·have h5:s1=some []:=he.1 (Decidable.not_not.1 h5)
    refine z8 (z9h ⟨ba.1,pi.1,ep.1,sq.1,k.1,tm.1,z,rs⟩ hs) λ_ w' hs=>?_
    obtain ⟨rfl,hs⟩:=hs
    refine zb ?_
    refine zf ⟨?_,hs.sub⟩
    rw [hDD,<- hv0]
    by_cases h6:z04 (H.b rs)=0
    ·rw [if_pos ⟨h5,h6⟩,h6];rfl
    ·rw [if_neg λhh=>h6 hh.2]
     simpa using h6
  rintro _ w1 ⟨rfl,hs⟩
  refine zg (λh6=>?_) λh6=>?_
  ·exact hfail hs.sub (by simpa using h6)
  ·rw [hDD] at h6
   split at h6
   rotate_left
   ·exact absurd rfl h6
   rename_i h7
   rw [if_pos h7] at hDD
   refine ze hs ?_
   have hs:Sat w1 (slc T.a2 4 z (rs.flatMap z00)::pt a2 (.cells [.int .i64 ba.1,.int .i64 pi.1,.int .i64 ep.1,.int .i64 sq.1,.int .i64 k.1,.int .i64 tm.1,.slice z.a z.len z.cap].toArray T.a0)::pt a1 (.cells zeroC T.a0)::pt a0 (.cells [.int .i64 0,.int .i64 0,.int .i64 0,.int .i64 0,.int .i64 0,.int .i64 0,.slice none 0 0].toArray T.a0)::l):=hs
   refine zl hs λw' hs=>?_
   refine ze hs ?_
   refine ⟨rfl,.inl ⟨H.b rs,z,hDD,?_,?_⟩⟩
   ·rw [hb];rfl
   ·rw [hb];exact hs.sub
end
def shB (base fin:Int):List UInt8:=83::(uI base++uI fin)
def shL (base fin:Int):List UInt8:=z2i (shB base fin)
def frL (b:BatM):List UInt8:=z2i (z2j b)
structure SegA where
 base:Int
 fin:Int
 bs:List BatM
def SegA.file (s:SegA):List UInt8:=shL s.base s.fin++s.bs.flatMap frL
def z0d (bs:List BatM):Int:=match bs.getLast? with
 | none=>0
 | some b=>b.base+zq b
def SegA.reach (s:SegA):Int:=max (max s.base s.fin) (z0d s.bs)
def z5w (x:Int) (rs:List RecM):Int:=rs.foldl (λt r=>max t r.time) x
def z35 (b:BatM):Int:=if b.rs=[] then b.time else z5w (-1) b.rs
def z1d (x:Int) (bs:List BatM):Int:=bs.foldl (λt b=>max t (z35 b)) x
def zt (l:List SegA):Int:=match l.getLast? with
 | none=>0
 | some s=>s.reach
def z15 (l:List SegA):Int:=match l with
 | []=>0
 | s::_=>s.base
def z1j:Int->List BatM->Prop
 | _,[]=>True
 | n,b::bs=>z04 b=0/\b.p=b/\n<=b.base/\z1j (b.base+zq b) bs
structure SegOk (s:SegA):Prop where
 base:0<=s.base/\s.base<=1099511627776
 fin:s.fin=0\/(s.base<s.fin/\s.fin<=1099511627776)
 bs:z1j s.base s.bs
def z0a:Int->List SegA->Prop
 | _,[]=>True
 | n,s::r=>n<=s.base/\SegOk s/\z0a (max s.reach (s.base+1)) r
def z5s (base:Int) (body:List UInt8):Option Int :=
 let a:=z0u (some body)
 let b:=zv a.2
 let c:=zv b.2
 if c.2=some []/\a.1=83/\(b.1:Int)=base/\base<=1099511627776/\c.1<=1099511627776/\(c.1=0\/base<c.1) then some c.1 else none
def z2c:Nat->Int->List UInt8->List BatM × Nat
 | 0,_,_=>([],0)
 | k+1,n,raw=>match z0x raw with
  | none=>([],0)
  | some (body,m)=>match z5z body with
   | none=>([],0)
   | some b=>if b.base<n then ([],0) else (b::(z2c k (b.base+zq b) (raw.drop m)).1,m+(z2c k (b.base+zq b) (raw.drop m)).2)
def z4o (base:Int) (raw:List UInt8):Option (SegA × Nat):=match z0x raw with
 | none=>none
 | some (body,m)=>match z5s base body with
  | none=>none
  | some fin=>some (⟨base,fin,(z2c raw.length base (raw.drop m)).1⟩,m+(z2c raw.length base (raw.drop m)).2)
theorem z83 {bs:List UInt8} (h:bs.length<=262144):(z2i bs).length=bs.length+8:=by
 unfold z2i
 rw [if_neg (by omega),List.length_append,z63]
 show (z3l _++_).length+4=_
 rw [List.length_append,z63]
 omega
theorem ze3 (base fin:Int):3<=(shB base fin).length/\(shB base fin).length<=21:=by
 have h1:=z11 base
 have h2:=z11 fin
 unfold shB
 rw [List.length_cons,List.length_append]
 omega
theorem zi2 (base fin:Int):11<=(shL base fin).length/\(shL base fin).length<=29:=by
 have h:=ze3 base fin
 unfold shL
 rw [z83 (by omega)]
 omega
theorem zzi {time:Int} {ahead:ByteArray} {r:RecM}:(z6c time ahead r).length<=31+r.key.size+10+r.value.size:=by
 unfold z6c z71
 have h1:=zjm (r.time-time)
 have h2:=z11 ((z0k (bl ahead) (bl r.key):Nat):Int)
 have h3:=z11 (((r.key.size-z0k (bl ahead) (bl r.key):Nat)):Int)
 have h4:=z11 (r.value.size:Int)
 have h5:=z1f r.key
 have h6:=z1f r.value
 simp only [List.length_append,List.length_cons,List.length_drop]
 split
 ·simp only [List.length_nil];omega
 ·simp only [List.length_append];omega
theorem zdl {time:Int} {n:Nat}:∀ {rs:List RecM} {ahead:ByteArray},(∀ r ∈ rs,r.key.size+r.value.size<=n)->(z2h time ahead rs).length<=rs.length*(41+n)
 | [],_,_=>by simp [z2h]
 | r::rs,ahead,h=>by
  have h1:=zzi (time:=time) (ahead:=ahead) (r:=r)
  have h2:=zdl (time:=time) (n:=n) (rs:=rs) (ahead:=r.key) λx hx=>h x (List.mem_cons_of_mem _ hx)
  have h3:=h r (List.mem_cons_self ..)
  unfold z2h
  rw [List.length_append,List.length_cons,Nat.add_mul]
  omega
theorem zpr {b:BatM} {n:Nat} (h:∀ r ∈ b.rs,r.key.size+r.value.size<=n):2<=(z2j b).length/\(z2j b).length<=62+b.rs.length*(41+n):=by
 have h1:=z11 b.base
 have h2:=z11 b.pid
 have h3:=z11 b.epoch
 have h4:=z11 b.seq
 have h5:=z11 b.time
 have h6:=z11 (b.rs.length:Nat)
 have h7:=zdl (time:=b.time) (ahead:=⟨#[]⟩) h
 unfold z2j
 simp only [List.length_cons,List.length_append]
 split <;> split <;> simp only [List.length_nil,List.length_append] <;> omega
theorem z5y {b:BatM} (hv:z04 b=0):2<=(z2j b).length/\(z2j b).length<=262144:=by
 obtain ⟨h64,hrs⟩:=z26 hv
 have h:=zpr (b:=b) (n:=2048) λr hr=>by
  obtain ⟨h1,h2,-⟩:=z3p (hrs r hr)
  omega
 have:b.rs.length*(41+2048)<=64*(41+2048):=Nat.mul_le_mul_right _ h64
 omega
theorem z56 {b:BatM} (hv:z04 b=0):10<=(frL b).length/\(frL b).length=(z2j b).length+8:=by
 have h:=z5y hv
 unfold frL
 rw [z83 h.2]
 omega
theorem zs4 {base fin:Int} (hb:0<=base/\base<=1099511627776) (hf:fin=0\/(base<fin/\fin<=1099511627776)):z5s base (shB base fin)=some fin:=by
 unfold z5s shB
 have e1:z0u (some (83::(uI base++uI fin)))=(83,some (uI base++uI fin)):=rfl
 have e2:zv (some (uI base++uI fin))=(base.toNat,some (uI fin)):=z4q (by omega) _
 have e3:zv (some (uI fin))=(fin.toNat,some []):=by
  have:=z4q (v:=fin.toNat) (by omega) []
  rwa [List.append_nil] at this
 simp only [e1,e2,e3]
 rw [if_pos ⟨trivial,trivial,by omega,by omega,by omega,by omega⟩]
 congr 1
 omega
theorem zix {base fin:Int} {body:List UInt8} (h:z5s base body=some fin):(0<=base/\base<=1099511627776)/\(fin=0\/(base<fin/\fin<=1099511627776))/\body=shB base fin:=by
 unfold z5s at h
 simp only at h
 split at h
 rotate_left
 ·cases h
 rename_i hc
 obtain ⟨h1,h2,h3,h4,h5,h6⟩:=hc
 simp only [Option.some.injEq] at h
 have i1:=z4p h1
 have i2:=z4p i1.2
 have i3:=zcv i2.2
 refine ⟨by omega,by omega,?_⟩
 have e:=i3.2
 rw [h2] at e
 simp only [Option.some.injEq] at e
 rw [e]
 unfold shB uI
 have e1:base.toNat=(zv (z0u (some body)).2).1:=by omega
 have e2:fin.toNat=(zv (zv (z0u (some body)).2).2).1:=by omega
 rw [e1,e2,List.append_nil]
 rfl
theorem z1j.mono {m n:Int} {bs:List BatM} (h:z1j n bs) (hm:m<=n):z1j m bs:=by
 cases bs with
 | nil=>trivial
 | cons b bs=>exact ⟨h.1,h.2.1,by have:=h.2.2.1;omega,h.2.2.2⟩
theorem z1j.valid:∀ {n:Int} {bs:List BatM},z1j n bs->∀ b ∈ bs,z04 b=0/\b.p=b
 | _,b::bs,h,x,hx=>by
  rcases List.mem_cons.1 hx with rfl|hx
  ·exact ⟨h.1,h.2.1⟩
  ·exact h.2.2.2.valid x hx
theorem zit:z0x []=none:=by
 rw [zvy,if_pos (by simp)]
theorem zej {bs r:List UInt8} (h:bs.length<=262144) {k:Nat} (hk:k<bs.length+8):z0x ((z2i bs++r).take k)=none:=by
 cases hf:z0x ((z2i bs++r).take k) with
 | none=>rfl
 | some q =>
  exfalso
  obtain ⟨body,n⟩:=q
  obtain ⟨h1,h2,h3,h4⟩:=z62 hf
  rw [List.length_take] at h2
  have e1:((z2i bs++r).take k).take n=(z2i bs++r).take n:=by rw [List.take_take,Nat.min_eq_left (by omega)]
  rw [e1] at h4
  have e2:=z6k h3 ((z2i bs++r).drop n)
  rw [<- h4,List.take_append_drop,z6k h] at e2
  simp only [Option.some.injEq,Prod.mk.injEq] at e2
  omega
theorem zh9:∀ {bs:List BatM} {n:Int} {k:Nat} {rest:List UInt8},z1j n bs->bs.length<=k->z0x rest=none->z2c k n (bs.flatMap frL++rest)=(bs,(bs.flatMap frL).length)
 | [],n,0,rest,_,_,_=>rfl
 | [],n,k+1,rest,_,_,hr=>by
  unfold z2c
  rw [List.flatMap_nil,List.nil_append,hr]
  rfl
 | b::bs,n,0,rest,_,hk,_=>by simp at hk
 | b::bs,n,k+1,rest,⟨hv,hp,hn,ho⟩,hk,hr=>by
  have hl:=z5y hv
  have hf:=z56 hv
  unfold z2c
  rw [List.flatMap_cons,List.append_assoc]
  have e:z0x (frL b++(bs.flatMap frL++rest))=some (z2j b,(z2j b).length+8):=z6k hl.2 _
  rw [e]
  simp only
  rw [zik hv]
  simp only
  rw [hp,if_neg (by omega),<- hf.2,List.drop_left,zh9 ho (by simpa using hk) hr,List.length_append]
theorem zjp:∀ {k:Nat} {n:Int} {raw:List UInt8},z1j n (z2c k n raw).1/\raw.take (z2c k n raw).2=(z2c k n raw).1.flatMap frL/\(z2c k n raw).2<=raw.length
 | 0,n,raw=>⟨trivial,by simp [z2c],Nat.zero_le _⟩
 | k+1,n,raw=>by
  unfold z2c
  cases hf:z0x raw with
  | none=>exact ⟨trivial,by simp,Nat.zero_le _⟩
  | some q =>
   obtain ⟨body,m⟩:=q
   simp only
   cases hd:z5z body with
   | none=>exact ⟨trivial,by simp,Nat.zero_le _⟩
   | some b =>
    simp only
    by_cases hb:b.base<n
    ·rw [if_pos hb];exact ⟨trivial,by simp,Nat.zero_le _⟩
    rw [if_neg hb]
    obtain ⟨i1,i2,i3⟩:=zjp (k:=k) (n:=b.base+zq b) (raw:=raw.drop m)
    obtain ⟨d1,d2,d3⟩:=zkv hd
    obtain ⟨f1,f2,f3,f4⟩:=z62 hf
    rw [List.length_drop] at i3
    refine ⟨⟨d1,d3,by omega,i1⟩,?_,by simp only;omega⟩
    simp only
    rw [List.take_add,f4,i2,List.flatMap_cons,<- d2]
    rfl
theorem z9m:∀ {n:Int} {bs:List BatM},z1j n bs->bs.length*10<=(bs.flatMap frL).length
 | _,[],_=>by simp
 | _,b::bs,⟨h1,_,_,h⟩=>by
  have:=z9m h
  have:=z56 h1
  rw [List.flatMap_cons,List.length_append,List.length_cons]
  omega
theorem z2l (s:SegA):s.file.length=(shL s.base s.fin).length+(s.bs.flatMap frL).length:=by
 unfold SegA.file
 rw [List.length_append]
theorem zjk {s:SegA} (h:SegOk s) {rest:List UInt8} (hr:z0x rest=none):z4o s.base (s.file++rest)=some (s,s.file.length):=by
 have hl:=ze3 s.base s.fin
 unfold z4o
 have e0:s.file++rest=z2i (shB s.base s.fin)++(s.bs.flatMap frL++rest):=by
  unfold SegA.file shL
  rw [List.append_assoc]
 have e:z0x (s.file++rest)=some (shB s.base s.fin,(shB s.base s.fin).length+8):=by
  rw [e0]
  exact z6k (by omega) _
 rw [e]
 simp only
 rw [zs4 h.base h.fin]
 simp only
 have e2:(s.file++rest).drop ((shB s.base s.fin).length+8)=s.bs.flatMap frL++rest:=by
  rw [e0,<- z83 (show (shB s.base s.fin).length<=262144 by omega),List.drop_left]
 have e3:s.bs.length<=(s.file++rest).length:=by
  have:=z9m h.bs
  rw [List.length_append,z2l]
  omega
 rw [e2,zh9 h.bs e3 hr,z2l]
 unfold shL
 rw [z83 (by omega)]
theorem zjj {s:SegA} (h:SegOk s):z4o s.base s.file=some (s,s.file.length):=by
 have:=zjk h zit
 rwa [List.append_nil] at this
theorem zmb {base:Int} {raw:List UInt8} {s:SegA} {m:Nat} (h:z4o base raw=some (s,m)):SegOk s/\s.base=base/\raw.take m=s.file/\m<=raw.length/\m=s.file.length:=by
 unfold z4o at h
 cases hf:z0x raw with
 | none=>rw [hf] at h;cases h
 | some q =>
  obtain ⟨body,k⟩:=q
  rw [hf] at h
  simp only at h
  cases hh:z5s base body with
  | none=>rw [hh] at h;cases h
  | some fin =>
   rw [hh] at h
   simp only [Option.some.injEq,Prod.mk.injEq] at h
   obtain ⟨rfl,rfl⟩:=h
   obtain ⟨h1,h2,h3⟩:=zix hh
   obtain ⟨i1,i2,i3⟩:=zjp (k:=raw.length) (n:=base) (raw:=raw.drop k)
   obtain ⟨f1,f2,f3,f4⟩:=z62 hf
   rw [List.length_drop] at i3
   have e:raw.take (k+(z2c raw.length base (raw.drop k)).2)=SegA.file ⟨base,fin,(z2c raw.length base (raw.drop k)).1⟩:=by
    rw [List.take_add,f4,i2,h3]
    rfl
   refine ⟨⟨h1,h2,i1⟩,rfl,e,by omega,?_⟩
   rw [<- e,List.length_take]
   omega
theorem z1j.take:∀ {n:Int} {bs:List BatM} (k:Nat),z1j n bs->z1j n (bs.take k)
 | _,[],k,_=>by simp [z1j]
 | _,b::bs,0,_=>trivial
 | _,b::bs,k+1,⟨h1,h2,h3,h4⟩=>⟨h1,h2,h3,h4.take k⟩
theorem zl6:∀ {n:Int} {bs:List BatM} (k:Nat),z1j n bs->∃ j rest,j<=bs.length/\(bs.flatMap frL).take k=(bs.take j).flatMap frL++rest/\z0x rest=none/\∀ m,m<=bs.length->((bs.take m).flatMap frL).length<=k->m<=j
 | _,[],k,_=>⟨0,[],by simp,by simp,zit,λm hm _=>hm⟩
 | n,b::bs,k,⟨h1,h2,h3,h4⟩=>by
  have hl:=z5y h1
  have hf:=z56 h1
  by_cases hk:k<(frL b).length
  ·refine ⟨0,(frL b++bs.flatMap frL).take k,by omega,by simp,zej hl.2 (by omega),λm hm h=>?_⟩
   cases m with
   | zero=>omega
   | succ m =>
    rw [List.take_succ_cons,List.flatMap_cons,List.length_append] at h
    omega
  ·obtain ⟨j,rest,i1,i2,i3,i4⟩:=zl6 (k-(frL b).length) h4
   refine ⟨j+1,rest,by simp;omega,?_,i3,λm hm h=>?_⟩
   ·rw [List.flatMap_cons,List.take_append,List.take_of_length_le (by omega),i2,List.take_succ_cons,List.flatMap_cons,List.append_assoc]
   ·cases m with
    | zero=>omega
    | succ m =>
     rw [List.take_succ_cons,List.flatMap_cons,List.length_append] at h
     have:=i4 m (by simpa using hm) (by omega)
     omega
def SegA.cut (s:SegA) (j:Nat):SegA:=⟨s.base,s.fin,s.bs.take j⟩
theorem SegOk.cut {s:SegA} (h:SegOk s) (j:Nat):SegOk (s.cut j):=⟨h.base,h.fin,h.bs.take j⟩
theorem zzp {s:SegA} (h:SegOk s) (k:Nat):(k<(shL s.base s.fin).length/\z4o s.base (s.file.take k)=none) \/
  ∃ j,j<=s.bs.length/\(s.cut j).file.length<=k/\z4o s.base (s.file.take k)=some (s.cut j,(s.cut j).file.length)/\∀ m,m<=s.bs.length->(s.cut m).file.length<=k->m<=j:=by
 have hl:=ze3 s.base s.fin
 have hsl:(shL s.base s.fin).length=(shB s.base s.fin).length+8:=z83 (by omega)
 by_cases hk:k<(shL s.base s.fin).length
 ·left
  refine ⟨hk,?_⟩
  unfold z4o
  have e:z0x (s.file.take k)=none:=zej (by omega) (by omega)
  rw [e]
 ·right
  obtain ⟨j,rest,i1,i2,i3,i4⟩:=zl6 (k-(shL s.base s.fin).length) h.bs
  have e:s.file.take k=(s.cut j).file++rest:=by
   unfold SegA.file SegA.cut
   rw [List.take_append,List.take_of_length_le (by omega),i2,List.append_assoc]
  refine ⟨j,i1,?_,by rw [e];exact zjk (h.cut j) i3,λm hm h2=>i4 m hm ?_⟩
  ·have:=congrArg List.length e
   rw [List.length_take,List.length_append] at this
   omega
  ·rw [z2l] at h2
   have:(s.cut m).bs=s.bs.take m:=rfl
   rw [this] at h2
   have:(shL (s.cut m).base (s.cut m).fin).length=(shL s.base s.fin).length:=rfl
   omega
theorem z1s {α:Type} (l:List α) (x:α):(l++[x]).getLast? = some x:=by simp
theorem z3n (bs:List BatM) (b:BatM):z0d (bs++[b])=b.base+zq b:=by
 unfold z0d
 rw [z1s]
theorem zgt (x:Int) (bs:List BatM) (b:BatM):z1d x (bs++[b])=max (z1d x bs) (z35 b):=by
 unfold z1d
 rw [List.foldl_append]
 rfl
theorem z1j.next:∀ {n:Int} {bs:List BatM},0<=n->z1j n bs->(bs≠[]->n<z0d bs)/\(bs=[]->z0d bs=0)/\z0d bs<=1099511627777
 | _,[],_,_=>⟨λh=>absurd rfl h,λ_=>rfl,by decide⟩
 | n,b::bs,hn,⟨h1,h2,h3,h4⟩=>by
  obtain ⟨s1,-,⟨-,hba,-⟩,-,s2⟩:=z17 b h1
  obtain ⟨i1,i2,i3⟩:=h4.next (by omega)
  by_cases hb:bs=[]
  ·subst hb
   have e:z0d [b]=b.base+zq b:=z3n [] b
   rw [e]
   exact ⟨λ_=>by omega,(λh=>by cases h),by omega⟩
  ·have e:z0d (b::bs)=z0d bs:=by
    unfold z0d
    cases bs with
    | nil=>exact absurd rfl hb
    | cons c cs=>rfl
   rw [e]
   have:=i1 hb
   exact ⟨λ_=>by omega,(λh=>by cases h),i3⟩
theorem z1j.snoc:∀ {n:Int} {bs:List BatM} {b:BatM},0<=n->z1j n bs->z04 b=0->b.p=b->n<=b.base->z0d bs<=b.base->z1j n (bs++[b])
 | n,[],b,_,_,hv,hp,hn,_=>⟨hv,hp,hn,trivial⟩
 | n,a::bs,b,h0,⟨h1,h2,h3,h4⟩,hv,hp,hn,hx=>by
  obtain ⟨s1,-,⟨-,hba,-⟩,-,s2⟩:=z17 a h1
  refine ⟨h1,h2,h3,?_⟩
  have i:=h4.next (by omega)
  by_cases hb:bs=[]
  ·subst hb
   have e:z0d [a]=a.base+zq a:=z3n [] a
   exact z1j.snoc (by omega) h4 hv hp (by omega) (by rw [i.2.1 rfl];omega)
  ·have e:z0d (a::bs)=z0d bs:=by
    unfold z0d
    cases bs with
    | nil=>exact absurd rfl hb
    | cons c cs=>rfl
   rw [e] at hx
   have:=i.1 hb
   exact z1j.snoc (by omega) h4 hv hp (by omega) hx
theorem z5h {s:SegA} (h:SegOk s):s.base<=s.reach/\s.fin<=s.reach/\z0d s.bs<=s.reach/\s.reach<=1099511627777/\(s.bs≠[]->s.base<z0d s.bs):=by
 obtain ⟨i1,i2,i3⟩:=h.bs.next h.base.1
 have h1:=h.base
 have h2:=h.fin
 unfold SegA.reach
 refine ⟨by omega,by omega,by omega,by omega,i1⟩
section
variable {w:World} {l r:List HP} {Q:Post} {S:World->Prop}
theorem z6r {P:Program} {t:TypeId} {sz:Nat} {α:Type} {enc:α->List Value} {n:Nat} {ps:Array (Nat × Value)} {el:TypeId} {bytes:Nat} {k:Sl->Prog} (hs:Sat w l) [ht:SlT P t el sz bytes] [hE:EncN enc sz] (xs:List α)
  (h:∀ x w',Sat w' (slc el sz x (xs.flatMap enc)::l)->S w'/\(k x).wp P S w' Q) (hc:z48 P t n ps=some (el,(xs.flatMap enc).toArray):=by kernel_rfl) (hn:xs.length=n:=by rfl) :
  (Prog.act (Instr.buildSlice t n ps) sL (u1 k)).wp P S w Q:=by
 have hp:=hs.push (o:=.cells (xs.flatMap enc).toArray el) (w':={ w with heap:=w.heap.push (.cells (xs.flatMap enc).toArray el) }) rfl
 have hsz:(xs.flatMap enc).toArray.size=n*sz:=by rw [List.size_toArray,z3u,hn]
 have h1:Sat { w with heap:=w.heap.push (.cells (xs.flatMap enc).toArray el) } (slc el sz ⟨some ⟨w.heap.size,0,none⟩,n,n⟩ (xs.flatMap enc)::l):=by
  have:=hp.slc_of (sz:=sz) hsz
  rwa [List.toList_toArray] at this
 have h2:=h ⟨some ⟨w.heap.size,0,none⟩,n,n⟩ _ h1
 exact ⟨(⟨some ⟨w.heap.size,0,none⟩,n,n⟩,()),_,zm6 hc,h2.1,h2.2⟩
theorem z04x {P:Program} {α:Type} {enc:α->List Value} {xs ys:List α} {t tx ty el el':TypeId} {sz bytes sz' bytes':Nat} {x y:Sl} {k:Sl->Prog} (hs:Sat w l) [ht:SlT P t el sz bytes] [htx:SlT P tx el' sz' bytes'] [hf:FocS l x el sz (xs.flatMap enc) r] [hy:FocR l y sz (ys.flatMap enc)] [hE:EncN enc sz]
  (h:∀ z w',Sat w' (slc el sz z ((xs++ys).flatMap enc)::r)->S w'/\(k z).wp P S w' Q) (hb:(xs.length+ys.length)*bytes<=140737488355328/\xs.length+ys.length<=9223372036854775807:=by omega) :
  (Prog.act (app t tx ty (.slice x.a x.len x.cap) (.slice y.a y.len y.cap)) sL (u1 k)).wp P S w Q:=by
 have h1:x.len=xs.length:=(hs.focS x).rd.len hE.len hE.pos
 have h2:=hs.slen y (xs:=ys) (enc:=enc)
 refine zt0 hs (hy.rd w hs) (λu hu=>?_) (by rw [h1,h2];exact hb.1) (by rw [h1,h2];exact hb.2) λz w' _ hs'=>h z w' ?_
 ·obtain ⟨a,-,hu⟩:=List.mem_flatMap.1 hu
  exact hE.one a u hu
 ·rw [List.flatMap_append];exact hs'
end
abbrev cB (b:BatM):Array Value:=#[.int .i64 b.base,.int .i64 b.pid,.int .i64 b.epoch,.int .i64 b.seq,.int .i64 b.kind,.int .i64 b.time,.slice b.x.a b.x.len b.x.cap]
abbrev cR (r:RecM):Array Value:=#[.string r.key,.string r.value,.bool r.gone,.int .i64 r.time]
theorem zh3 (time:Int):∀ (rs:List RecM) (ahead:ByteArray) (r:RecM),z2h time ahead (rs++[r])=z2h time ahead rs++z6c time (match rs.getLast? with|none=>ahead|some x=>x.key) r
 | [],ahead,r=>by simp [z2h]
 | a::rs,ahead,r=>by
  show z6c time ahead a++z2h time a.key (rs++[r])=z6c time ahead a++z2h time a.key rs++_
  rw [zh3 time rs a.key r,List.append_assoc]
  congr 3
  cases rs with
  | nil=>rfl
  | cons b bs=>rfl
theorem z04h {b:BatM} (hv:z04 b=0) (i:Nat):(z2h b.time ⟨#[]⟩ (b.rs.take i)).length<=133696:=by
 obtain ⟨h64,hrs⟩:=z26 hv
 have h1:=zdl (time:=b.time) (n:=2048) (rs:=b.rs.take i) (ahead:=⟨#[]⟩) λr hr=>by
  obtain ⟨h1,h2,-⟩:=z3p (hrs r (List.mem_of_mem_take hr))
  omega
 have h2:(b.rs.take i).length<=64:=by rw [List.length_take];omega
 have:(b.rs.take i).length*(41+2048)<=64*(41+2048):=Nat.mul_le_mul_right _ h2
 omega
def hdL (b:BatM):List UInt8:=1::UInt8.ofNat b.kind.toNat::(uI b.base++uI b.pid)
def z7y (b:BatM):List UInt8:=if b.pid>0 then uI b.epoch++(if z0h b then [] else uI b.seq) else []
theorem zpq (b:BatM):z2j b=(hdL b++z7y b++uI b.time)++if z0h b then [] else uI b.rs.length++z2h b.time ⟨#[]⟩ b.rs:=by
 unfold z2j hdL z7y
 simp only [List.cons_append,List.append_assoc]
section
variable {w:World} {l r:List HP}
set_option maxHeartbeats 1000000 in
theorem zy1 (b:BatM) [hb:FocR l b.x 4 (b.rs.flatMap z00)] (hs:Sat w l) :
  Ret P F.a104 #[.agg (zr b).toArray] w λvs w'=>(z04 b≠0/\vs=[.slice none 0 0,.int .i64 (z04 b)]/\Sat w' l)\/(z04 b=0/\∃ z:Sl,vs=[z.v,.int .i64 0]/\Sat w' (slc T.a57 1 z ((z2j b).flatMap zh)::l)) :=
 zne b.base b.pid b.epoch b.seq b.kind b.time b.x <| by
  delta z00v AA AC AD AF AG AM AP AQ AR AS AW Aa Ab Ac Ae Ag Ah Ai Ar Au Ax Ay Bn Bo Bp By
  have hlx:=hs.slen b.x (xs:=b.rs) (enc:=z00)
  refine zp hs λa0 w' hs=>?_
  refine ze hs ?_
  refine z8 (z9h b hs) λ_ w' hs=>?_
  obtain ⟨rfl,hs⟩:=hs
  refine zb ?_
  refine wp_lt ?_
  refine zg (λh=>?_) λh=>?_
  ·refine wp_lt ?_
   exact ⟨rfl,.inl ⟨h,rfl,hs.tail⟩⟩
  have hv:z04 b=0:=Decidable.not_not.1 h
  obtain ⟨-,-,⟨hk,hba,hpi,hep,hsq,htm⟩,hfit,-⟩:=z17 b hv
  obtain ⟨h64,hrs⟩:=z26 hv
  refine zk (λq w'=>∃ z:Sl,q=(z,())/\Sat w' (slc T.a57 1 z ((hdL b).flatMap zh)::pt a0 (.cells (cB b) T.a0)::l)) ?_ ?_
  ·have ek:IntKind.wrap .u8 b.kind=(((UInt8.ofNat b.kind.toNat).toNat:Nat):Int):=by
    rw [wu8 (by omega) (by omega),UInt8.toNat_ofNat'];omega
   have hul1:=z11 b.base
   have hul2:=z11 b.pid
   refine zw hs λw' hs=>?_
   refine z0z hs ?_
   refine z0z hs ?_
   refine z0z hs ?_
   have fin:∀ {w':World} {z1 z2 z3:Sl},Sat w' (slc T.a57 1 z1 (([1,UInt8.ofNat b.kind.toNat]:List UInt8).flatMap zh)::slc T.a57 1 z2 ((uI b.base).flatMap zh)::slc T.a57 1 z3 ((uI b.pid).flatMap zh)::pt a0 (.cells (cB b) T.a0)::l) ->
     (Prog.act (Instr.buildSlice T.a47 3 #[(0,z1.v),(1,z2.v),(2,z3.v)]) sL (u1 λl17=>.call F.a198 [l17.v] sL (u1 λl18=>.untick <| .done 1 [l18.v]))).wp P (λ_=>True) w' (Post.catch (λe vs w'=>e=0/\((z04 b≠0/\vs=[.slice none 0 0,.int .i64 (z04 b)]/\Sat w' l)\/(z04 b=0/\∃ z:Sl,vs=[z.v,.int .i64 0]/\Sat w' (slc T.a57 1 z ((z2j b).flatMap zh)::l)))) 1 λvs w'=>∃ x,vs=z18 [.one .slc] x/\∃ z:Sl,x=(z,())/\Sat w' (slc T.a57 1 z ((hdL b).flatMap zh)::pt a0 (.cells (cB b) T.a0)::l)):=by
    intro w' z1 z2 z3 hs
    refine z88 hs (enc:=z0c) [z1,z2,z3] λz4 w' hs=>?_
    refine z8 (zmp z4 z1 z2 z3 [1,UInt8.ofNat b.kind.toNat] (uI b.base) (uI b.pid) (by simp only [List.length_cons,List.length_nil];omega) hs) λ_ w' hs=>?_
    obtain ⟨z5,rfl,hs⟩:=hs
    refine zb ?_
    refine zd ?_
    refine zf ⟨z5,rfl,?_⟩
    have e:[1,UInt8.ofNat b.kind.toNat]++(uI b.base++uI b.pid)=hdL b:=by unfold hdL;simp
    rw [e] at hs
    exact hs.sub
   rw [ek]
   refine zi6 ?_ ?_
   ·refine z6r hs (enc:=zh) [1,UInt8.ofNat b.kind.toNat] λz1 w' hs=>⟨(by first|trivial|(repeat (first|exact trivial|exact λ_=>z05 hs|exact λ_=>z0b hs|refine And.intro ?_ ?_))),?_⟩
    refine z8 (z3j b.base (by omega) hs) λ_ w' hs=>?_
    obtain ⟨z2,rfl,hs⟩:=hs
    refine zb ?_ (by first|trivial|(repeat (first|exact trivial|exact λ_=>z05 hs|exact λ_=>z0b hs|refine And.intro ?_ ?_)))
    refine z8 (z3j b.pid (by omega) hs) λ_ w' hs=>?_
    obtain ⟨z3,rfl,hs⟩:=hs
    refine zb ?_ (by first|trivial|(repeat (first|exact trivial|exact λ_=>z05 hs|exact λ_=>z0b hs|refine And.intro ?_ ?_)))
    refine zd ?_
    exact fin hs.sub
   ·refine z8 (z3j b.base (by omega) hs) λ_ w' hs=>?_
    obtain ⟨z2,rfl,hs⟩:=hs
    refine zb ?_ (by first|trivial|(repeat (first|exact trivial|exact λ_=>z05 hs|exact λ_=>z0b hs|refine And.intro ?_ ?_)))
    refine zi6 ?_ ?_
    ·refine z6r hs (enc:=zh) [1,UInt8.ofNat b.kind.toNat] λz1 w' hs=>⟨(by first|trivial|(repeat (first|exact trivial|exact λ_=>z05 hs|exact λ_=>z0b hs|refine And.intro ?_ ?_))),?_⟩
     refine z8 (z3j b.pid (by omega) hs) λ_ w' hs=>?_
     obtain ⟨z3,rfl,hs⟩:=hs
     refine zb ?_ (by first|trivial|(repeat (first|exact trivial|exact λ_=>z05 hs|exact λ_=>z0b hs|refine And.intro ?_ ?_)))
     refine zd ?_
     exact fin hs.sub
    ·refine z8 (z3j b.pid (by omega) hs) λ_ w' hs=>?_
     obtain ⟨z3,rfl,hs⟩:=hs
     refine zb ?_ (by first|trivial|(repeat (first|exact trivial|exact λ_=>z05 hs|exact λ_=>z0b hs|refine And.intro ?_ ?_)))
     refine z6r hs (enc:=zh) [1,UInt8.ofNat b.kind.toNat] λz1 w' hs=>⟨(by first|trivial|(repeat (first|exact trivial|exact λ_=>z05 hs|exact λ_=>z0b hs|refine And.intro ?_ ?_))),?_⟩
     refine zd ?_
     exact fin hs.sub
  rintro _ w1 ⟨z,rfl,hs⟩
  have hdl:(hdL b).length<=22:=by
   have hul1:=z11 b.base
   have hul2:=z11 b.pid
   unfold hdL
   simp only [List.length_cons,List.length_append]
   omega
  refine za hs ?_
  refine zk (λq w'=>∃ z:Sl,q=(z,())/\Sat w' (slc T.a57 1 z ((hdL b++z7y b).flatMap zh)::pt a0 (.cells (cB b) T.a0)::l)) ?_ ?_
  ·refine zg (λh2=>?_) λh2=>?_
   rotate_left
   ·refine zf ⟨z,rfl,?_⟩
    have e:z7y b=[]:=by unfold z7y;rw [if_neg h2]
    rw [e,List.append_nil]
    exact hs
   have hul:=z11 b.epoch
   refine za hs ?_
   refine z8 (z3j b.epoch (by omega) hs) λ_ w' hs=>?_
   obtain ⟨z2,rfl,hs⟩:=hs
   refine zb ?_
   refine wp_app' (xs:=hdL b) (ys:=uI b.epoch) (enc:=zh) hs λz3 w' hs=>?_
   refine ze hs ?_
   refine z8 (z6p b hs) λ_ w' hs=>?_
   obtain ⟨rfl,hs⟩:=hs
   refine zb ?_
   refine z4b ?_
   refine zg (λh3=>?_) λh3=>?_
   ·have h3:z0h b=false:=by simpa using h3
    have hul2:=z11 b.seq
    refine za hs ?_
    refine z8 (z3j b.seq (by omega) hs) λ_ w' hs=>?_
    obtain ⟨z4,rfl,hs⟩:=hs
    refine zb ?_
    refine wp_app' (xs:=hdL b++uI b.epoch) (ys:=uI b.seq) (enc:=zh) hs (λz5 w' hs=>?_) (by rw [List.length_append];omega)
    refine z52 ?_
    refine zf ⟨z5,rfl,?_⟩
    have e:z7y b=uI b.epoch++uI b.seq:=by unfold z7y;rw [if_pos h2,h3];rfl
    rw [e,<- List.append_assoc]
    exact hs.sub
   ·have h3:z0h b=true:=by simpa using h3
    refine z52 ?_
    refine zf ⟨z3,rfl,?_⟩
    have e:z7y b=uI b.epoch:=by unfold z7y;rw [if_pos h2,h3,if_pos rfl,List.append_nil]
    rw [e]
    exact hs.sub
  rintro _ w2 ⟨z2,rfl,hs⟩
  have hml:(z7y b).length<=20:=by
   have hul1:=z11 b.epoch
   have hul2:=z11 b.seq
   unfold z7y
   split
   ·split
    ·simp only [List.length_append,List.length_nil];omega
    ·simp only [List.length_append];omega
   ·simp
  have htl:=z11 b.time
  refine za hs ?_
  refine z8 (z3j b.time (by omega) hs) λ_ w' hs=>?_
  obtain ⟨z3,rfl,hs⟩:=hs
  refine zb ?_
  refine wp_app' (xs:=hdL b++z7y b) (ys:=uI b.time) (enc:=zh) hs (λz4 w' hs=>?_) (by rw [List.length_append];omega)
  refine ze hs ?_
  refine z8 (z6p b hs) λ_ w' hs=>?_
  obtain ⟨rfl,hs⟩:=hs
  refine zb ?_
  refine zg (λh3=>?_) λh3=>?_
  ·refine ⟨rfl,.inr ⟨hv,z4,rfl,?_⟩⟩
   rw [zpq,h3,if_pos rfl,List.append_nil]
   exact hs.sub
  have h3:z0h b=false:=by simpa using h3
  have hcl:=z11 ((b.rs.length:Nat):Int)
  refine za hs ?_
  rw [hlx]
  refine z8 (z3j ((b.rs.length:Nat):Int) (by omega) hs) λ_ w' hs=>?_
  obtain ⟨z5,rfl,hs⟩:=hs
  refine zb ?_
  generalize hX:hdL b++z7y b++uI b.time=X at hs
  have hXl:X.length<=60:=by rw [<- hX];simp only [List.length_append];omega
  refine wp_app' (xs:=X) (ys:=uI (b.rs.length:Nat)) (enc:=zh) hs (λz6 w' hs=>?_) (by omega)
  refine za hs ?_
  generalize hY:X++uI ((b.rs.length:Nat):Int)=Y at hs
  have hYl:Y.length<=80:=by rw [<- hY];simp only [List.length_append];omega
  have hfin:z2j b=Y++z2h b.time ⟨#[]⟩ b.rs:=by
   rw [zpq,hX,h3,if_neg (by simp),<- hY,List.append_assoc]
  refine zk (λq w'=>∃ z:Sl,q=(z,())/\Sat w' (slc T.a57 1 z ((z2j b).flatMap zh)::l)) ?_ ?_
  rotate_left
  ·rintro _ w' ⟨z,rfl,hs⟩
   exact ⟨rfl,.inr ⟨hv,z,rfl,hs⟩⟩
  have hrec:=z04h hv
  refine z09 (λm v w=>∃ (i:Nat) (z:Sl),v=(z,((match (b.rs.take i).getLast? with|none=>(⟨#[]⟩:ByteArray)|some x=>x.key),((i:Int),())))/\i<=b.rs.length/\b.rs.length-i=m/\Sat w (slc T.a57 1 z ((Y++z2h b.time ⟨#[]⟩ (b.rs.take i)).flatMap zh)::pt a0 (.cells (cB b) T.a0)::l)) b.rs.length ⟨0,z6,rfl,by omega,rfl,by
   rw [List.take_zero]
   show Sat _ (slc T.a57 1 z6 ((Y++[]).flatMap zh)::_)
   rw [List.append_nil]
   exact hs.sub⟩ ?_
  clear hs
  rintro m _ w ⟨i,z,rfl,hi,hm,hs⟩
  refine zg (λhc=>?_) λhc=>?_
  rotate_left
  ·refine zn (zf ⟨z,rfl,?_⟩)
   have hc:¬ ((i:Int)<((b.x.len:Nat):Int)):=hc
   have hi2:i=b.rs.length:=by omega
   rw [hi2,List.take_length,<- hfin] at hs
   exact hs.sub
  have hc:((i:Int)<((b.x.len:Nat):Int)):=hc
  have hil:i<b.rs.length:=by omega
  refine z39 hs (xs:=b.rs) (enc:=z00) i hil ?_
  refine zm hs λa1 w' hs=>?_
  refine zl hs λw' hs=>?_
  refine za hs ?_
  obtain ⟨hr1,hr2,hr3,hr4⟩:=z3p (hrs b.rs[i] (List.getElem_mem hil))
  have hah:∀ x,(match (b.rs.take i).getLast? with|none=>(⟨#[]⟩:ByteArray)|some x=>x.key)=x->x.size<=1024:=by
   intro x hx
   cases hq:(b.rs.take i).getLast? with
   | none=>rw [hq] at hx;subst hx;show 0<=1024;omega
   | some y =>
    rw [hq] at hx
    subst hx
    exact (z3p (hrs y (List.mem_of_mem_take (List.mem_of_getLast? hq)))).1
  have hsn:=zh3 b.time (b.rs.take i) ⟨#[]⟩ b.rs[i]
  rw [<- List.take_succ_eq_append_getElem hil] at hsn
  have hln:=hrec (i+1)
  rw [hsn,List.length_append] at hln
  have hlast:(match (b.rs.take (i+1)).getLast? with|none=>(⟨#[]⟩:ByteArray)|some x=>x.key)=b.rs[i].key:=by
   rw [List.take_succ_eq_append_getElem hil,z1s]
  generalize (match (b.rs.take i).getLast? with|none=>(⟨#[]⟩:ByteArray)|some x=>x.key)=ahead at *
  have hah:=hah ahead rfl
  refine z8 (zpn ahead b.rs[i].key (by omega) hs) λ_ w' hs=>?_
  obtain ⟨rfl,hs⟩:=hs
  refine zb ?_
  refine wp_lt ?_
  have hal:=za5 (bl ahead) (bl b.rs[i].key)
  rw [z1f,z1f] at hal
  have hrl:z6c b.time ahead b.rs[i]=(z5k (b.rs[i].time-b.time)++([z8d b.rs[i].gone]++(uI (z0k (bl ahead) (bl b.rs[i].key):Nat)++z71 ahead b.rs[i].key)))++if b.rs[i].gone then [] else uI b.rs[i].value.size++bl b.rs[i].value:=by
   unfold z6c
   simp only [List.append_assoc,List.cons_append,List.nil_append,List.singleton_append]
  generalize hZ:Y++z2h b.time ⟨#[]⟩ (b.rs.take i)=Z at *
  have hZl:Z.length<=200000:=by rw [<- hZ,List.length_append];omega
  have htl1:=zjm (b.rs[i].time-b.time)
  have htl2:=z11 ((z0k (bl ahead) (bl b.rs[i].key):Nat):Int)
  have htl3:(z71 ahead b.rs[i].key).length<=1034:=by
   unfold z71
   have:=z11 (((b.rs[i].key.size-z0k (bl ahead) (bl b.rs[i].key):Nat)):Int)
   rw [List.length_append,List.length_drop,z1f]
   omega
  refine zk (λq w'=>∃ z:Sl,q=(z,())/\Sat w' (slc T.a57 1 z ((Z++(z5k (b.rs[i].time-b.time)++([z8d b.rs[i].gone]++(uI (z0k (bl ahead) (bl b.rs[i].key):Nat)++z71 ahead b.rs[i].key)))).flatMap zh)::pt a1 (.cells (cR b.rs[i]) T.a2)::pt a0 (.cells (cB b) T.a0)::l)) ?_ ?_
  ·refine zw hs λw' hs=>?_
   refine za hs ?_
   refine za hs ?_
   refine z0z hs ?_
   refine z0z hs ?_
   refine wp_must (by omega) ?_
   rw [w64 (by omega) (by omega)]
   refine z8 (z054 (b.rs[i].time-b.time) (by omega) hs) λ_ w' hs=>?_
   obtain ⟨u1_,rfl,hs⟩:=hs
   refine zb ?_ (by first|trivial|(repeat (first|exact trivial|exact λ_=>z05 hs|exact λ_=>z0b hs|refine And.intro ?_ ?_)))
   refine z8 (z04w b.rs[i].gone hs) λ_ w' hs=>?_
   obtain ⟨u2_,rfl,hs⟩:=hs
   refine zb ?_ (by first|trivial|(repeat (first|exact trivial|exact λ_=>z05 hs|exact λ_=>z0b hs|refine And.intro ?_ ?_)))
   refine z8 (z3j ((z0k (bl ahead) (bl b.rs[i].key):Nat):Int) (by omega) hs) λ_ w' hs=>?_
   obtain ⟨u3_,rfl,hs⟩:=hs
   refine zb ?_ (by first|trivial|(repeat (first|exact trivial|exact λ_=>z05 hs|exact λ_=>z0b hs|refine And.intro ?_ ?_)))
   refine zd ?_
   have ext:(ByteArray.extract b.rs[i].key (z0k (bl ahead) (bl b.rs[i].key)) b.rs[i].key.size).size=b.rs[i].key.size-z0k (bl ahead) (bl b.rs[i].key):=by rw [ByteArray.size_extract];omega
   have exb:bl (ByteArray.extract b.rs[i].key (z0k (bl ahead) (bl b.rs[i].key)) b.rs[i].key.size)=(bl b.rs[i].key).drop (z0k (bl ahead) (bl b.rs[i].key)):=by
    unfold bl
    rw [ByteArray.data_extract,Array.toList_extract,List.extract_eq_take_drop]
    exact List.take_of_length_le (by rw [List.length_drop];exact Nat.le_refl _)
   rw [Int.toNat_natCast]
   refine z8 (zrg (ByteArray.extract b.rs[i].key (z0k (bl ahead) (bl b.rs[i].key)) b.rs[i].key.size) (by omega) hs) λ_ w' hs=>?_
   obtain ⟨u4_,rfl,hs⟩:=hs
   refine zb ?_
   rw [ext,exb] at hs
   have hs:Sat _ (slc T.a57 1 u4_ ((z71 ahead b.rs[i].key).flatMap zh)::_):=hs
   refine z88 hs (enc:=z0c) [u1_,u2_,u3_,u4_] λu5_ w' hs=>?_
   refine z8 (z001 u5_ u1_ u2_ u3_ u4_ (z5k (b.rs[i].time-b.time)) [z8d b.rs[i].gone] (uI (z0k (bl ahead) (bl b.rs[i].key):Nat)) (z71 ahead b.rs[i].key) (by simp only [List.length_cons,List.length_nil];omega) hs) λ_ w' hs=>?_
   obtain ⟨u6_,rfl,hs⟩:=hs
   refine zb ?_
   refine wp_app' (xs:=Z) (ys:=z5k (b.rs[i].time-b.time)++([z8d b.rs[i].gone]++(uI (z0k (bl ahead) (bl b.rs[i].key):Nat)++z71 ahead b.rs[i].key))) (enc:=zh) hs (λz5 w' hs=>?_) (by simp only [List.length_append,List.length_cons,List.length_nil];omega)
   refine zd ?_
   refine zf ⟨z5,rfl,?_⟩
   exact hs.sub
  rintro _ w3 ⟨z5,rfl,hs⟩
  refine za hs ?_
  refine zk (λq w'=>∃ z:Sl,q=(z,())/\Sat w' (slc T.a57 1 z ((Z++z6c b.time ahead b.rs[i]).flatMap zh)::pt a1 (.cells (cR b.rs[i]) T.a2)::pt a0 (.cells (cB b) T.a0)::l)) ?_ ?_
  ·refine zg (λh5=>?_) λh5=>?_
   ·have h5:b.rs[i].gone=false:=by simpa using h5
    refine za hs ?_
    refine z8 (zrg b.rs[i].value (by omega) hs) λ_ w' hs=>?_
    obtain ⟨u,rfl,hs⟩:=hs
    refine zb ?_
    have hvl:=z11 ((b.rs[i].value.size:Nat):Int)
    have hvs:=z1f b.rs[i].value
    refine wp_app' (xs:=Z++(z5k (b.rs[i].time-b.time)++([z8d b.rs[i].gone]++(uI (z0k (bl ahead) (bl b.rs[i].key):Nat)++z71 ahead b.rs[i].key)))) (ys:=uI (b.rs[i].value.size:Nat)++bl b.rs[i].value) (enc:=zh) hs (λz7 w' hs=>?_) (by simp only [List.length_append,List.length_cons,List.length_nil];omega)
    refine zf ⟨z7,rfl,?_⟩
    rw [hrl,if_neg (by rw [h5];simp),<- List.append_assoc]
    exact hs.sub
   ·have h5:b.rs[i].gone=true:=by simpa using h5
    refine zf ⟨z5,rfl,?_⟩
    rw [hrl,if_pos h5,List.append_nil]
    exact hs.sub
  rintro _ w4 ⟨z7,rfl,hs⟩
  refine za hs ?_
  refine wp_lt ?_
  have e5:IntKind.wrap .i64 ((i:Int)+1)=((i+1:Nat):Int):=by rw [w64 (by omega) (by omega)];omega
  rw [e5]
  refine z0w (b.rs.length-(i+1)) ?_
  refine ⟨i+1,z7,by rw [hlast],by omega,rfl,?_⟩
  rw [hsn,<- List.append_assoc,hZ]
  exact hs.sub
end
def zk5 (b:BatM) (k:Nat):BatM:=⟨b.base+k,b.pid,b.epoch,if b.pid>0 then b.seq+k else b.seq,b.kind,b.time,b.x,b.rs.drop k⟩
def z0n (off:Int) (b:BatM):Option BatM:=if z04 b≠0\/off>=z1p b then none else if z0h b=true\/off<=b.base then some b else some (zk5 b (off-b.base).toNat)
def rsP (b:BatM):HP:=slc T.a2 4 b.x (b.rs.flatMap z00)
def z10 (bs:List BatM):HP:=HP.all (bs.map rsP)
section
variable {w:World} {l r:List HP}
theorem zqu (b:BatM) [hb:FocR l b.x 4 (b.rs.flatMap z00)] (hlen:b.rs.length<=1000000) (hs:Sat w l):Ret P F.a102 #[.agg (zr b).toArray] w λvs w'=>∃ z:Sl,vs=[.agg (zr (b.at z)).toArray]/\Sat w' (slc T.a2 4 z (b.rs.flatMap z00)::l) :=
 znc b.base b.pid b.epoch b.seq b.kind b.time b.x <| by
  delta z00t AE AP AW Ab Ae Ar Au Ax Bn
  refine zp hs λa0 w' hs=>?_
  refine zm hs λa1 w' hs=>?_
  refine za hs ?_
  have hs:Sat w' (slc T.a2 4 ⟨none,0,0⟩ (([]:List RecM).flatMap z00)::_):=hs.slc_nil
  refine wp_app' (x:=⟨none,0,0⟩) (xs:=([]:List RecM)) (ys:=b.rs) (enc:=z00) hs (λz w' hs=>?_) (by simp only [List.length_nil];omega)
  rw [List.nil_append] at hs
  refine z02 hs λw' hs=>?_
  refine ze hs ?_
  refine zl hs λw' hs=>?_
  refine ze hs ?_
  refine ⟨rfl,z,rfl,?_⟩
  exact hs.sub
theorem z04i (b:BatM) (k:Nat) (hk:k<=b.rs.length) (hcap:b.x.len<=b.x.cap) (hv:z04 b=0) [hb:FocR l b.x 4 (b.rs.flatMap z00)] (hs:Sat w l):Ret P F.a115 #[.agg (zr b).toArray,.int .i64 (k:Int),.int .i64 (b.x.len:Nat)] w λvs w'=>∃ z:Sl,vs=[.agg (zr ((zk5 b k).at z)).toArray]/\Sat w' (slc T.a2 4 z ((b.rs.drop k).flatMap z00)::l) :=
 znp b.base b.pid b.epoch b.seq b.kind b.time b.x _ _ <| by
  delta z016 AB AD AE AF AP AW Aa Ab Ac Ae Ar Au Ax Bn
  have hl:=hs.slen b.x (xs:=b.rs) (enc:=z00)
  obtain ⟨h64,-⟩:=z26 hv
  obtain ⟨-,-,⟨-,hba,hpi,-,hsq,-⟩,-,-⟩:=z17 b hv
  refine zp hs λa0 w' hs=>?_
  refine zm hs λa1 w' hs=>?_
  refine ze hs ?_
  refine zm hs λa9 w' hs=>?_
  refine zl hs λw' hs=>?_
  refine za hs ?_
  refine wp_must (by omega) ?_
  rw [Int.toNat_natCast,Int.toNat_natCast]
  have hf:FocR (pt a9 (.cells #[.int .i64 b.base,.int .i64 b.pid,.int .i64 b.epoch,.int .i64 b.seq,.int .i64 b.kind,.int .i64 b.time,.slice b.x.a b.x.len b.x.cap] T.a0)::pt a1 (.cells #[.int .i64 0,.int .i64 0,.int .i64 0,.int .i64 0,.int .i64 0,.int .i64 0,.slice none 0 0] T.a0)::pt a0 (.cells #[.int .i64 b.base,.int .i64 b.pid,.int .i64 b.epoch,.int .i64 b.seq,.int .i64 b.kind,.int .i64 b.time,.slice b.x.a b.x.len b.x.cap] T.a0)::l) ⟨z12 b.x.a 4 k b.x.cap,b.x.len-k,b.x.cap-k⟩ 4 ((b.rs.drop k).flatMap z00):=FocR.post hcap
  have hs:Sat w' (slc T.a2 4 ⟨none,0,0⟩ (([]:List RecM).flatMap z00)::_):=hs.slc_nil
  refine wp_app' (x:=⟨none,0,0⟩) (y:=⟨z12 b.x.a 4 k b.x.cap,b.x.len-k,b.x.cap-k⟩) (xs:=([]:List RecM)) (ys:=b.rs.drop k) (enc:=z00) hs (λz w' hs=>?_) (by simp only [List.length_nil,List.length_drop];omega)
  rw [List.nil_append] at hs
  refine z02 hs λw' hs=>?_
  refine za hs ?_
  rw [w64 (by omega) (by omega)]
  refine z02 hs λw' hs=>?_
  refine za hs ?_
  refine zk (λ_ w'=>Sat w' (pt a9 (.cells [.int .i64 (b.base+k),.int .i64 b.pid,.int .i64 b.epoch,.int .i64 (if b.pid>0 then b.seq+k else b.seq),.int .i64 b.kind,.int .i64 b.time,.slice z.a z.len z.cap].toArray T.a0)::slc T.a2 4 z ((b.rs.drop k).flatMap z00)::pt a1 (.cells #[.int .i64 0,.int .i64 0,.int .i64 0,.int .i64 0,.int .i64 0,.int .i64 0,.slice none 0 0] T.a0)::l)) ?_ ?_
  ·refine zg (λh=>?_) λh=>?_
   ·refine za hs ?_
    rw [w64 (by omega) (by omega)]
    refine z02 hs λw' hs=>?_
    refine zf ?_
    rw [if_pos h]
    exact hs.sub
   ·refine zf ?_
    rw [if_neg h]
    exact hs.sub
  clear hs
  rintro _ w2 hs
  refine ze hs ?_
  refine zl hs λw' hs=>?_
  refine ze hs ?_
  refine ⟨rfl,z,rfl,?_⟩
  exact hs.sub
theorem z03k (b:BatM) (off:Int) (ho : -9223372036854775808<=off/\off<9223372036854775808) (hcap:b.x.len<=b.x.cap) [hb:FocR l b.x 4 (b.rs.flatMap z00)] (hs:Sat w l):Ret P F.a106 #[.agg (zr b).toArray,.int .i64 off] w λvs w' =>
  (z0n off b=none/\vs=[.agg (zr zt8).toArray,.bool false]/\Sat w' l)\/(∃ (c:BatM) (z:Sl),z0n off b=some c/\vs=[.agg (zr (c.at z)).toArray,.bool true]/\Sat w' (slc T.a2 4 z (c.rs.flatMap z00)::l)) :=
 zng b.base b.pid b.epoch b.seq b.kind b.time b.x off <| by
  delta z00x AD AF AM AW Aa Ab Ac Ae Ag Ai Ao Ar Au Ax Az B7 B9 Bc Bn Bz
  have hl:=hs.slen b.x (xs:=b.rs) (enc:=z00)
  refine zp hs λa0 w' hs=>?_
  refine zm hs λa1 w' hs=>?_
  refine zk (λq w'=>q=(decide (z04 b≠0\/off>=z1p b),())/\Sat w' (pt a1 (.cells #[.int .i64 0,.int .i64 0,.int .i64 0,.int .i64 0,.int .i64 0,.int .i64 0,.slice none 0 0] T.a0)::pt a0 (.cells (cB b) T.a0)::l)) ?_ ?_
  ·refine ze hs ?_
   refine z8 (z9h b hs) λ_ w' hs=>?_
   obtain ⟨rfl,hs⟩:=hs
   refine zb ?_
   refine ze hs ?_
   refine zg (λh=>?_) λh=>?_
   ·exact zf ⟨by rw [decide_eq_true (.inl h)],hs⟩
   ·refine z8 (z9e b hs) λ_ w' hs=>?_
    obtain ⟨rfl,hs⟩:=hs
    refine zb ?_
    refine wp_lt ?_
    refine zf ⟨?_,hs⟩
    rw [decide_eq_decide.2 (show (z04 b≠0\/off>=z1p b)↔off>=z1p b from ⟨λhh=>hh.resolve_left h,.inr⟩)]
  rintro _ w2 ⟨rfl,hs⟩
  refine zg (λh=>?_) λh=>?_
  ·have h:z04 b≠0\/off>=z1p b:=by simpa using h
   refine zl hs λw' hs=>?_
   refine ze hs ?_
   refine ⟨rfl,.inl ⟨by unfold z0n;rw [if_pos h],rfl,hs.tail.tail⟩⟩
  have h:¬ (z04 b≠0\/off>=z1p b):=by simpa using h
  have hv:z04 b=0:=Decidable.byContradiction λhh=>h (.inl hh)
  have hno:off<z1p b:=by
   apply Decidable.byContradiction;intro hh;exact h (.inr (by omega))
  have hnx:z1p b=b.base+zq b:=by unfold z1p;rw [if_neg (by rw [hv];simp)]
  obtain ⟨h64,-⟩:=z26 hv
  obtain ⟨-,-,⟨-,hba,-⟩,-,-⟩:=z17 b hv
  refine ze hs ?_
  refine z8 (z6p b hs) λ_ w' hs=>?_
  obtain ⟨rfl,hs⟩:=hs
  refine zb ?_
  refine za hs ?_
  refine wp_lt ?_
  refine zg (λh2=>?_) λh2=>?_
  ·refine ze hs ?_
   refine z8 (zqu b (by omega) hs) λ_ w' hs=>?_
   obtain ⟨z,rfl,hs⟩:=hs
   refine ⟨(b.base,b.pid,b.epoch,b.seq,b.kind,b.time,z,()),rfl,trivial,zkc _ _ _ _ _ _ _ ?_⟩
   refine zl hs λw' hs=>?_
   refine ze hs ?_
   refine ⟨rfl,.inr ⟨b,z,by unfold z0n;rw [if_neg h,if_pos h2],rfl,hs.sub⟩⟩
  ·have hm:z0h b=false:=by
    cases hm:z0h b with
    | false=>rfl
    | true=>exact absurd (.inl hm) h2
   have hob:¬ off<=b.base:=λhh=>h2 (.inr hh)
   have hsp:zq b=b.rs.length:=by unfold zq;rw [hm];simp
   refine ze hs ?_
   refine za hs ?_
   refine za hs ?_
   rw [w64 (by omega) (by omega)]
   have eo:off-b.base=(((off-b.base).toNat:Nat):Int):=by omega
   rw [eo]
   refine z8 (z04i b (off-b.base).toNat (by omega) hcap hv hs) λ_ w' hs=>?_
   obtain ⟨z,rfl,hs⟩:=hs
   refine ⟨(b.base+(off-b.base).toNat,b.pid,b.epoch,(if b.pid>0 then b.seq+(off-b.base).toNat else b.seq),b.kind,b.time,z,()),rfl,trivial,zkc _ _ _ _ _ _ _ ?_⟩
   refine zl hs λw' hs=>?_
   refine ze hs ?_
   refine ⟨rfl,.inr ⟨zk5 b (off-b.base).toNat,z,by unfold z0n;rw [if_neg h,if_neg h2],rfl,(show Sat w' (slc T.a2 4 z ((b.rs.drop (off-b.base).toNat).flatMap z00)::l) from hs.sub)⟩⟩
end
instance {b:Nat}:AddrIs ((Addr.add ⟨b,0,none⟩ 1).add 1) b 2:=⟨rfl⟩
instance {b:Nat}:AddrIs ((Addr.add ⟨b,0,none⟩ 1).add 2) b 3:=⟨rfl⟩
section
variable {P:Program} {w:World} {l r:List HP} {Q:Post} {S:World->Prop} {T:TypeId} {sz:Nat} {x y:Sl} {cs ds:List Value}
theorem Sat.slc_pre {n:Nat} (hs:Sat w (slc T sz x cs::l)) (hn:n<=x.len):Sat w (slc T sz ⟨x.a,n,x.cap⟩ (cs.take (n*sz))::l):=by
 refine hs.imp λp hp=>?_
 rcases hp with ⟨h1,h2,h3,rfl⟩|⟨b,off,arr,fr,ha,hb,hlen,hle,hsz,hc,hf⟩
 ·exact .inl ⟨h1,by dsimp only;omega,h3,by simp⟩
 ·have hnl:n*sz<=x.len*sz:=Nat.mul_le_mul_right _ hn
  refine .inr ⟨b,off,arr,fr,ha,hb,?_,by dsimp only;omega,hsz,λi hi=>?_,hf⟩
  ·rw [List.length_take,hlen];dsimp only;omega
  ·rw [List.length_take] at hi
   rw [hc i (by omega),List.getElem?_take,if_pos (by omega)]
theorem zwx {b off o:Nat} {vs:List Value} (hs:Sat w (slc T sz x cs::l)) (ha:x.a=some ⟨b,off,none⟩) (ho:o+vs.length<=x.cap*sz) (h1:∀ v ∈ vs,v.oneCell'=true) :
  ∃ w',(storeCells ⟨b,off+o,none⟩ vs).run P w=.ok () w'/\(cs.length<=o->Sat w' (slc T sz x cs::l))/\(o+vs.length<=cs.length->Sat w' (slc T sz x (cs.take o++vs++cs.drop (o+vs.length))::l)):=by
 obtain ⟨p1,p2,q1,q2,hd,hA,hl⟩:=hs
 rcases hA with ⟨ha',_,_,_⟩|⟨b',off',arr,fr,ha',hb,hlen,hle,hsz,hcs,hf⟩
 ·rw [ha] at ha';cases ha'
 rw [ha] at ha'
 obtain ⟨rfl,rfl⟩:b=b'/\off=off':=by cases ha';exact ⟨rfl,rfl⟩
 have hbw:w.heap[b]? = some (.cells arr T fr):=q1 b _ hb
 have hset:Sat w (pt b (.cells arr T fr)::l):=⟨p1,p2,q1,q2,hd,hb,hl⟩
 refine ⟨_,z82 (P:=P) vs (off:=off+o) (i:=0) hbw (by omega) (λi h1 h2=>hf i (by omega) (by omega)) h1,λh=>?_,λh=>?_⟩
 ·refine hset.set.imp λp hp=>.inr ⟨b,off,_,fr,ha,hp,hlen,hle,by rw [z4a];exact hsz,λi hi=>?_,hf⟩
  rw [getElem?_putCells vs (by omega),if_neg (by omega),hcs i hi]
 ·refine hset.set.imp λp hp=>.inr ⟨b,off,_,fr,ha,hp,?_,hle,by rw [z4a];exact hsz,λi hi=>?_,hf⟩
  ·rw [List.length_append,List.length_append,List.length_take,List.length_drop];omega
  ·rw [List.length_append,List.length_append,List.length_take,List.length_drop] at hi
   rw [getElem?_putCells vs (by omega)]
   by_cases h2:i<o
   ·rw [if_neg (by omega),hcs i (by omega),List.getElem?_append_left (by simp;omega),List.getElem?_append_left (by simp;omega),List.getElem?_take,if_pos h2]
   by_cases h3:i<o+vs.length
   ·rw [if_pos (by omega),List.getElem?_append_left (by simp;omega),List.getElem?_append_right (by simp;omega),List.length_take]
    congr 1;omega
   ·rw [if_neg (by omega),hcs i (by omega),List.getElem?_append_right (by simp;omega),List.getElem?_drop,List.length_append,List.length_take]
    congr 1;omega
theorem zxn {t tx ty:TypeId} {i:TypeInfo} (ht:P.underlying t=some (.slice T)) (hi:P.info? T=some i)
  (hs:Sat w (slc T i.size x cs::l)) {v:Value} {n:Nat} (hsrc:Src P i.size tx v n ds w) (hroom:x.len+n<=x.cap) :
  ∃ w',(app t tx ty x.v v).run P w=.ok (Sl.mk x.a (x.len+n) x.cap).v w'/\Sat w' (slc T i.size ⟨x.a,x.len+n,x.cap⟩ (cs++ds)::l):=by
 have hs':=hs
 obtain ⟨p1,p2,h1,h2,hd,hA,hl⟩:=hs
 rcases hA with ⟨ha,hl0,hc0,rfl⟩|⟨b,off,arr,fr,ha,hb,hlen,hle,hsz,hcs,hf⟩
 ·have hn0:n=0:=by omega
  subst hn0
  have hds:ds=[]:=List.length_eq_zero_iff.1 (by rw [hsrc.newsLen,Nat.zero_mul])
  subst hds
  obtain ⟨a,ln,cp⟩:=x
  simp only at ha hl0 hc0
  subst ha hl0 hc0
  refine ⟨w,?_,hs'⟩
  rcases hsrc.kind with ⟨e',hk⟩|hk <;>
   simp [app,Builtin.append_,run_underlying ht,run_underlying hk,sizeOf,typeInfo,hi,hsrc.len,hsrc.cells]
 ·have hbw:w.heap[b]? = some (.cells arr T fr):=h1 b _ hb
  obtain ⟨a,ln,cp⟩:=x
  simp only at ha hlen hle hsz hf hroom
  subst ha
  have hfit:off+ln*i.size+ds.length<=arr.size:=by
   rw [hsrc.newsLen,Nat.add_assoc,<- Nat.add_mul]
   exact Nat.le_trans (Nat.add_le_add_left (Nat.mul_le_mul_right _ hroom) _) hsz
  have hrun:=run_append_room_src (P:=P) w t tx ty T i ht hi b off ln cp v n ds hsrc hroom
   (λj hj=>by rw [z55 hbw];simp;omega)
   (λj hj=>by
    have h3:ln*i.size+ds.length<=cp*i.size:=by rw [hsrc.newsLen,<- Nat.add_mul];exact Nat.mul_le_mul_right _ hroom
    have:=hf (off+ln*i.size+j) (by omega) (by omega)
    simp only [World.frozen?,hbw]
    simpa using this)
  rw [zat ds hbw] at hrun
  refine ⟨_,hrun,?_⟩
  have hset:Sat w (pt b (.cells arr T fr)::l):=⟨p1,p2,h1,h2,hd,hb,hl⟩
  refine hset.set.imp λp hp=>.inr ⟨b,off,_,fr,rfl,hp,?_,hroom,?_,λj hj=>?_,hf⟩
  ·rw [List.length_append,hlen,hsrc.newsLen,Nat.add_mul]
  ·rw [z4a];exact hsz
  ·rw [List.length_append,hlen] at hj
   rw [getElem?_putCells ds hfit]
   by_cases hjl:j<ln*i.size
   ·rw [if_neg (by omega),hcs j (by omega),List.getElem?_append_left (by omega)]
   ·rw [if_pos (by omega),List.getElem?_append_right (by omega),hlen]
    congr 1;omega
theorem z04y {α:Type} {enc:α->List Value} {xs ys:List α} {tx ty el el':TypeId} {t:TypeId} {bytes sz' bytes':Nat} {k:Sl->Prog} (hs:Sat w (slc el sz x (xs.flatMap enc)::r)) [ht:SlT P t el sz bytes] [htx:SlT P tx el' sz' bytes'] (hy:Rd w sz y (ys.flatMap enc)) [hE:EncN enc sz]
  (hroom:x.len+y.len<=x.cap) (h:∀ w',Sat w' (slc el sz ⟨x.a,x.len+y.len,x.cap⟩ ((xs++ys).flatMap enc)::r)->(k ⟨x.a,x.len+y.len,x.cap⟩).wp P S w' Q) (hS:∀ w',S w':=by exact λ_=>trivial) :
  (Prog.act (app t tx ty (.slice x.a x.len x.cap) (.slice y.a y.len y.cap)) sL (u1 k)).wp P S w Q:=by
 obtain ⟨i,z,hi,rfl,rfl,hz,hzs⟩:=ht.parts
 obtain ⟨w',hrun,hs'⟩:=zxn (ty:=ty) ht.ok.1 hi hs (zx0 ⟨_,htx.ok.1⟩ hy λu hu=>by
  obtain ⟨a,-,hu⟩:=List.mem_flatMap.1 hu
  exact hE.one a u hu) hroom
 rw [<- List.flatMap_append] at hs'
 exact ⟨(⟨x.a,x.len+y.len,x.cap⟩,()),w',hrun,hS _,h w' hs'⟩
theorem zlq {z:Array Value} (h:∀ v ∈ z.toList,v.oneCell'=true) {n:Nat}:∀ v ∈ (Builtin.zeroCells z n).toList,v.oneCell'=true:=λv hv=>by
 unfold Builtin.zeroCells at hv
 simp only [Array.toList_map,List.mem_map,Array.mem_toList_iff,Array.mem_range] at hv
 obtain ⟨i,hi,rfl⟩:=hv
 have hp:0<z.size:=by
  rcases Nat.eq_zero_or_pos z.size with h0|h0
  ·rw [h0,Nat.mul_zero] at hi;omega
  ·exact h0
 have hm:=Nat.mod_lt i hp
 rw [getElem!_pos z _ hm]
 exact h _ (by simp)
theorem z04k {t ty:TypeId} {i:TypeInfo} {z:Value} (ht:P.underlying t=some (.slice T)) (hi:P.info? T=some i) (hz:i.zero=some z) (hzs:z.cells.size=sz) (h1:∀ v ∈ z.cells.toList,v.oneCell'=true)
  (hs:Sat w (slc T sz x cs::l)) {n m c:Nat} (hn:x.len<=n) (hm:n+m<=x.cap) :
  ∃ w',(Builtin.clear_ #[t] ty #[.slice (x.a.map λa=>a.add (n*sz)) m c]).run P w=.ok (.tuple #[]) w'/\Sat w' (slc T sz x cs::l):=by
 have hlen:=hs.rd.1
 cases ha:x.a with
 | none=>exact ⟨w,by simp [Builtin.clear_,run_underlying ht],hs⟩
 | some a =>
  obtain ⟨b,off,s⟩:=a
  have hs2:=hs
  obtain ⟨p1,p2,q1,q2,hd,hA,hl⟩:=hs2
  have hsn:s=none:=by
   rcases hA with ⟨ha',_,_,_⟩|⟨b',off',arr,fr,ha',hb,hlen,hle,hsz,hcs,hf⟩
   ·rw [ha] at ha';cases ha'
   ·rw [ha] at ha';cases ha';rfl
  subst hsn
  cases m with
  | zero=>exact ⟨w,by simp [Builtin.clear_,run_underlying ht],hs⟩
  | succ m =>
   have hle:(n+(m+1))*sz<=x.cap*sz:=Nat.mul_le_mul_right _ hm
   rw [Nat.add_mul] at hle
   have hnl:x.len*sz<=n*sz:=Nat.mul_le_mul_right _ hn
   obtain ⟨w',hrun,hsat,-⟩:=zwx (P:=P) (o:=n*sz) (vs:=(Builtin.zeroCells z.cells (m+1)).toList) hs ha (by rw [Array.length_toList,size_zeroCells,hzs];exact hle) (zlq h1)
   refine ⟨w',?_,hsat (by omega)⟩
   have e:((⟨b,off,none⟩:Addr).add (n*sz))=⟨b,off+n*sz,none⟩:=z4c _ _ _
   simp [Builtin.clear_,run_underlying ht,zeroValue,typeInfo,hi,hz,e,hrun]
theorem z06x {t ty el:TypeId} {bytes:Nat} {k:Prog} [ht:SlT P t el sz bytes] (hs:Sat w (slc el sz x cs::l)) {n m c:Nat} (hn:x.len<=n) (hm:n+m<=x.cap)
  (h:∀ w',Sat w' (slc el sz x cs::l)->k.wp P S w' Q) (h1:((P.info? el).bind (·.zero)).all (λz=>z.cells.toList.all (·.oneCell'))=true:=by kernel_rfl) (hS:∀ w',S w':=by exact λ_=>trivial) :
  (Prog.act (Builtin.clear_ #[t] ty #[.slice (z12 x.a sz n x.cap) m c]) (.tup []) (u0 k)).wp P S w Q:=by
 obtain ⟨i,z,hi,rfl,rfl,hz,hzs⟩:=ht.parts
 rw [hi] at h1
 have h1:z.cells.toList.all (·.oneCell')=true:=by
  have h2:(i.zero).all (λz=>z.cells.toList.all (·.oneCell'))=true:=h1
  rw [hz] at h2;exact h2
 rw [List.all_eq_true] at h1
 by_cases hc:x.cap=n
 ·have hm0:m=0:=by omega
  subst hm0
  refine ⟨(),w,?_,hS _,h _ hs⟩
  cases ha:z12 x.a i.size n x.cap with
  | none=>simp [Builtin.clear_,run_underlying ht.ok.1,Sh.mk]
  | some a=>simp [Builtin.clear_,run_underlying ht.ok.1,Sh.mk]
 ·obtain ⟨w',hrun,hs'⟩:=z04k (ty:=ty) ht.ok.1 hi hz hzs h1 hs hn hm (c:=c)
  refine ⟨(),w',?_,hS _,h _ hs'⟩
  unfold z12
  rw [if_neg hc]
  exact hrun
end
end Go.Dec
