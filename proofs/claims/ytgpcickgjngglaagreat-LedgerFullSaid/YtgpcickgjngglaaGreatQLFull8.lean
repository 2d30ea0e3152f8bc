/- What the claim of this folder leans on: our own texts, joined, without what it does not use. -/
import Derived.Test.YtgpcickgjngglaaGreatRows
import Derived.WalkKit
import Derived.ProofKit
import Derived.OpenShut
import Derived.RowKit3
import Derived.OrdersHeld
import Derived.Scope
import Derived.KernelRfl
import Derived.Laws.Sem
import Derived.Laws.StructEq
import Derived.Deep.AppendSrc
import Derived.Laws.BytesArg
import Derived.Laws.RangeString
import Derived.Maps.RangeRun
import Derived.Lib.ConvBytes
import Derived.Lib.SlBytesConst
import Derived.ChangeSlices
import Derived.ChangeMaps5
import Derived.ChangeSame
import Derived.Deep.Slices
import Derived.Deep.Fields
import Derived.Test.YtgpcickgjngglaaGreatProg
import Derived.Laws.MakeOwn
import Derived.WideKeyRuns
import Derived.DeepKeys3
import Derived.Sort.MapsRangeIn
import Derived.Sort.KeysCollected
import Derived.RangeFuncNested
import Derived.RangeFuncBound
import Derived.RangeFuncCalls
import Derived.RangeFuncLeaves
import Derived.RangeFuncBox
import Derived.OwnWalkIn
import Derived.TacticsInMore
import Derived.RegionIn
import Derived.LoopNIn
import Derived.LoopIn
import Derived.Maps.AppendAt
import Derived.Shelf.Abstract
import Derived.Shelf.Sort.Plain
import Derived.Shelf.Slices.In.SortNone
import Derived.Lib.AppendZerosOnto
import Derived.Lib.Overlaps
import Derived.Test.YtgpcickgjngglaaGreatQLFull1
import Derived.Test.YtgpcickgjngglaaGreatQLFull2
import Derived.Test.YtgpcickgjngglaaGreatQLFull3
import Derived.Test.YtgpcickgjngglaaGreatQLFull4
import Derived.Test.YtgpcickgjngglaaGreatQLFull5
import Derived.Test.YtgpcickgjngglaaGreatQLFull6
import Derived.Test.YtgpcickgjngglaaGreatQLFull7
set_option linter.unusedVariables false
set_option linter.unusedSimpArgs false
namespace Go.Dec
structure SegM where
 ix:Nat
 s:SegA
structure LogM where
 d:Nat
 pre:ByteArray
 seg:Int
 gap:Int
 z:Sl
 SM:List (Nat × SegM)
structure LogA where
 d:Nat
 pre:ByteArray
 seg:Int
 gap:Int
 l:List SegA
def LogM.l (M:LogM):List SegA:=M.SM.map λt=>t.2.s
def LogM.A (M:LogM):LogA:=⟨M.d,M.pre,M.seg,M.gap,M.l⟩
def z1s (b:Nat):List Value:=[.pointer (some ⟨b,0,none⟩)]
instance:Enc1 z1s .ptr (λb=>some ⟨b,0,none⟩):=⟨λ_=>rfl⟩
instance:EncN z1s 1:=⟨λ_=>rfl,by decide,by simp [z1s,Value.oneCell']⟩
def z0q (gap:Int) (a:Nat) (t:SegM):HP:=HP.star (pt a (.cells #[.pointer (some ⟨t.ix,0,none⟩),.int .i64 t.s.base,.int .i64 t.s.fin,.int .i64 (z0f t.s.bs),.int .i64 (z1g (-1) t.s.bs),.int .i64 (t.s.file.length:Nat)] T.a48)) (z2i t.ix (t.s.idx gap))
structure okM (gap seg:Int) (pre:ByteArray):Prop where
 gap:1<=gap/\gap<=4194304
 seg:64<=seg/\seg<=4194304
 pre:z1w pre=true
def lgQ (lg:Nat) (M:LogM):HP:=HP.and (okM M.gap M.seg M.pre) (HP.star (pt lg (.cells #[.pointer (some ⟨M.d,0,none⟩),.string M.pre,.int .i64 M.seg,.int .i64 M.gap,.slice M.z.a M.z.len M.z.cap] T.a47))
 (HP.star (slc T.a32 1 M.z ((M.SM.map Prod.fst).flatMap z1s)) (HP.all (M.SM.map λt=>z0q M.gap t.1 t.2))))
def lgP (lg:Nat) (A:LogA):HP:=HP.ex λM:LogM=>HP.and (M.A=A) (lgQ lg M)
def z002:Option Nat->Option Addr
 | none=>none
 | some b=>some ⟨b,0,none⟩
section
variable {w:World} {l r:List HP} {lg:Nat} {M:LogM} {A:LogA} {gap:Int} {a:Nat} {t:SegM}
theorem z44 (hs:Sat w (z0q gap a t::l)):Sat w (pt a (.cells #[.pointer (some ⟨t.ix,0,none⟩),.int .i64 t.s.base,.int .i64 t.s.fin,.int .i64 (z0f t.s.bs),.int .i64 (z1g (-1) t.s.bs),.int .i64 (t.s.file.length:Nat)] T.a48)::z2i t.ix (t.s.idx gap)::l):=hs.star
theorem z2t (t:SegM) (hs:Sat w (pt a (.cells #[.pointer (some ⟨t.ix,0,none⟩),.int .i64 t.s.base,.int .i64 t.s.fin,.int .i64 (z0f t.s.bs),.int .i64 (z1g (-1) t.s.bs),.int .i64 (t.s.file.length:Nat)] T.a48)::z2i t.ix (t.s.idx gap)::l)):Sat w (z0q gap a t::l):=.star_mk hs
theorem z2w (hs:Sat w (lgQ lg M::l)):okM M.gap M.seg M.pre/\Sat w (pt lg (.cells #[.pointer (some ⟨M.d,0,none⟩),.string M.pre,.int .i64 M.seg,.int .i64 M.gap,.slice M.z.a M.z.len M.z.cap] T.a47)::slc T.a32 1 M.z ((M.SM.map Prod.fst).flatMap z1s)::HP.all (M.SM.map λt=>z0q M.gap t.1 t.2)::l):=by
 obtain ⟨h,hs⟩:=hs.and
 have hs:=hs.star
 exact ⟨h,((hs.pick [1]).star).pick [2]⟩
theorem z1p (M:LogM) (h:okM M.gap M.seg M.pre) (hs:Sat w (pt lg (.cells #[.pointer (some ⟨M.d,0,none⟩),.string M.pre,.int .i64 M.seg,.int .i64 M.gap,.slice M.z.a M.z.len M.z.cap] T.a47)::slc T.a32 1 M.z ((M.SM.map Prod.fst).flatMap z1s)::HP.all (M.SM.map λt=>z0q M.gap t.1 t.2)::l)):Sat w (lgQ lg M::l):=by
 refine .and_mk h (.star_mk ?_)
 exact ((hs.pick [1,1]).star_mk).pick [1]
theorem z83 (hs:Sat w (lgP lg A::l)):∃ M:LogM,M.A=A/\Sat w (lgQ lg M::l):=by
 obtain ⟨M,hs⟩:=hs.ex
 obtain ⟨h,hs⟩:=hs.and
 exact ⟨M,h,hs⟩
theorem z4l (M:LogM) (hs:Sat w (lgQ lg M::l)):Sat w (lgP lg M.A::l):=.ex_mk M (.and_mk rfl hs)
theorem zjc:∀ (j n:Nat),z2u (j+1) n=z5q (n / 16 ^ j % 16)::z2u j n
 | 0,n=>by simp [z2u]
 | j+1,n=>by
  show z2u (j+1) (n / 16)++[z5q (n % 16)]=_
  rw [zjc j (n / 16)]
  have e:n / 16 / 16 ^ j=n / 16 ^ (j+1):=by rw [Nat.div_div_eq_div_mul,Nat.pow_succ,Nat.mul_comm]
  rw [e]
  rfl
theorem z05f (k:Nat) (c:UInt8):∀ (xs:List UInt8),(List.replicate (k+1) (0:UInt8)++xs).set k c=List.replicate k 0++c::xs:=by
 induction k with
 | zero=>intro xs;rfl
 | succ k ih=>intro xs;rw [List.replicate_succ,List.cons_append,List.set_cons_succ,ih,List.replicate_succ,List.cons_append]
theorem z09s (n:Nat) (h:n<18446744073709551616):BitVec.toNat (BitVec.ofInt 64 (n:Int) &&& BitVec.ofInt 64 15)=n % 16:=by
 rw [BitVec.ofInt_natCast,BitVec.toNat_and,BitVec.toNat_ofNat,Nat.mod_eq_of_lt h]
 show n &&& 15=n % 16
 exact Nat.and_two_pow_sub_one_eq_mod n 4
theorem z062 {k:Nat} (h:k<16):bt (ByteArray.mk #[48,49,50,51,52,53,54,55,56,57,97,98,99,100,101,102]) (k:Int)=(((z5q k).toNat:Nat):Int):=by
 have:∀ k:Fin 16,bt (ByteArray.mk #[48,49,50,51,52,53,54,55,56,57,97,98,99,100,101,102]) (k.val:Int)=(((z5q k.val).toNat:Nat):Int):=by decide +kernel
 exact this ⟨k,h⟩
theorem z07q {P:Program} {t el:TypeId} {bytes:Nat} {Q:Post} {S:World->Prop} {k:Sl->Prog} [ht:SlT P t el 1 bytes] [hz:Zer P el (.int .u8 0)] (n:Nat) (hs:Sat w l) (h:∀ x w',Sat w' (slc el 1 x ((List.replicate n (0:UInt8)).flatMap zj)::l)->(k x).wp P S w' Q) (hb:n*bytes<=281474976710656/\n<=9223372036854775807) (hS:∀ w',S w':=by exact λ_=>trivial) :
  (Prog.act (Instr.makeSlice t (.int .i64 (n:Int)) (.int .i64 (n:Int))) sL (u1 k)).wp P S w Q:=by
 obtain ⟨i,z,hi,h2,h3,h4,h5⟩:=ht.parts
 have hz':z=.int .u8 0:=by
  have:=hz.ok
  unfold za2 at this
  rw [hi] at this
  simp only at this
  rw [h4] at this
  exact Option.some.inj this
 have hrun:=run_make (P:=P) w t el i z ht.ok.1 hi h4 .i64 .i64 n n (by omega) (Int.le_refl _) (by rw [h3,<- Int.natCast_mul,Nat.mul_comm];omega) (by omega)
 simp only [Int.toNat_natCast] at hrun
 have hp:=hs.push (o:=.cells (madeCells z.cells (n*i.size)) el) (w':=w.alloc (.cells (madeCells z.cells (n*i.size)) el)) rfl
 refine ⟨(⟨some ⟨w.heap.size,0,none⟩,n,n⟩,()),_,hrun,hS _,h ⟨some ⟨w.heap.size,0,none⟩,n,n⟩ _ ?_⟩
 refine hp.imp λp hp=>.inr ⟨w.heap.size,0,_,_,rfl,hp,by rw [z3m,List.length_replicate],Nat.le_refl _,by rw [size_madeCells,h2];simp,λj hj=>?_,z2n _ _⟩
 rw [z3m,List.length_replicate,Nat.mul_one] at hj
 rw [h2,Nat.mul_one,Nat.zero_add,zaa,hz']
 have e1:(madeCells (Value.int .u8 0).cells n)[j]? = some (.int .u8 0):=by
  rw [Array.getElem?_eq_getElem (by rw [size_madeCells];exact hj)]
  simp [madeCells,Value.cells,Nat.mod_one]
 rw [e1,List.getElem?_map,List.getElem?_replicate,if_pos hj]
 rfl
theorem z86 (base:Int) (h:0<=base/\base<17592186044416) (x:ByteArray) (hx:x.size<=100) {d_:Value} {seg gp:Value} {zz:Value} (pre:ByteArray) (hp:pre.size<=100) [hf:FocB l lg (.cells [d_,.string pre,seg,gp,zz].toArray T.a47) r] (hs:Sat w l) :
  Ret P F.a130 #[.pointer (some ⟨lg,0,none⟩),.int .i64 base,.string x] w λvs w'=>vs=[.string (zo pre base (bl x))]/\Sat w' l :=
 zon _ base x <| by
  delta z02b AC AD AE AH AI AP AQ AW Aa Ae Ag Ah Ai Ao Be
  refine z07q 11 hs (λz w' hs=>?_) (by omega)
  refine zl (λ_ w'=>Sat w' (slc T.a53 1 z ((z2u 11 base.toNat).flatMap zj)::l)) ?_ ?_
  ·refine z0b (λm v w=>∃ j:Nat,v=(((base.toNat / 16 ^ j:Nat):Int),((10-(j:Int)),()))/\j<=11/\11-j=m/\Sat w (slc T.a53 1 z ((List.replicate (11-j) 0++z2u j base.toNat).flatMap zj)::l)) 11 ⟨0,by rw [Nat.pow_zero,Nat.div_one,Int.toNat_of_nonneg h.1];rfl,by omega,rfl,by simpa [z2u] using hs⟩ ?_
   clear hs
   rintro m _ w ⟨j,rfl,hj,hm,hs⟩
   refine zk ?_
   refine zf (λhc=>?_) λhc=>?_
   rotate_left
   ·have:j=11:=by omega
    subst this
    exact zn (zg (by simpa using hs))
   have hj2:j<=10:=by omega
   have hb:base.toNat / 16 ^ j<18446744073709551616:=by
    have:=Nat.div_le_self base.toNat (16 ^ j)
    omega
   have hmod:=Nat.mod_lt (base.toNat / 16 ^ j) (show 0<16 by omega)
   rw [z09s _ hb,w64 (by omega) (by omega)]
   refine wp_must (by omega) ?_
   rw [z062 hmod]
   refine z07p hs (xs:=List.replicate (11-j) 0++z2u j base.toNat) (enc:=zj) (10-j) (by rw [List.length_append,List.length_replicate];omega) (z5q (base.toNat / 16 ^ j % 16)) λw' hs=>?_
   refine z29 (y:=((base.toNat / 16 ^ (j+1):Nat):Int)) ?_ ?_
   ·refine z29 (y:=10-((j+1:Nat):Int)) ?_ (by rw [w64 (by omega) (by omega)];omega)
    refine z0x (11-(j+1)) ⟨j+1,rfl,by omega,rfl,?_⟩
    have e:=z05f (10-j) (z5q (base.toNat / 16 ^ j % 16)) (z2u j base.toNat)
    rw [show 10-j+1=11-j by omega] at e
    rw [e,<- zjc] at hs
    rw [show 11-(j+1)=10-j by omega]
    exact hs
   ·rw [z81 _ (by omega)]
    show ((base.toNat / 16 ^ j / 16:Nat):Int)=_
    rw [Nat.div_div_eq_div_mul,<- Nat.pow_succ]
  clear hs
  rintro _ w hs
  refine zk ?_
  refine z01 hs λw' hs=>?_
  refine zh ?_
  refine zb hs ?_
  refine wp_must (by omega) ?_
  refine zxy (bs:=z2u 11 base.toNat) hs ?_
  have h11:=z6g 11 base.toNat
  have s1:(pre++ByteArray.mk #[45]).size=pre.size+1:=ByteArray.size_append ..
  have s2:(ByteArray.mk (z2u 11 base.toNat).toArray).size=11:=h11
  refine wp_must (by omega) ?_
  have s3:(pre++ByteArray.mk #[45]++ByteArray.mk (z2u 11 base.toNat).toArray).size=pre.size+12:=by rw [ByteArray.size_append,s1,s2]
  refine wp_must (by omega) ?_
  refine wp_lt ?_
  refine ze ?_
  refine ⟨rfl,?_,hs.tail⟩
  congr 2
  apply zct
  rw [z68]
  unfold bl
  simp only [ByteArray.data_append,Array.toList_append,List.append_assoc]
  rfl
theorem z0ac {a d:Nat} (hd:d<16) (ha:a<576460752303423488):BitVec.toNat (BitVec.ofInt 64 ((a:Int)*16) ||| BitVec.ofInt 64 (d:Int))=16*a+d:=by
 have e:(a:Int)*16=((16*a:Nat):Int):=by omega
 rw [e,BitVec.ofInt_natCast,BitVec.ofInt_natCast,BitVec.toNat_or,BitVec.toNat_ofNat,BitVec.toNat_ofNat,Nat.mod_eq_of_lt (show 16*a<2 ^ 64 by omega),Nat.mod_eq_of_lt (show d<2 ^ 64 by omega)]
 exact (Nat.two_pow_add_eq_or_of_lt (i:=4) hd a).symm
theorem zhy:∀ {r:List UInt8} {x v k:Nat},z3v x r=some v->x<16 ^ k->v<16 ^ (k+r.length)
 | [],x,v,k,h,hx=>by simp [z3v] at h;subst h;simpa using hx
 | c::r,x,v,k,h,hx=>by
  unfold z3v at h
  cases hd:z6f c with
  | none=>rw [hd] at h;cases h
  | some d =>
   rw [hd] at h
   have hd:=(z06i hd).2
   have:=zhy (k:=k+1) h (by rw [Nat.pow_succ];omega)
   rw [List.length_cons,show k+(r.length+1)=k+1+r.length by omega]
   exact this
theorem zbp (s:ByteArray) (i j:Nat):bl (s.extract i j)=((bl s).drop i).take (j-i):=by
 unfold bl
 rw [ByteArray.data_extract,Array.toList_extract,List.extract_eq_take_drop]
theorem zq8 (n x:ByteArray) (hn:n.size<=1000) (hx:x.size<=100) {d_:Value} {seg gp:Value} {zz:Value} (pre:ByteArray) (hp:pre.size<=100) [hf:FocB l lg (.cells [d_,.string pre,seg,gp,zz].toArray T.a47) r] (hs:Sat w l) :
  Ret P F.a125 #[.pointer (some ⟨lg,0,none⟩),.string n,.string x] w λvs w'=>vs=[.int .i64 (((z1f pre n (bl x)).getD 0:Nat):Int),.bool (z1f pre n (bl x)).isSome]/\Sat w' l :=
 zoi _ n x <| by
  delta z026 AE AP AQ AT Aa Ae Af Ag Ah Ai Ao Ay BN BO Be
  refine zh ?_
  refine zb hs ?_
  have e1:IntKind.wrap .i64 (((ByteArray.size pre:Nat):Int)+1)=((pre.size+1:Nat):Int):=by rw [w64 (by omega) (by omega)];omega
  have e2:IntKind.wrap .i64 (((pre.size+1:Nat):Int)+11)=((pre.size+12:Nat):Int):=by rw [w64 (by omega) (by omega)];omega
  have e3:IntKind.wrap .i64 (((pre.size+12:Nat):Int)+((ByteArray.size x:Nat):Int))=((pre.size+12+x.size:Nat):Int):=by rw [w64 (by omega) (by omega)];omega
  rw [e1]
  refine wp_lt ?_
  rw [e2,e3]
  refine wp_must ?_ ?_
  ·intro h
   have h:((n.size:Nat):Int)=((pre.size+12+x.size:Nat):Int):=by simpa using h
   omega
  have hb:z1f pre n (bl x)=if n.size=pre.size+12+x.size/\(bl n).drop (pre.size+12)=bl x then z3v 0 (((bl n).drop (pre.size+1)).take 11) else none:=by
   unfold z1f
   rw [z1d,z1d,z1d]
  refine zf (λh=>?_) λh=>?_
  ·have:z1f pre n (bl x)=none:=by
    rw [hb,if_neg]
    rintro ⟨h1,h2⟩
    rcases h with h|h
    ·apply h;rw [h1]
    ·apply h
     rw [Int.toNat_natCast]
     apply zct
     rw [zbp,h2,List.take_of_length_le]
     rw [z1d];omega
   rw [this]
   exact ⟨rfl,rfl,hs⟩
  have h1:n.size=pre.size+12+x.size:=by
   have:¬ (((n.size:Nat):Int)≠((pre.size+12+x.size:Nat):Int)):=λhh=>h (.inl hh)
   omega
  have h2:(bl n).drop (pre.size+12)=bl x:=by
   have h3:ByteArray.extract n (pre.size+12) n.size=x:=by
    apply Decidable.byContradiction
    intro hh
    exact h (.inr (by rw [Int.toNat_natCast];exact hh))
   rw [<- h3,zbp,List.take_of_length_le]
   rw [List.length_drop,z1d];omega
  rw [if_pos ⟨h1,h2⟩] at hb
  refine wp_must (by omega) ?_
  rw [Int.toNat_natCast,Int.toNat_natCast]
  have h4:(ByteArray.extract n (pre.size+1) (pre.size+12)).data.toList=((bl n).drop (pre.size+1)).take 11:=by
   have:=zbp n (pre.size+1) (pre.size+12)
   rw [show pre.size+12-(pre.size+1)=11 by omega] at this
   exact this
  refine zn8 hs λy w' hs=>?_
  rw [h4] at hs
  generalize hcs:((bl n).drop (pre.size+1)).take 11=cs at *
  have hcl:cs.length=11:=by rw [<- hcs,List.length_take,List.length_drop,z1d];omega
  have hl:=hs.slen y (xs:=cs) (enc:=zj)
  rw [hb]
  refine zl (λq w'=>∃ v:Nat,z3v 0 cs=some v/\q=((v:Int),())/\Sat w' l) ?_ ?_
  rotate_left
  ·rintro _ w2 ⟨v,hv,rfl,hs⟩
   refine wp_lt ?_
   rw [hv]
   exact ⟨rfl,rfl,hs⟩
  refine z0b (λm q w=>∃ i v:Nat,q=((v:Int),((i:Int),()))/\i<=11/\11-i=m/\z3v 0 (cs.take i)=some v/\Sat w (slc T.a53 1 y (cs.flatMap zj)::l)) 11 ⟨0,0,rfl,by omega,rfl,rfl,hs⟩ ?_
  clear hs
  rintro m _ w ⟨i,v,rfl,hi,hm,hv,hs⟩
  refine zk ?_
  refine zf (λhc=>?_) λhc=>?_
  rotate_left
  ·refine zn (zg ⟨v,?_,rfl,hs.tail⟩)
   rwa [List.take_of_length_le (by omega)] at hv
  have hil:i<cs.length:=by omega
  have hvl:=zhy (k:=0) hv (by omega)
  rw [List.length_take] at hvl
  have hvl2:v<1152921504606846976 / 16:=by
   have h5:16 ^ (0+min i cs.length)<=16 ^ 10:=Nat.pow_le_pow_right (by omega) (by omega)
   omega
  have hstep:z3v 0 (cs.take (i+1))=(z6f cs[i]).map λd=>16*v+d:=by
   rw [List.take_succ_eq_append_getElem hil,zft,hv]
   show z3v v [cs[i]]=_
   unfold z3v
   cases z6f cs[i] <;> rfl
  have hcut:∀ j,z3v 0 (cs.take j)=none->z3v 0 cs=none:=λj hj=>by
   rw [<- List.take_append_drop j cs,zft,hj];rfl
  refine z26 hs (xs:=cs) (enc:=zj) i hil ?_
  refine wp_lt ?_
  refine wp_lt ?_
  have hgo:∀ {w:World} (d:Nat),z6f cs[i]=some d->Sat w (slc T.a53 1 y (cs.flatMap zj)::l)->∃ i' v':Nat,((((16*v+d:Nat):Int),(((i+1:Nat):Int),())):Int × Int × Unit)=((v':Int),((i':Int),()))/\i'<=11/\11-i'=11-(i+1)/\z3v 0 (cs.take i')=some v'/\Sat w (slc T.a53 1 y (cs.flatMap zj)::l):=λd hd hs =>
   ⟨i+1,16*v+d,rfl,by omega,rfl,by rw [hstep,hd];rfl,hs⟩
  have hcb:=(cs[i]).toNat_lt
  have ei:IntKind.wrap .i64 ((i:Int)+1)=((i+1:Nat):Int):=by rw [w64 (by omega) (by omega)];omega
  refine zl (λq w'=>∃ d:Nat,z6f cs[i]=some d/\q=(((16*v+d:Nat):Int),())/\Sat w' (slc T.a53 1 y (cs.flatMap zj)::l)) ?_ ?_
  rotate_left
  ·rintro _ w2 ⟨d,hd,rfl,hs⟩
   rw [ei]
   exact z0x (11-(i+1)) (hgo d hd hs)
  have hor:∀ d:Nat,d<16->IntKind.wrap .i64 (((BitVec.toNat (BitVec.ofInt 64 (IntKind.wrap .i64 ((v:Int)*16)) ||| BitVec.ofInt 64 (d:Int)):Nat):Int))=((16*v+d:Nat):Int):=λd hd=>by
   rw [w64 (x:=(v:Int)*16) (by omega) (by omega),z0ac hd (by omega),w64 (by omega) (by omega)]
  refine zf (λh5=>?_) λh5=>?_
  ·have hd:z6f cs[i]=some ((cs[i]).toNat-48):=by unfold z6f;rw [if_pos (by omega)]
   have e5:IntKind.wrap .i64 (IntKind.wrap .u8 ((((cs[i]).toNat:Nat):Int)-48))=(((cs[i]).toNat-48:Nat):Int):=by
    rw [wu8 (by omega) (by omega),w64 (by omega) (by omega)];omega
   rw [e5]
   refine z29 (y:=((16*v+((cs[i]).toNat-48):Nat):Int)) ?_ (hor _ (by omega))
   exact zg ⟨_,hd,rfl,hs⟩
  refine wp_lt ?_
  refine zf (λh6=>?_) λh6=>?_
  ·have hd:z6f cs[i]=some ((cs[i]).toNat-87):=by unfold z6f;rw [if_neg (by omega),if_pos (by omega)]
   have e5:IntKind.wrap .i64 (IntKind.wrap .u8 (IntKind.wrap .u8 ((((cs[i]).toNat:Nat):Int)-97)+10))=(((cs[i]).toNat-87:Nat):Int):=by
    rw [wu8 (x:=(((cs[i]).toNat:Nat):Int)-97) (by omega) (by omega),wu8 (by omega) (by omega),w64 (by omega) (by omega)];omega
   rw [e5]
   refine z29 (y:=((16*v+((cs[i]).toNat-87):Nat):Int)) ?_ (hor _ (by omega))
   exact zg ⟨_,hd,rfl,hs⟩
  ·have hd:z6f cs[i]=none:=by unfold z6f;rw [if_neg (by omega),if_neg (by omega)]
   have hno:z3v 0 cs=none:=hcut (i+1) (by rw [hstep,hd];rfl)
   rw [hno]
   exact zn (zn (zn ⟨rfl,rfl,hs.tail⟩))
theorem zlm (base fin:Int) (hb:0<=base/\base<9223372036854775808) (hf:0<=fin/\fin<9223372036854775808) (hs:Sat w l):Ret P F.a138 #[.int .i64 base,.int .i64 fin] w λvs w'=>∃ z:Sl,vs=[z.v]/\Sat w' (slc T.a53 1 z ((shL base fin).flatMap zj)::l) :=
 zov base fin <| by
  delta z02j AP AV Ai
  refine z9h hs (enc:=zj) [(83:UInt8)] λz1 w' hs=>?_
  refine z8 (z5e base hb hs) λ_ w' hs=>?_
  obtain ⟨z2,rfl,hs⟩:=hs
  refine zd ?_
  refine z8 (z5e fin hf hs) λ_ w' hs=>?_
  obtain ⟨z3,rfl,hs⟩:=hs
  refine zd ?_
  refine z9h hs (enc:=z0g) [z1,z2,z3] λz4 w' hs=>?_
  have u1_:=z20 base
  have u2_:=z20 fin
  have f1:FocR (slc T.a45 1 z4 ([z1,z2,z3].flatMap z0g)::slc T.a53 1 z3 ((uI fin).flatMap zj)::slc T.a53 1 z2 ((uI base).flatMap zj)::slc T.a53 1 z1 (([83]:List UInt8).flatMap zj)::l) z1 1 (([83]:List UInt8).flatMap zj):=inferInstance
  have f2:FocR (slc T.a45 1 z4 ([z1,z2,z3].flatMap z0g)::slc T.a53 1 z3 ((uI fin).flatMap zj)::slc T.a53 1 z2 ((uI base).flatMap zj)::slc T.a53 1 z1 (([83]:List UInt8).flatMap zj)::l) z2 1 ((uI base).flatMap zj):=inferInstance
  have f3:FocR (slc T.a45 1 z4 ([z1,z2,z3].flatMap z0g)::slc T.a53 1 z3 ((uI fin).flatMap zj)::slc T.a53 1 z2 ((uI base).flatMap zj)::slc T.a53 1 z1 (([83]:List UInt8).flatMap zj)::l) z3 1 ((uI fin).flatMap zj):=inferInstance
  refine z8 (zqk z4 [(z1,[83]),(z2,uI base),(z3,uI fin)] (λp hp=>?_) (by show 3<=1000000;omega) hs) λ_ w' hs=>?_
  ·simp only [List.mem_cons,List.not_mem_nil,or_false] at hp
   rcases hp with rfl|rfl|rfl
   ·exact ⟨f1,by show (1:Nat)<=_;omega⟩
   ·exact ⟨f2,by show (uI base).length<=_;omega⟩
   ·exact ⟨f3,by show (uI fin).length<=_;omega⟩
  obtain ⟨z5,rfl,hs⟩:=hs
  refine zd ?_
  refine ⟨rfl,z5,rfl,?_⟩
  have e:([(z1,[83]),(z2,uI base),(z3,uI fin)]:List (Sl × List UInt8)).flatMap Prod.snd=shB base fin:=by simp [shB]
  rw [e] at hs
  have hs:Sat _ (slc T.a53 1 z5 ((shL base fin).flatMap zj)::_):=hs
  exact hs.sub
theorem zyz (x:Sl) (body:List UInt8) (base:Int) (hb:0<=base/\base<9223372036854775808) [hx:FocR l x 1 (body.flatMap zj)] (hn:body.length<=1000000000) (hs:Sat w l) :
  Ret P F.a139 #[x.v,.int .i64 base] w λvs w'=>∃ v:Int,vs=[.int .i64 v,.bool (z63 base body).isSome]/\(∀ f,z63 base body=some f->v=f)/\Sat w' l :=
 zow x base <| by
  delta z02k Aa Ae Ag Ah Ai Al Au Ay Az Bu Bv
  refine z8 (zwy x body hn hs) λ_ w' hs=>?_
  obtain ⟨p,rfl,hs⟩:=hs
  refine zd ?_
  refine z8 (zhs (p:=p) hs) λ_ _ hs=>?_
  obtain ⟨rfl,hs⟩:=hs
  refine zd ?_
  refine z8 (zij (p:=p) hs) λ_ _ hs=>?_
  obtain ⟨rfl,hs⟩:=hs
  refine zd ?_
  refine z8 (zij (p:=p) hs) λ_ _ hs=>?_
  obtain ⟨rfl,hs⟩:=hs
  refine zd ?_
  refine wp_lt ?_
  refine wp_lt ?_
  refine wp_lt ?_
  refine z8 (zw9 (p:=p) hs) λ_ w' hs=>?_
  obtain ⟨e,rfl,he,hs⟩:=hs
  refine zd ?_
  have eh:z63 base body=if (z0o (z0o (z10 (some body)).2).2).2=some []/\(z10 (some body)).1=83/\((z0o (z10 (some body)).2).1:Int)=base/\base<=1099511627776/\(z0o (z0o (z10 (some body)).2).2).1<=1099511627776/\((z0o (z0o (z10 (some body)).2).2).1=0\/base<(z0o (z0o (z10 (some body)).2).2).1) then some ((z0o (z0o (z10 (some body)).2).2).1:Int) else none:=rfl
  generalize z63 base body=HS at eh he ⊢
  generalize z10 (some body)=k at eh he ⊢
  generalize z0o k.2=m at eh he ⊢
  generalize z0o m.2=q at eh he ⊢
  have ew:IntKind.wrap .u64 base=base:=zin (by omega) (by omega)
  rw [ew]
  refine zf (λh=>?_) λh=>?_
  ·have:HS=none:=by
    rw [eh,if_neg]
    rintro ⟨h1,h2,h3,h4,h5,-⟩
    have h6:=he.2 h1
    rcases h with (((h|h)|h)|h)|h
    ·exact h h6
    ·apply h;rw [h2];rfl
    ·exact h h3
    ·omega
    ·omega
   rw [this]
   exact ⟨rfl,0,rfl,(λf hf=>by cases hf),hs⟩
  have h1:q.2=some []:=he.1 (Decidable.byContradiction λhh=>h (.inl (.inl (.inl (.inl hh)))))
  have h2:k.1=83:=by
   have:((k.1:Nat):Int)=83:=Decidable.byContradiction λhh=>h (.inl (.inl (.inl (.inr hh))))
   omega
  have h3:((m.1:Nat):Int)=base:=Decidable.byContradiction λhh=>h (.inl (.inl (.inr hh)))
  have h4:base<=1099511627776:=by
   apply Decidable.byContradiction;intro hh;exact h (.inl (.inr (by omega)))
  have h5:q.1<=1099511627776:=by
   apply Decidable.byContradiction;intro hh;exact h (.inr (by omega))
  rw [w64 (by omega) (by omega)]
  refine wp_lt ?_
  refine wp_lt ?_
  refine ⟨rfl,((q.1:Nat):Int),?_,?_,hs⟩
  ·congr 2
   rw [eh]
   by_cases h6:q.1=0\/base<q.1
   ·rw [if_pos ⟨h1,h2,h3,h4,h5,h6⟩]
    have:(((q.1:Nat):Int) == 0 || decide (((q.1:Nat):Int)>base))=true:=by
     rw [Bool.or_eq_true,beq_iff_eq,decide_eq_true_eq];omega
    rw [this];rfl
   ·rw [if_neg λhh=>h6 hh.2.2.2.2.2]
    have:(((q.1:Nat):Int) == 0 || decide (((q.1:Nat):Int)>base))=false:=by
     rw [Bool.or_eq_false_iff,beq_eq_false_iff_ne,decide_eq_false_iff_not];omega
    rw [this];rfl
  ·intro f hf
   rw [eh] at hf
   split at hf
   ·exact Option.some.inj hf
   ·cases hf
theorem ztg (x:Int) (rs:List RecM) (i:Nat) (hi:i<rs.length):z66 x (rs.take (i+1))=max (z66 x (rs.take i)) rs[i].time:=by
 rw [List.take_succ_eq_append_getElem hi]
 unfold z66
 rw [List.foldl_append]
 rfl
theorem zz9 (b:BatM) [hb:FocR l b.x 4 (b.rs.flatMap zv)] (hlen:b.rs.length<=1000000000) (hs:Sat w l):Ret P F.a140 #[.agg (z00 b).toArray] w λvs w'=>vs=[.int .i64 (z3d b)]/\Sat w' l :=
 zox b.base b.pid b.epoch b.seq b.kind b.time b.x <| by
  delta z02l AJ AM AN Aa Ab Ac Ae Af Ag Ah Ai Am Ao Ar Bb Be
  have hl:=hs.slen b.x (xs:=b.rs) (enc:=zv)
  refine zr hs λa0 w' hs=>?_
  refine zb hs ?_
  refine zl (λq w'=>q=(z66 (-1) b.rs,())/\Sat w' (pt a0 (.cells (cB b) T.a0)::l)) ?_ ?_
  ·refine z0b (λm v w=>∃ i:Nat,v=(z66 (-1) (b.rs.take i),((i:Int),()))/\i<=b.rs.length/\b.rs.length-i=m/\Sat w (pt a0 (.cells (cB b) T.a0)::l)) b.rs.length ⟨0,rfl,by omega,rfl,hs⟩ ?_
   clear hs
   rintro m _ w ⟨i,rfl,hi,hm,hs⟩
   refine zk ?_
   refine zf (λhc=>?_) λhc=>?_
   rotate_left
   ·refine zn (zg ⟨?_,hs⟩)
    rw [List.take_of_length_le (by omega)]
   have hil:i<b.rs.length:=by omega
   refine z30 hs (xs:=b.rs) (enc:=zv) i hil ?_
   refine zt hs λc w' hs=>?_
   refine zu hs λw' hs=>?_
   refine zb hs ?_
   refine z29 (y:=z66 (-1) (b.rs.take (i+1))) ?_ (by rw [ztg _ _ _ hil];split <;> omega)
   rw [wS (i:=i) (by omega)]
   exact z0x (b.rs.length-(i+1)) ⟨i+1,rfl,by omega,rfl,hs.sub⟩
  clear hs
  rintro _ w ⟨rfl,hs⟩
  refine zk ?_
  refine zb hs ?_
  refine zl (λq w'=>q=(z3d b,())/\Sat w' (pt a0 (.cells (cB b) T.a0)::l)) ?_ ?_
  ·unfold z3d
   refine zf (λh=>?_) λh=>?_
   ·refine zb hs ?_
    refine wp_lt ?_
    refine zg ⟨?_,hs⟩
    rw [if_pos (List.length_eq_zero_iff.1 (by omega))]
   ·refine zg ⟨?_,hs⟩
    rw [if_neg (by rintro h0;rw [h0] at hl;simp at hl;omega)]
  rintro _ w2 ⟨rfl,hs⟩
  refine wp_lt ?_
  exact ⟨rfl,rfl,hs.tail⟩
theorem z06q (seg gap:Int) (hs:Sat w l):Ret P F.a141 #[.agg #[.int .i64 seg,.int .i64 gap]] w λvs w'=>vs=[.bool (decide ((64<=seg/\seg<=4194304)/\(1<=gap/\gap<=4194304)))]/\Sat w' l :=
 zoy seg gap <| by
  delta z02m Ai Am Ar As Ay Bh
  refine zr hs λa0 w' hs=>?_
  refine zb hs ?_
  refine zb hs ?_
  refine zb hs ?_
  refine zb hs ?_
  refine wp_lt ?_
  refine ⟨rfl,?_,hs.tail⟩
  congr 2
  rw [Bool.eq_iff_iff,decide_eq_true_iff]
  simp only [Bool.and_eq_true,decide_eq_true_eq]
  omega
theorem z001 (s:ByteArray) (hs:Sat w l):Ret P F.a137 #[.string s] w λvs w'=>vs=[.bool (z1w s)]/\Sat w' l :=
 zou s <| by
  delta z02i AC AP AU Aa Ag Ah Ai Ao BN BO
  unfold z1w
  refine zf (λh=>?_) λh=>?_
  ·rw [decide_eq_false (by omega),Bool.false_and]
   exact ⟨rfl,rfl,hs⟩
  rw [decide_eq_true (by omega),Bool.true_and]
  refine zn8 hs λx w' hs=>?_
  have hl:=hs.slen x (xs:=bl s) (enc:=zj)
  have hsz:=z1d s
  refine zl (λ_ w'=>((bl s).all λc=>(97<=c.toNat && c.toNat<=122) || (48<=c.toNat && c.toNat<=57))=true/\Sat w' l) ?_ ?_
  rotate_left
  ·rintro _ w2 ⟨h2,hs⟩
   rw [h2]
   exact ⟨rfl,rfl,hs⟩
  refine z0b (λm v w=>∃ i:Nat,v=((i:Int),())/\i<=(bl s).length/\(bl s).length-i=m/\(((bl s).take i).all λc=>(97<=c.toNat && c.toNat<=122) || (48<=c.toNat && c.toNat<=57))=true/\Sat w (slc T.a53 1 x ((bl s).flatMap zj)::l)) (bl s).length ⟨0,rfl,by omega,rfl,rfl,hs⟩ ?_
  clear hs
  rintro m _ w ⟨i,rfl,hi,hm,hall,hs⟩
  refine zk ?_
  refine zf (λhc=>?_) λhc=>?_
  rotate_left
  ·refine zn (zg ⟨?_,hs.tail⟩)
   rwa [List.take_of_length_le (by omega)] at hall
  have hil:i<(bl s).length:=by omega
  refine z26 hs (xs:=bl s) (enc:=zj) i hil ?_
  refine wp_lt ?_
  have hstep:(((bl s).take (i+1)).all λc=>(97<=c.toNat && c.toNat<=122) || (48<=c.toNat && c.toNat<=57))=((97<=(bl s)[i].toNat && (bl s)[i].toNat<=122) || (48<=(bl s)[i].toNat && (bl s)[i].toNat<=57)):=by
   rw [List.take_succ_eq_append_getElem hil,List.all_append,hall]
   simp
  refine zdr (λh3=>?_) λh3=>?_
  ·refine zn (zn ⟨rfl,?_,hs.tail⟩)
   have hf:((97<=(bl s)[i].toNat && (bl s)[i].toNat<=122) || (48<=(bl s)[i].toNat && (bl s)[i].toNat<=57))=false:=by
    rw [Bool.eq_false_iff]
    intro hh
    simp only [Bool.not_eq_true',Bool.or_eq_false_iff,Bool.and_eq_false_iff,decide_eq_false_iff_not] at h3
    simp only [Bool.or_eq_true,Bool.and_eq_true,decide_eq_true_eq] at hh
    omega
   have:((bl s).all λc=>(97<=c.toNat && c.toNat<=122) || (48<=c.toNat && c.toNat<=57))=false:=by
    rw [<- List.take_append_drop (i+1) (bl s),List.all_append,hstep,hf]
    rfl
   rw [this]
  ·rw [wS (i:=i) (by omega)]
   refine z0x ((bl s).length-(i+1)) ⟨i+1,rfl,by omega,rfl,?_,hs⟩
   rw [hstep]
   simp only [Bool.not_eq_false',Bool.or_eq_true,Bool.and_eq_true,decide_eq_true_eq] at h3
   simp only [Bool.or_eq_true,Bool.and_eq_true,decide_eq_true_eq]
   omega
end
instance (priority:=low) AddrIs.adds {a:Addr} {b off n:Nat} [h:AddrIs a b off]:AddrIs (a.add n) b (off+n):=⟨by rw [h.ok,z21]⟩
section
variable {P:Program} {w:World} {Q:Post} {S:World->Prop}
theorem ztl {g:Prop} {o:Option Addr} {f:Addr->Prog} (h:(f ⟨0,0,none⟩).wp P S w Q) (hg:¬ g):(Prog.ex [.adr] (c1 λx=>g->o=some x) (u1 f)).wp P S w Q:=⟨(⟨0,0,none⟩,()),λh=>absurd h hg,h⟩
theorem ztk {g:Prop} {m:Sem Value} {p:Pr} {f:p.D->Prog} (x:p.D) (hg:¬ g) (h:(f x).wp P S w Q):(Prog.read g m (.one (.one p)) (u1 f)).wp P S w Q:=⟨(x,()),λh=>absurd h hg,h⟩
end
def SegA.add (s:SegA) (bs:List BatM):SegA:=⟨s.base,s.fin,s.bs++bs.map BatM.p⟩
theorem zhq (s:SegA):s.add []=s:=by unfold SegA.add;simp
theorem add_add (s:SegA) (a b:List BatM):(s.add a).add b=s.add (a++b):=by unfold SegA.add;simp
theorem zlk (bs:List BatM):(bs.map BatM.p).flatMap frL=bs.flatMap frL:=by
 rw [List.flatMap_map];rfl
theorem z77 (s:SegA) (bs:List BatM):(s.add bs).file=s.file++bs.flatMap frL:=by
 unfold SegA.file SegA.add
 simp only [List.flatMap_append,zlk,List.append_assoc]
theorem z04h (gap:Int) (s:SegA) (b:BatM):(s.add [b]).idx gap=(zaf (s.idx gap) b.base (s.file.length:Nat) (z3d b)).2:=by
 unfold SegA.idx SegA.add
 show zbv (zd8 gap) _ (s.bs++[b.p])=_
 rw [zd9,z2q]
 rw [show ((((shL s.base s.fin).length+(s.bs.flatMap frL).length:Nat)):Int)=((shL s.base s.fin).length:Int)+((s.bs.flatMap frL).length:Int) by omega]
 rfl
theorem zau {α β:Type} (f:α->β) (l:List α):(l.map f).getLast? = l.getLast?.map f:=by simp
section
variable {w:World} {l r:List HP} {lg:Nat} {M:LogM} {A:LogA} {gap:Int} {a:Nat} {t:SegM}
theorem z056 [hf:Fo l (z0q gap) a t r] (hs:Sat w l):Ret P F.a143 #[.pointer (some ⟨a,0,none⟩)] w λvs w'=>vs=[.int .i64 t.s.reach]/\Sat w' (z0q gap a t::r) :=
 zp0 _ <| by
  delta z02o AD AH AQ Aa Ae Ai Ar
  have hs:=z44 (hs.perm hf.perm)
  refine z01 hs λw' hs=>?_
  refine zh ?_
  refine zb hs ?_
  refine zh ?_
  refine zb hs ?_
  refine zh ?_
  refine zb hs ?_
  refine z29 (y:=t.s.reach) ?_ (by unfold SegA.reach;split <;> split <;> omega)
  refine ze ?_
  exact ⟨rfl,rfl,z2t t hs⟩
theorem zm0 (base fin:Int) (hb:0<=base/\base<9223372036854775808) (hf':0<=fin/\fin<9223372036854775808) [hf:Fo l lgQ lg M r] (hs:Sat w l) :
  Ret P F.a134 #[.pointer (some ⟨lg,0,none⟩),.int .i64 base,.int .i64 fin] w λvs w'=>∃ a ix,vs=[.pointer (some ⟨a,0,none⟩)]/\Sat w' (z0q M.gap a ⟨ix,⟨base,fin,[]⟩⟩::lgQ lg M::r) :=
 zor _ base fin <| by
  delta z02f AB AQ AV Aa Ae Ai Aj Al Am Ao Ar
  obtain ⟨hok,hs⟩:=z2w (hs.perm hf.perm)
  refine zh ?_
  refine zb hs ?_
  refine z8 (z06l M.gap hok.gap hs) λ_ w' hs=>?_
  obtain ⟨ix,rfl,hs⟩:=hs
  refine zd ?_
  refine wp_lt ?_
  refine z8 (zlm base fin hb hf' hs) λ_ w' hs=>?_
  obtain ⟨z,rfl,hs⟩:=hs
  refine zd ?_
  have hl:=hs.slen z (xs:=shL base fin) (enc:=zj)
  refine zr hs λa w' hs=>?_
  refine ⟨rfl,a,ix,rfl,?_⟩
  have hs:Sat w' (pt a (.cells #[.pointer (some ⟨ix,0,none⟩),.int .i64 base,.int .i64 fin,.int .i64 (z0f []),.int .i64 (z1g (-1) []),.int .i64 ((SegA.file ⟨base,fin,[]⟩).length:Nat)] T.a48)::slc T.a53 1 z ((shL base fin).flatMap zj)::z2i ix ((SegA.mk base fin []).idx M.gap)::pt lg (.cells #[.pointer (some ⟨M.d,0,none⟩),.string M.pre,.int .i64 M.seg,.int .i64 M.gap,.slice M.z.a M.z.len M.z.cap] T.a47)::slc T.a32 1 M.z ((M.SM.map Prod.fst).flatMap z1s)::HP.all (M.SM.map λt=>z0q M.gap t.1 t.2)::r):=by
   have e:(SegA.file ⟨base,fin,[]⟩).length=z.len:=by rw [z2q,hl];simp
   rw [e]
   exact hs
  have hs:=z1p M hok (hs.pick [3,3,3])
  exact z2t ⟨ix,⟨base,fin,[]⟩⟩ (hs.sub)
theorem zxp (b:BatM) (hv:zx b=0) [hf:Fo l (z0q gap) a t r] [hb:FocR r b.x 4 (b.rs.flatMap zv)] (hlen:t.s.file.length+(frL b).length<=1000000000) (hs:Sat w l) :
  Ret P F.a144 #[.pointer (some ⟨a,0,none⟩),.agg (z00 b).toArray,.int .i64 ((frL b).length:Nat)] w λvs w'=>vs=[]/\Sat w' (z0q gap a ⟨t.ix,t.s.add [b]⟩::r) :=
 zp1 _ b.base b.pid b.epoch b.seq b.kind b.time b.x _ <| by
  delta z02p AA AD AH AI AQ Aa Ae Ah Ai Al Am Ar Az Bb Bc
  obtain ⟨h64,-⟩:=z2c hv
  obtain ⟨-,-,⟨-,hba,-⟩,-,-⟩:=z15 b hv
  have hs:=z44 (hs.perm hf.perm)
  refine zr hs λa0 w' hs=>?_
  refine zi hs ?_
  refine z8 (zz9 b (by omega) hs) λ_ w' hs=>?_
  obtain ⟨rfl,hs⟩:=hs
  refine zd ?_
  refine wp_lt ?_
  refine z01 hs λw' hs=>?_
  refine zh ?_
  refine zb hs ?_
  refine zb hs ?_
  refine zh ?_
  refine zb hs ?_
  refine z8 (z06u (b:=t.ix) b.base ((t.s.file.length:Nat):Int) (z3d b) (by omega) (by omega) hs) λ_ w' hs=>?_
  obtain ⟨rfl,hs⟩:=hs
  refine zd ?_
  refine ze ?_
  refine zi hs ?_
  refine z8 (z9d b hs) λ_ w' hs=>?_
  obtain ⟨rfl,hs⟩:=hs
  refine zd ?_
  refine zh ?_
  refine z08 hs λw' hs=>?_
  refine zh ?_
  refine zb hs ?_
  refine zh ?_
  refine z08 hs λw' hs=>?_
  refine zh ?_
  refine zb hs ?_
  refine zh ?_
  rw [w64 (by omega) (by omega)]
  refine z08 hs λw' hs=>?_
  refine ⟨rfl,rfl,?_⟩
  have e1:z1q b=z0f (t.s.add [b]).bs:=by
   show _=z0f (t.s.bs++[b.p])
   rw [z3w]
   unfold z1q
   rw [if_neg (by rw [hv];simp)]
   rfl
  have e2:(if z3d b>z1g (-1) t.s.bs then z3d b else z1g (-1) t.s.bs)=z1g (-1) (t.s.add [b]).bs:=by
   show _=z1g (-1) (t.s.bs++[b.p])
   rw [zgy]
   show _=max _ (z3d b)
   split <;> omega
  have e3:((t.s.file.length:Nat):Int)+((frL b).length:Nat)=(((t.s.add [b]).file.length:Nat):Int):=by
   rw [z77,List.length_append];simp
  rw [e1,e2,e3,<- z04h] at hs
  have hs:Sat w' (pt a (.cells #[.pointer (some ⟨t.ix,0,none⟩),.int .i64 (t.s.add [b]).base,.int .i64 (t.s.add [b]).fin,.int .i64 (z0f (t.s.add [b]).bs),.int .i64 (z1g (-1) (t.s.add [b]).bs),.int .i64 ((t.s.add [b]).file.length:Nat)] T.a48)::_):=hs
  refine z2t ⟨t.ix,t.s.add [b]⟩ ?_
  exact hs.sub
theorem zgx [hf:Fo l lgQ lg M r] (hlen:M.SM.length<=1000000000) (hs:Sat w l):Ret P F.a129 #[.pointer (some ⟨lg,0,none⟩)] w λvs w'=>vs=[.pointer (z002 (M.SM.getLast?.map Prod.fst))]/\Sat w' (lgQ lg M::r) :=
 zom _ <| by
  delta z02a AA AD AH AJ AQ Ag Ah Ai Al Ao
  obtain ⟨hok,hs⟩:=z2w (hs.perm hf.perm)
  have hl:=hs.slen M.z (xs:=M.SM.map Prod.fst) (enc:=z1s)
  rw [List.length_map] at hl
  refine zh ?_
  refine zb hs ?_
  refine zf (λh=>?_) λh=>?_
  ·have:M.SM=[]:=List.length_eq_zero_iff.1 (by omega)
   rw [this]
   rw [this] at hs
   have hs:=z1p M hok (by rw [this];exact hs)
   exact ⟨rfl,rfl,hs⟩
  have h0:0<M.SM.length:=by omega
  refine z01 hs λw' hs=>?_
  refine zh ?_
  refine zb hs ?_
  refine zh ?_
  refine zb hs ?_
  rw [w64 (by omega) (by omega)]
  refine z26 hs (xs:=M.SM.map Prod.fst) (enc:=z1s) (M.SM.length-1) (by rw [List.length_map];omega) ?_
  refine ze ?_
  refine ⟨rfl,?_,z1p M hok hs⟩
  have e:M.SM.getLast?.map Prod.fst=some ((M.SM.map Prod.fst)[M.SM.length-1]'(by rw [List.length_map];omega)):=by
   rw [List.getLast?_eq_getElem?,List.getElem?_eq_getElem (by omega)]
   simp
  rw [e]
  rfl
theorem z9v {SM:List (Nat × SegM)} (hs:Sat w (HP.all (SM.map λt=>z0q gap t.1 t.2)::l)) {i:Nat} (hi:i<SM.length) :
  Sat w (z0q gap SM[i].1 SM[i].2::HP.all ((SM.eraseIdx i).map λt=>z0q gap t.1 t.2)::l):=by
 exact ((hs.all_perm ((z74 hi).map _))).all_cons
theorem z7b {SM:List (Nat × SegM)} {i:Nat} (hi:i<SM.length) (hs:Sat w (z0q gap SM[i].1 SM[i].2::HP.all ((SM.eraseIdx i).map λt=>z0q gap t.1 t.2)::l)) :
  Sat w (HP.all (SM.map λt=>z0q gap t.1 t.2)::l):=by
 have h1:Sat w (HP.all ((SM[i]::SM.eraseIdx i).map λt=>z0q gap t.1 t.2)::l):=hs.all_put
 exact h1.all_perm ((z74 hi).symm.map _)
theorem zhv [hf:Fo l lgQ lg M r] (hs:Sat w l):Ret P F.a119 #[.pointer (some ⟨lg,0,none⟩)] w λvs w'=>vs=[.int .i64 (z13 M.l)]/\Sat w' (lgQ lg M::r) :=
 zoc _ <| by
  delta z020 AA AJ AQ Aa Ae Ag Ai Ao Ar B3 Bl
  obtain ⟨hok,hs⟩:=z2w (hs.perm hf.perm)
  have hl:=hs.slen M.z (xs:=M.SM.map Prod.fst) (enc:=z1s)
  rw [List.length_map] at hl
  refine z0n ?_
  refine zb hs ?_
  refine zf (λh=>?_) λh=>?_
  ·have h:M.SM=[]:=by
    rcases h with h|h
    ·cases h
    ·exact List.length_eq_zero_iff.1 (by omega)
   have e:z13 M.l=0:=by unfold LogM.l;rw [h];rfl
   rw [e]
   exact ⟨rfl,rfl,z1p M hok hs⟩
  have h0:0<M.SM.length:=by
   apply Nat.pos_of_ne_zero
   intro h1
   exact h (.inr (by omega))
  refine zh ?_
  refine zb hs ?_
  refine z8d hs (xs:=M.SM.map Prod.fst) (enc:=z1s) 0 (by rw [List.length_map];exact h0) ?_ rfl rfl
  have e0:(M.SM.map Prod.fst)[0]'(by rw [List.length_map];exact h0)=M.SM[0].1:=by simp
  rw [e0]
  refine zh ?_
  have hs:=z44 (z9v (hs.pick [2]) h0)
  refine zb hs ?_
  refine wp_lt ?_
  have e:z13 M.l=M.SM[0].2.s.base:=by
   obtain ⟨x,xs,hx⟩:=List.exists_cons_of_length_pos h0
   simp only [LogM.l,hx,List.map_cons,z13,List.getElem_cons_zero]
  rw [e]
  refine ⟨rfl,rfl,?_⟩
  have hs:=z7b h0 (z2t M.SM[0].2 hs)
  exact z1p M hok (hs.pick [1,1])
theorem zbe [hf:Fo l lgQ lg M r] (hlen:M.SM.length<=1000000000) (hs:Sat w l):Ret P F.a120 #[.pointer (some ⟨lg,0,none⟩)] w λvs w'=>vs=[.int .i64 (zm M.l)]/\Sat w' (lgQ lg M::r) :=
 zod _ <| by
  delta z021 Aa Ae Ag Ai Al Ao Au Az B3 Bl
  obtain ⟨hok,hs⟩:=z2w (hs.perm hf.perm)
  have hl:=hs.slen M.z (xs:=M.SM.map Prod.fst) (enc:=z1s)
  rw [List.length_map] at hl
  refine z0n ?_
  refine zb hs ?_
  refine zf (λh=>?_) λh=>?_
  ·have h:M.SM=[]:=by
    rcases h with h|h
    ·cases h
    ·exact List.length_eq_zero_iff.1 (by omega)
   have e:zm M.l=0:=by unfold LogM.l;rw [h];rfl
   rw [e]
   exact ⟨rfl,rfl,z1p M hok hs⟩
  have h0:0<M.SM.length:=by
   apply Nat.pos_of_ne_zero
   intro h1
   exact h (.inr (by omega))
  have hs:=z1p M hok hs
  refine z8 (zgx (lg:=lg) hlen hs) λ_ w' hs=>?_
  obtain ⟨rfl,hs⟩:=hs
  refine zd ?_
  have e1:M.SM.getLast? = some (M.SM[M.SM.length-1]'(by omega)):=by
   rw [List.getLast?_eq_getElem?,List.getElem?_eq_getElem (by omega)]
  rw [e1]
  obtain ⟨-,hs⟩:=z2w hs
  have hs:=z9v (hs.pick [2]) (show M.SM.length-1<M.SM.length by omega)
  refine z8 (z056 (gap:=M.gap) (a:=M.SM[M.SM.length-1].1) hs) λ_ w' hs=>?_
  obtain ⟨rfl,hs⟩:=hs
  refine zd ?_
  refine wp_lt ?_
  have e:zm M.l=(M.SM[M.SM.length-1]'(by omega)).2.s.reach:=by
   unfold LogM.l zm
   rw [zau,e1]
   rfl
  rw [e]
  have hs:=z7b (show M.SM.length-1<M.SM.length by omega) hs
  exact ⟨rfl,rfl,z1p M hok (hs.pick [1,1])⟩
def z75 (seg:Int) (l:List SegA) (n:Nat):Bool:=match l.getLast? with
 | none=>false
 | some s=>decide (z0f s.bs=0) || decide (((s.file.length+n:Nat):Int)<=seg)
theorem z06e (n:Nat) (hn:n<=1000000000) [hf:Fo l lgQ lg M r] (hlen:M.SM.length<=1000000000) (hfl:∀ s ∈ M.l,s.file.length<=1000000000) (hs:Sat w l):Ret P F.a128 #[.pointer (some ⟨lg,0,none⟩),.int .i64 (n:Int)] w λvs w'=>vs=[.bool (z75 M.seg M.l n)]/\Sat w' (lgQ lg M::r) :=
 zol _ _ <| by
  delta z029 AD AH Ah Ai Al As Au Ay Bl
  refine z8 (zgx (lg:=lg) hlen hs) λ_ w' hs=>?_
  obtain ⟨rfl,hs⟩:=hs
  refine zd ?_
  refine z01 hs λw' hs=>?_
  by_cases h0:M.SM=[]
  ·have e:z75 M.seg M.l n=false:=by unfold LogM.l z75;rw [h0];rfl
   rw [e,h0]
   refine ztl ?_ (λh=>by cases h)
   refine ztk (0:Int) (λh=>by cases h) ?_
   refine ztl ?_ (λh=>by cases h.1)
   refine ztk (0:Int) (λh=>by cases h.1) ?_
   refine ztl ?_ (λh=>by cases h.1)
   refine ztk (0:Int) (λh=>by cases h.1) ?_
   refine wp_lt ?_
   refine ze ?_
   exact ⟨rfl,rfl,hs⟩
  have hp:=List.length_pos_iff.2 h0
  have e1:M.SM.getLast? = some (M.SM[M.SM.length-1]'(by omega)):=by
   rw [List.getLast?_eq_getElem?,List.getElem?_eq_getElem (by omega)]
  have e:z75 M.seg M.l n=(decide (z0f (M.SM[M.SM.length-1]'(by omega)).2.s.bs=0) || decide ((((M.SM[M.SM.length-1]'(by omega)).2.s.file.length+n:Nat):Int)<=M.seg)):=by
   unfold LogM.l z75
   rw [zau,e1]
   rfl
  have hfl':=hfl _ (List.mem_map.2 ⟨_,List.getElem_mem (show M.SM.length-1<M.SM.length by omega),rfl⟩)
  rw [e,e1]
  obtain ⟨hok,hs⟩:=z2w hs
  have hs:=z44 (z9v (hs.pick [2]) (show M.SM.length-1<M.SM.length by omega))
  refine z0n ?_
  refine zb hs ?_
  refine z0n ?_
  refine zb hs ?_
  refine z0n ?_
  refine zb hs ?_
  rw [w64 (by omega) (by omega)]
  refine wp_lt ?_
  refine ze ?_
  have hs:=z7b (show M.SM.length-1<M.SM.length by omega) (z2t (M.SM[M.SM.length-1]'(by omega)).2 hs)
  refine ⟨rfl,?_,z1p M hok (hs.pick [1,1])⟩
  rfl
theorem z018 (a:Nat) (t:SegM) {r0:List HP} [hf:Fo l lgQ lg M r0] [hf2:Fo r0 (z0q M.gap) a t r] (hlen:M.SM.length<=1000000000) (hs:Sat w l) :
  Ret P F.a132 #[.pointer (some ⟨lg,0,none⟩),.pointer (some ⟨a,0,none⟩)] w λvs w'=>∃ z:Sl,vs=[]/\Sat w' (lgQ lg { M with z:=z,SM:=M.SM++[(a,t)] }::r) :=
 zop _ _ <| by
  delta z02d AI AJ AP AQ Ai Al
  obtain ⟨hok,hs⟩:=z2w (hs.perm (hf.perm.trans (.cons _ hf2.perm)))
  have hl:=hs.slen M.z (xs:=M.SM.map Prod.fst) (enc:=z1s)
  refine zh ?_
  refine zb hs ?_
  refine z5f (xs:=M.SM.map Prod.fst) (enc:=z1s) (y:=a) hs (λz w' hs=>?_) rfl (by rw [List.length_map];omega)
  refine zh ?_
  refine z08 hs λw' hs=>?_
  refine ⟨rfl,z,rfl,?_⟩
  have hs:Sat w' (pt lg (.cells #[.pointer (some ⟨M.d,0,none⟩),.string M.pre,.int .i64 M.seg,.int .i64 M.gap,.slice z.a z.len z.cap] T.a47)::slc T.a32 1 z ((M.SM.map Prod.fst++[a]).flatMap z1s)::HP.all (M.SM.map λt=>z0q M.gap t.1 t.2)::z0q M.gap a t::r):=hs
  have h1:Sat w' (HP.all (((a,t)::M.SM).map λt=>z0q M.gap t.1 t.2)::pt lg (.cells #[.pointer (some ⟨M.d,0,none⟩),.string M.pre,.int .i64 M.seg,.int .i64 M.gap,.slice z.a z.len z.cap] T.a47)::slc T.a32 1 z ((M.SM.map Prod.fst++[a]).flatMap z1s)::r):=(hs.pick [3,2]).all_put
  have h2:=h1.all_perm ((List.perm_append_comm (l₁:=[(a,t)]) (l₂:=M.SM)).map λt=>z0q M.gap t.1 t.2)
  refine z1p { M with z:=z,SM:=M.SM++[(a,t)] } hok ?_
  have e:(M.SM++[(a,t)]).map Prod.fst=M.SM.map Prod.fst++[a]:=by simp
  show Sat w' (pt lg _::slc T.a32 1 z (((M.SM++[(a,t)]).map Prod.fst).flatMap z1s)::HP.all ((M.SM++[(a,t)]).map λt=>z0q M.gap t.1 t.2)::r)
  rw [e]
  exact h2.pick [1,1]
end
theorem z0e.mem:∀ {n:Int} {l:List SegA},z0e n l->∀ s ∈ l,SegOk s/\n<=s.base
 | _,a::l,⟨h1,h2,h3⟩,s,hs=>by
  rcases List.mem_cons.1 hs with rfl|hs
  ·exact ⟨h2,h1⟩
  ·have:=h3.mem s hs
   exact ⟨this.1,by omega⟩
def z0h (pre:ByteArray) (l:List SegA) (D:DiskA):Int × DiskA:=match l.getLast? with
 | none=>(0,D)
 | some s=>z1x D [zo pre s.base zw]
def BatM.to (b:BatM) (n:Int):BatM:=⟨n,b.pid,b.epoch,b.seq,b.kind,b.time,b.x,b.rs⟩
def zy:Int->List BatM->Int × List BatM
 | _,[]=>(0,[])
 | n,b::bs=>if zx (b.to n)≠0 then (zx (b.to n),[]) else if (zy (n+zp b) bs).1≠0 then ((zy (n+zp b) bs).1,[]) else (0,b.to n::(zy (n+zp b) bs).2)
def frP (p:Sl × List UInt8):HP:=slc T.a53 1 p.1 (p.2.flatMap zj)
theorem zdi:∀ {bs:List BatM} {n:Int},(zy n bs).1=0->(zy n bs).2.length=bs.length/\(∀ b ∈ (zy n bs).2,zx b=0/\∃ c ∈ bs,b.x=c.x/\b.rs=c.rs)/\∀ b,(zy n bs).2.head? = some b->b.base=n
 | [],n,_=>⟨rfl,(λ_ h=>by cases h),(λ_ h=>by cases h)⟩
 | b::bs,n,h=>by
  unfold zy at h ⊢
  by_cases h1:zx (b.to n)≠0
  ·rw [if_pos h1] at h;exact absurd h h1
  rw [if_neg h1] at h ⊢
  by_cases h2:(zy (n+zp b) bs).1≠0
  ·rw [if_pos h2] at h;exact absurd h h2
  rw [if_neg h2]
  obtain ⟨i1,i2,-⟩:=zdi (Decidable.not_not.1 h2)
  refine ⟨by simp [i1],λc hc=>?_,λc hc=>?_⟩
  ·rcases List.mem_cons.1 hc with rfl|hc
   ·exact ⟨Decidable.not_not.1 h1,b,List.mem_cons_self ..,rfl,rfl⟩
   ·obtain ⟨v,d,hd,e⟩:=i2 c hc
    exact ⟨v,d,List.mem_cons_of_mem _ hd,e⟩
  ·simp at hc;subst hc;rfl
theorem zqb:∀ {bs:List BatM},(∀ b ∈ bs,zx b=0)->(bs.flatMap frL).length<=bs.length*262152
 | [],_=>by simp
 | b::bs,h=>by
  have h1:=z57 (h b (List.mem_cons_self ..))
  have h2:=z67 (h b (List.mem_cons_self ..))
  have h3:=zqb λx hx=>h x (List.mem_cons_of_mem _ hx)
  rw [List.flatMap_cons,List.length_append,List.length_cons]
  omega
section
variable {w:World} {l r:List HP} {lg:Nat} {M:LogM} {D:DiskA} {gap:Int} {a:Nat} {t:SegM}
theorem zgf {fs:List (Sl × List UInt8)} {p:Sl × List UInt8} (hp:p ∈ fs) [hf:Foc l (HP.all (fs.map frP)) r]:FocR l p.1 1 (p.2.flatMap zj):=⟨λw hs=>by
 obtain ⟨L,hs⟩:=(hs.perm hf.perm).all_mem hp
 exact Sat.rd hs⟩
theorem zme:∀ {fs gs:List (Sl × List UInt8)},(∀ p ∈ gs,FocR l p.1 1 (p.2.flatMap zj))->za3 l (gs.map Prod.fst) (gs.map Prod.snd)
 | _,[],_=>trivial
 | fs,p::gs,h=>⟨(h p (List.mem_cons_self ..)).rd,zme (fs:=fs) λq hq=>h q (List.mem_cons_of_mem _ hq)⟩
theorem zqw {r1:List HP} [hf:Fo l lgQ lg M r1] [hf2:Fo r1 dk M.d D r] (hlen:M.SM.length<=1000000000) (hok:z0e 0 M.l) (hs:Sat w l) :
  Ret P F.a124 #[.pointer (some ⟨lg,0,none⟩)] w λvs w'=>vs=[.int .i64 (z0h M.pre M.l D).1]/\Sat w' (lgQ lg M::dk M.d (z0h M.pre M.l D).2::r) :=
 zoh _ <| by
  delta z025 AD AG AH AP AQ Aa Ae Af Ag Ai Al Ar Au Az Bd
  have hs:=hs.perm (hf.perm.trans (.cons _ hf2.perm))
  refine z03 ?_ (by simp)
  refine z8 (zgx (lg:=lg) hlen hs) λ_ w' hs=>?_
  obtain ⟨rfl,hs⟩:=hs
  refine zd ?_
  by_cases h0:M.SM=[]
  ·have e:z0h M.pre M.l D=(0,D):=by unfold LogM.l z0h;rw [h0];rfl
   rw [e,h0]
   refine z03 ?_ (by simp [z002])
   exact ⟨rfl,rfl,hs⟩
  have hp:=List.length_pos_iff.2 h0
  have hsz:M.SM.length-1<M.SM.length:=by omega
  have e1:M.SM.getLast? = some (M.SM[M.SM.length-1]'hsz):=by
   rw [List.getLast?_eq_getElem?,List.getElem?_eq_getElem (by omega)]
  have e:z0h M.pre M.l D=z1x D [zo M.pre (M.SM[M.SM.length-1]'hsz).2.s.base zw]:=by
   unfold LogM.l z0h
   rw [zau,e1]
   rfl
  have hmem:(M.SM[M.SM.length-1]'hsz).2.s ∈ M.l:=List.mem_map.2 ⟨_,List.getElem_mem hsz,rfl⟩
  have hbase:=(hok.mem _ hmem).1.base
  rw [e,e1]
  obtain ⟨hokm,hs⟩:=z2w hs
  have hpre:M.pre.size<=100:=by
   have:=hokm.pre
   unfold z1w at this
   rw [Bool.and_eq_true,decide_eq_true_eq] at this
   omega
  refine z0t ?_ (by simp [z002])
  have hs:=z44 (z9v (hs.pick [2]) hsz)
  refine zl (λq w'=>q=((z1x D [zo M.pre (M.SM[M.SM.length-1]'hsz).2.s.base zw]).1,())/\Sat w' (lgQ lg M::dk M.d (z1x D [zo M.pre (M.SM[M.SM.length-1]'hsz).2.s.base zw]).2::r)) ?_ ?_
  rotate_left
  ·rintro _ w2 ⟨rfl,hs⟩
   exact ⟨rfl,rfl,hs⟩
  refine z01 hs λw' hs=>?_
  refine zh ?_
  refine z0s hs ?_
  refine zh ?_
  refine zb hs ?_
  refine z8 (z86 (lg:=lg) _ (by omega) (ByteArray.mk #[46,108,111,103]) (by decide) M.pre hpre hs) λ_ w' hs=>?_
  obtain ⟨rfl,hs⟩:=hs
  refine zd ?_ (by first|trivial|(repeat (first|exact trivial|exact λ_=>z07 hs|exact λ_=>z0c hs|refine And.intro ?_ ?_)))
  refine z60 hs (enc:=z1i) [zo M.pre (M.SM[M.SM.length-1]'hsz).2.s.base zw] λy w' hs=>⟨(by first|trivial|(repeat (first|exact trivial|exact λ_=>z07 hs|exact λ_=>z0c hs|refine And.intro ?_ ?_))),?_⟩
  refine ze ?_
  refine z8 (z07d (d:=M.d) y [zo M.pre (M.SM[M.SM.length-1]'hsz).2.s.base zw] (by show 1<=100000;omega) hs) λ_ w' hs=>?_
  obtain ⟨rfl,hs⟩:=hs
  refine zd ?_
  refine wp_lt ?_
  refine ze ?_
  refine zg ⟨rfl,?_⟩
  replace hs:Sat _ (z0q M.gap _ _::_):=z2t (M.SM[M.SM.length-1]'hsz).2 (hs.pick [2,2])
  have hs:=z7b hsz (hs.pick [0,2])
  exact (z1p M hokm (hs.pick [3,3])).sub
theorem zzt (x:Sl) (bs:List BatM) [hf:Fo l lgQ lg M r] (hlen:M.SM.length<=1000000000) (hbl:bs.length<=100000) (hx:FocR r x 7 (bs.flatMap z00)) (hbs:∀ b ∈ bs,FocR r b.x 4 (b.rs.flatMap zv)) (hs:Sat w l) :
  Ret P F.a131 #[.pointer (some ⟨lg,0,none⟩),x.v] w λvs w' =>
   ((zy (zm M.l) bs).1≠0/\vs=[.slice none 0 0,.slice none 0 0,.int .i64 (zy (zm M.l) bs).1]/\Sat w' (lgQ lg M::r)) \/
   ((zy (zm M.l) bs).1=0/\∃ (z1 z2:Sl) (fs:List (Sl × List UInt8)),vs=[z1.v,z2.v,.int .i64 0]/\fs.map Prod.snd=(zy (zm M.l) bs).2.map frL /\
    Sat w' (slc T.a0 7 z1 ((zy (zm M.l) bs).2.flatMap z00)::slc T.a45 1 z2 ((fs.map Prod.fst).flatMap z0g)::HP.all (fs.map frP)::lgQ lg M::r)) :=
 zoo _ x <| by
  delta z02c AI AP AV Aa Ab Ac Ae Ag Ah Ai Al Ao Az Bb Bc Bf Bj
  have hs:=hs.perm hf.perm
  have hl:=hs.slen x (xs:=bs) (enc:=z00)
  refine z8 (zbe (lg:=lg) hlen hs) λ_ w' hs=>?_
  obtain ⟨rfl,hs⟩:=hs
  refine zd ?_
  refine wp_lt ?_
  generalize zm M.l=n0
  refine zl (λq w'=>∃ (z1 z2:Sl) (fs:List (Sl × List UInt8)),(zy n0 bs).1=0/\q=(z1,z2,())/\fs.map Prod.snd=(zy n0 bs).2.map frL /\
    Sat w' (slc T.a0 7 z1 ((zy n0 bs).2.flatMap z00)::slc T.a45 1 z2 ((fs.map Prod.fst).flatMap z0g)::HP.all (fs.map frP)::lgQ lg M::r)) ?_ ?_
  rotate_left
  ·rintro _ w2 ⟨z1,z2,fs,h1,rfl,h2,hs⟩
   exact ⟨rfl,.inr ⟨h1,z1,z2,fs,rfl,h2,hs⟩⟩
  have h0:Sat w' (slc T.a0 7 ⟨none,0,0⟩ (([]:List BatM).flatMap z00)::slc T.a45 1 ⟨none,0,0⟩ (((([]:List (Sl × List UInt8))).map Prod.fst).flatMap z0g)::HP.all ((([]:List (Sl × List UInt8))).map frP)::lgQ lg M::r):=(Sat.all_nil hs).slc_nil.slc_nil
  refine z0b (λm v w=>∃ (i:Nat) (n:Int) (done:List BatM) (z1 z2:Sl) (fs:List (Sl × List UInt8)),v=(n,z1,z2,(i:Int),())/\i<=bs.length/\bs.length-i=m/\done.length=i/\fs.length=i /\
   zy n0 bs=(if (zy n (bs.drop i)).1≠0 then ((zy n (bs.drop i)).1,[]) else (0,done++(zy n (bs.drop i)).2))/\fs.map Prod.snd=done.map frL /\
   Sat w (slc T.a0 7 z1 (done.flatMap z00)::slc T.a45 1 z2 ((fs.map Prod.fst).flatMap z0g)::HP.all (fs.map frP)::lgQ lg M::r)) bs.length
   ⟨0,n0,[],⟨none,0,0⟩,⟨none,0,0⟩,[],rfl,by omega,rfl,rfl,rfl,?_,rfl,h0⟩ ?_
  ·rw [List.drop_zero,List.nil_append]
   by_cases h:(zy n0 bs).1≠0
   ·rw [if_pos h]
    have:∀ {bs:List BatM} {n:Int},(zy n bs).1≠0->(zy n bs).2=[]:=by
     intro bs
     induction bs with
     | nil=>intro n h;exact absurd rfl h
     | cons b bs ih =>
      intro n h
      unfold zy at h ⊢
      split
      ·rfl
      ·split
       ·rfl
       ·rename_i h1 h2
        rw [if_neg h1,if_neg h2] at h
        exact absurd rfl h
    rw [<- this h]
   ·rw [if_neg h]
    have h:=Decidable.not_not.1 h
    rw [<- h]
  clear hs h0
  rintro m _ w ⟨i,n,done,z1,z2,fs,rfl,hi,hm,hdl,hfl,hpl,hfs,hs⟩
  refine zk ?_
  refine zf (λhc=>?_) λhc=>?_
  rotate_left
  ·have e:bs.drop i=[]:=List.drop_eq_nil_of_le (by omega)
   rw [e] at hpl
   simp only [zy,List.append_nil] at hpl
   have hpl:zy n0 bs=(0,done):=by rw [hpl];rfl
   refine zn (zg ⟨z1,z2,fs,by rw [hpl],rfl,by rw [hpl];exact hfs,?_⟩)
   rw [hpl]
   exact hs
  have hil:i<bs.length:=by omega
  have hdrop:bs.drop i=bs[i]::bs.drop (i+1):=List.drop_eq_getElem_cons hil
  rw [hdrop] at hpl
  have hR:=hbs bs[i] (List.getElem_mem hil)
  refine z30 hs (xs:=bs) (enc:=z00) i hil ?_
  refine zt hs λa w' hs=>?_
  refine zu hs λw' hs=>?_
  refine z08 hs λw' hs=>?_
  refine zi hs ?_
  have hRt:FocR r (bs[i].to n).x 4 ((bs[i].to n).rs.flatMap zv):=hR
  refine z8 (zyq (bs[i].to n) hs) λ_ w' hs=>?_
  have hunf:zy n (bs[i]::bs.drop (i+1))=if zx (bs[i].to n)≠0 then (zx (bs[i].to n),[]) else if (zy (n+zp bs[i]) (bs.drop (i+1))).1≠0 then ((zy (n+zp bs[i]) (bs.drop (i+1))).1,[]) else (0,bs[i].to n::(zy (n+zp bs[i]) (bs.drop (i+1))).2):=rfl
  rcases hs with ⟨hv,rfl,hs⟩|⟨hv,y,rfl,hs⟩
  ·refine zd ?_
   refine wp_lt ?_
   refine z0t ?_ hv
   refine wp_lt ?_
   rw [if_pos hv] at hunf
   have hpl:zy n0 bs=(zx (bs[i].to n),[]):=by rw [hpl,hunf,if_pos hv]
   refine zn (zn ⟨rfl,.inl ⟨by rw [hpl];exact hv,by rw [hpl],hs.sub⟩⟩)
  ·refine zd ?_
   refine wp_lt ?_
   refine z03 ?_ (by simp)
   rw [if_neg (by rw [hv];simp)] at hunf
   have hbl2:=z67 hv
   have hfrl:=z57 hv
   refine zi hs ?_
   refine z5f (xs:=done) (enc:=z00) (y:=bs[i].to n) hs (λz1' w' hs=>?_) rfl (by omega)
   refine z9h hs (enc:=z0g) [y] λy2 w' hs=>?_
   refine z8 (zyw y2 y (z2o (bs[i].to n)) (by omega) hs) λ_ w' hs=>?_
   obtain ⟨y3,rfl,hs⟩:=hs
   refine zd ?_
   refine z5f (xs:=fs.map Prod.fst) (enc:=z0g) (y:=y3) hs (λz2' w' hs=>?_) rfl (by rw [List.length_map];omega)
   refine zi hs ?_
   refine z8 (z9d (bs[i].to n) hs) λ_ w' hs=>?_
   obtain ⟨rfl,hs⟩:=hs
   refine zd ?_
   refine wp_lt ?_
   rw [wS (i:=i) (by omega)]
   have en:z1q (bs[i].to n)=n+zp bs[i]:=by
    unfold z1q
    rw [if_neg (by rw [hv];simp)]
    rfl
   rw [en]
   refine z0x (bs.length-(i+1)) ⟨i+1,n+zp bs[i],done++[bs[i].to n],z1',z2',fs++[(y3,frL (bs[i].to n))],rfl,by omega,rfl,by simp [hdl],by simp [hfl],?_,by simp [hfs],?_⟩
   ·rw [hpl,hunf]
    by_cases h2:(zy (n+zp bs[i]) (bs.drop (i+1))).1≠0
    ·rw [if_pos h2,if_pos h2,if_pos h2]
    ·rw [if_neg h2,if_neg h2,if_neg (by simp),List.append_assoc]
     rfl
   ·have e2:(fs++[(y3,frL (bs[i].to n))]).map Prod.fst=fs.map Prod.fst++[y3]:=by simp
    rw [e2]
    have hs:Sat w' (slc T.a45 1 z2' ((fs.map Prod.fst++[y3]).flatMap z0g)::slc T.a53 1 y3 ((frL (bs[i].to n)).flatMap zj)::slc T.a45 1 y2 (([y]:List Sl).flatMap z0g)::slc T.a0 7 z1' ((done++[bs[i].to n]).flatMap z00)::_):=hs
    have hs:Sat w' (frP (y3,frL (bs[i].to n))::HP.all (fs.map frP)::slc T.a0 7 z1' ((done++[bs[i].to n]).flatMap z00)::slc T.a45 1 z2' ((fs.map Prod.fst++[y3]).flatMap z0g)::lgQ lg M::r):=by
     have h3:Sat w' (slc T.a53 1 y3 ((frL (bs[i].to n)).flatMap zj)::HP.all (fs.map frP)::slc T.a0 7 z1' ((done++[bs[i].to n]).flatMap z00)::slc T.a45 1 z2' ((fs.map Prod.fst++[y3]).flatMap z0g)::lgQ lg M::r):=hs.sub
     exact h3
    have h4:Sat w' (HP.all (((y3,frL (bs[i].to n))::fs).map frP)::_):=hs.all_put
    have h5:=h4.all_perm ((List.perm_append_comm (l₁:=[(y3,frL (bs[i].to n))]) (l₂:=fs)).map frP)
    exact h5.pick [1,1]
end
def z5n (l:List SegA):Int:=match l.getLast? with
 | none=>0
 | some s=>s.base
def z4g (l:List SegA) (bs:List BatM):List SegA:=match l.getLast? with
 | none=>l
 | some s=>l.dropLast++[s.add bs]
def z0j (pre:ByteArray) (seg:Int) (l:List SegA) (D:DiskA) (bs:List BatM):(Int × Int) × List SegA × DiskA :=
 if bs=[] then ((0,3),l,D) else
 if (zy (zm l) bs).1≠0 then ((0,(zy (zm l) bs).1),l,D) else
 if z75 seg l ((zy (zm l) bs).2.flatMap frL).length then
  if (z09 D (zo pre (z5n l) zw) ((zy (zm l) bs).2.flatMap frL)).1≠0 then ((0,(z09 D (zo pre (z5n l) zw) ((zy (zm l) bs).2.flatMap frL)).1),l,(z09 D (zo pre (z5n l) zw) ((zy (zm l) bs).2.flatMap frL)).2)
  else ((zm l,0),z4g l (zy (zm l) bs).2,(z09 D (zo pre (z5n l) zw) ((zy (zm l) bs).2.flatMap frL)).2)
 else
  if (z0h pre l D).1≠0 then ((0,(z0h pre l D).1),l,(z0h pre l D).2) else
  if (z09 (z0h pre l D).2 (zo pre (zm l) zw) (shL (zm l) 0++(zy (zm l) bs).2.flatMap frL)).1≠0 then ((0,(z09 (z0h pre l D).2 (zo pre (zm l) zw) (shL (zm l) 0++(zy (zm l) bs).2.flatMap frL)).1),l,(z09 (z0h pre l D).2 (zo pre (zm l) zw) (shL (zm l) 0++(zy (zm l) bs).2.flatMap frL)).2)
  else ((zm l,0),l++[(⟨zm l,0,[]⟩:SegA).add (zy (zm l) bs).2],(z09 (z0h pre l D).2 (zo pre (zm l) zw) (shL (zm l) 0++(zy (zm l) bs).2.flatMap frL)).2)
def LogA.set (A:LogA) (l:List SegA):LogA:=⟨A.d,A.pre,A.seg,A.gap,l⟩
theorem z0e.next:∀ {n:Int} {l:List SegA},0<=n->z0e n l->0<=zm l/\zm l<=1099511627777
 | _,[],_,_=>⟨by decide,by decide⟩
 | n,[s],hn,⟨h1,h2,_⟩=>by
  have:=z5t h2
  have:=h2.base
  show 0<=s.reach/\s.reach<=_
  omega
 | n,s::t::l,hn,⟨h1,h2,h3⟩=>by
  have:=h2.base
  have:=z0e.next (by omega) h3
  exact this
instance:EncF z00 0 (.int .i64) (λb=>b.base):=⟨λ_=>rfl⟩
section
variable {w:World} {l r:List HP} {lg:Nat} {M:LogM} {A:LogA} {D:DiskA} {gap:Int} {a:Nat} {t:SegM}
theorem zcj {SM0:List (Nat × SegM)} (h:M.SM=SM0++[(a,t)]) (hs:Sat w (lgQ lg M::l)):okM M.gap M.seg M.pre /\
  Sat w (z0q M.gap a t::pt lg (.cells #[.pointer (some ⟨M.d,0,none⟩),.string M.pre,.int .i64 M.seg,.int .i64 M.gap,.slice M.z.a M.z.len M.z.cap] T.a47)::slc T.a32 1 M.z ((SM0.map Prod.fst++[a]).flatMap z1s)::HP.all (SM0.map λt=>z0q M.gap t.1 t.2)::l):=by
 obtain ⟨hok,hs⟩:=z2w hs
 rw [h] at hs
 have h1:=(hs.pick [2]).all_perm ((List.perm_append_comm (l₁:=SM0) (l₂:=[(a,t)])).map λt=>z0q M.gap t.1 t.2)
 have h2:Sat w (z0q M.gap a t::HP.all (SM0.map λt=>z0q M.gap t.1 t.2)::_):=h1.all_cons
 rw [List.map_append] at h2
 exact ⟨hok,h2.pick [0,1,1]⟩
theorem zbd (M:LogM) {SM0:List (Nat × SegM)} (hok:okM M.gap M.seg M.pre) (hs:Sat w (z0q M.gap a t::pt lg (.cells #[.pointer (some ⟨M.d,0,none⟩),.string M.pre,.int .i64 M.seg,.int .i64 M.gap,.slice M.z.a M.z.len M.z.cap] T.a47)::slc T.a32 1 M.z ((SM0.map Prod.fst++[a]).flatMap z1s)::HP.all (SM0.map λt=>z0q M.gap t.1 t.2)::l)) :
  Sat w (lgQ lg { M with SM:=SM0++[(a,t)] }::l):=by
 have h1:Sat w (HP.all (((a,t)::SM0).map λt=>z0q M.gap t.1 t.2)::_):=(hs.pick [0,2]).all_put
 have h2:=h1.all_perm ((List.perm_append_comm (l₁:=[(a,t)]) (l₂:=SM0)).map λt=>z0q M.gap t.1 t.2)
 refine z1p { M with SM:=SM0++[(a,t)] } hok ?_
 show Sat w (pt lg _::slc T.a32 1 M.z (((SM0++[(a,t)]).map Prod.fst).flatMap z1s)::HP.all ((SM0++[(a,t)]).map λt=>z0q M.gap t.1 t.2)::l)
 rw [List.map_append]
 exact h2.pick [1,1]
theorem z3a {α:Type} {l:List α} (h:l≠[]):∃ (l0:List α) (x:α),l=l0++[x]:=⟨l.dropLast,l.getLast h,(List.dropLast_concat_getLast h).symm⟩
theorem zmd {fs:List (Sl × List UInt8)} (h:∀ p ∈ fs,FocR l p.1 1 (p.2.flatMap zj)):za3 l (fs.map Prod.fst) (fs.map Prod.snd):=zme (fs:=fs) h
theorem okM.size {g s:Int} {p:ByteArray} (h:okM g s p):p.size<=100:=by
 have:=h.pre
 unfold z1w at this
 rw [Bool.and_eq_true,decide_eq_true_eq] at this
 omega
set_option maxHeartbeats 1000000 in
theorem zwq (x:Sl) (bs:List BatM) {r1:List HP} [hf:Fo l lgP lg A r1] [hf2:Fo r1 dk A.d D r] (hlen:A.l.length<=1000000) (hok:z0e 0 A.l) (hfl:∀ s ∈ A.l,s.file.length<=500000000) (hbl:bs.length<=900)
  (hx:FocR r x 7 (bs.flatMap z00)) (hbs:∀ b ∈ bs,FocR r b.x 4 (b.rs.flatMap zv)) (hs:Sat w l) :
  Ret P F.a118 #[.pointer (some ⟨lg,0,none⟩),x.v] w λvs w'=>vs=[.int .i64 (z0j A.pre A.seg A.l D bs).1.1,.int .i64 (z0j A.pre A.seg A.l D bs).1.2] /\
   Sat w' (lgP lg (A.set (z0j A.pre A.seg A.l D bs).2.1)::dk A.d (z0j A.pre A.seg A.l D bs).2.2::r) :=
 zfi _ x <| by
  delta ztt AC AD AG AH AJ AP AQ AS AU AV Aa Ab Ac Ae Af Ag Ah Ai Al An Ao Ar Au Aw Az Bb Bc Bd Be Bf Bi
  have hs:=hs.perm (hf.perm.trans (.cons _ hf2.perm))
  clear hf hf2
  obtain ⟨M,rfl,hs⟩:=z83 hs
  have hlxs:=hs.slen x (xs:=bs) (enc:=z00)
  have hMl:M.A.l=M.l:=rfl
  have hMpre:M.A.pre=M.pre:=rfl
  have hMseg:M.A.seg=M.seg:=rfl
  have hMd:M.A.d=M.d:=rfl
  rw [hMl] at hlen hok hfl ⊢
  rw [hMpre,hMseg,hMd]
  rw [hMd] at hs
  have hll:M.l.length=M.SM.length:=List.length_map ..
  have hnx:=hok.next (Int.le_refl 0)
  have hsame:∀ {w:World} {D':DiskA},Sat w (lgQ lg M::dk M.d D'::r)->Sat w (lgP lg (M.A.set M.l)::dk M.d D'::r):=λhs=>z4l M hs
  unfold z0j
  refine z03 ?_ (by simp)
  refine zf (λh=>?_) λh=>?_
  ·have:bs=[]:=List.length_eq_zero_iff.1 (by omega)
   rw [if_pos this]
   exact ⟨rfl,rfl,hsame hs⟩
  rw [if_neg (by rintro rfl;simp at hlxs;omega)]
  have hx':FocR (dk M.d D::r) x 7 (bs.flatMap z00):=inferInstance
  refine z8 (zzt (lg:=lg) x bs (by omega) (by omega) inferInstance (λb hb=>by have:=hbs b hb;infer_instance) hs) λ_ w' hs=>?_
  have hplo:=zdi (bs:=bs) (n:=zm M.l)
  rcases hs with ⟨he,rfl,hs⟩|⟨he,z1,z2,fs,rfl,hfs,hs⟩
  ·refine zd ?_
   refine wp_lt ?_
   refine z0t ?_ he
   refine wp_lt ?_
   rw [if_pos he]
   exact ⟨rfl,rfl,hsame hs⟩
  refine zd ?_
  refine wp_lt ?_
  refine z03 ?_ (by simp)
  rw [if_neg (by rw [he];simp)]
  obtain ⟨hp1,hp2,hp3⟩:=hplo he
  have hbl0:0<bs.length:=by
   apply Nat.pos_of_ne_zero
   intro h0
   rw [h0] at hlxs
   omega
  generalize hn0:zm M.l=n0 at *
  generalize hPL:zy n0 bs=PL at *
  obtain ⟨e0,q⟩:=PL
  have he:e0=0:=he
  subst he
  dsimp only at hp1 hp2 hp3 hfs hs ⊢
  have hsum:=zqb λb hb=>(hp2 b hb).1
  have hfsl:fs.length=q.length:=by have:=congrArg List.length hfs;simpa using this
  have hfl1:=hs.slen z2 (xs:=fs.map Prod.fst) (enc:=z0g)
  rw [List.length_map] at hfl1
  have hfget:∀ (i:Nat) (h:i<fs.length),fs[i].2=frL (q[i]'(by omega)):=λi h=>by
   have:=List.getElem_of_eq hfs (i:=i) (by rw [List.length_map];exact h)
   simpa using this
  have hfsum:∀ i,((q.take i).flatMap frL).length<=(q.flatMap frL).length:=λi=>by
   have:(q.flatMap frL)=(q.take i).flatMap frL++(q.drop i).flatMap frL:=by rw [<- List.flatMap_append,List.take_append_drop]
   rw [this,List.length_append];omega
  refine zl (λv w'=>v=(((q.flatMap frL).length:Int),())/\Sat w' (slc T.a0 7 z1 (q.flatMap z00)::slc T.a45 1 z2 ((fs.map Prod.fst).flatMap z0g)::HP.all (fs.map frP)::lgQ lg M::dk M.d D::r)) ?_ ?_
  ·refine z0b (λm v w=>∃ i:Nat,v=((((q.take i).flatMap frL).length:Int),((i:Int),()))/\i<=q.length/\q.length-i=m/\Sat w (slc T.a0 7 z1 (q.flatMap z00)::slc T.a45 1 z2 ((fs.map Prod.fst).flatMap z0g)::HP.all (fs.map frP)::lgQ lg M::dk M.d D::r)) q.length ⟨0,rfl,by omega,rfl,hs⟩ ?_
   clear hs
   rintro m _ w ⟨i,rfl,hi,hm,hs⟩
   refine zk ?_
   refine zf (λhc=>?_) λhc=>?_
   rotate_left
   ·refine zn (zg ⟨?_,hs⟩)
    rw [List.take_of_length_le (by omega)]
   have hil:i<q.length:=by omega
   have hil2:i<fs.length:=by omega
   refine z26 hs (xs:=fs.map Prod.fst) (enc:=z0g) i (by rw [List.length_map];omega) ?_
   have e1:(fs.map Prod.fst)[i]'(by rw [List.length_map];omega)=fs[i].1:=by simp
   rw [e1]
   have hR:FocR (HP.all (fs.map frP)::lgQ lg M::dk M.d D::r) fs[i].1 1 (fs[i].2.flatMap zj):=zgf (List.getElem_mem hil2)
   have hl2:=hs.slen fs[i].1 (xs:=fs[i].2) (enc:=zj)
   rw [hfget i hil2] at hl2
   have hfi:((q.take (i+1)).flatMap frL).length=((q.take i).flatMap frL).length+(frL q[i]).length:=by
    rw [List.take_succ_eq_append_getElem hil,List.flatMap_append,List.length_append];simp
   have:=hfsum (i+1)
   rw [hl2,w64 (by omega) (by omega)]
   refine wp_lt ?_
   rw [wS (i:=i) (by omega)]
   have ec:(((q.take i).flatMap frL).length:Int)+((frL q[i]).length:Nat)=(((q.take (i+1)).flatMap frL).length:Int):=by rw [hfi];omega
   rw [ec]
   exact z0x (q.length-(i+1)) ⟨i+1,rfl,by omega,rfl,hs⟩
  clear hs
  rintro _ w ⟨rfl,hs⟩
  refine zk ?_
  refine z8 (zgx (lg:=lg) (by omega) hs) λ_ w' hs=>?_
  obtain ⟨rfl,hs⟩:=hs
  refine zd ?_
  refine z8 (z06e (lg:=lg) (q.flatMap frL).length (by omega) (by omega) (λs hs'=>by have:=hfl s hs';omega) hs) λ_ w' hs=>?_
  obtain ⟨rfl,hs⟩:=hs
  refine zd ?_
  generalize hF:q.flatMap frL=Fr at *
  have hbsl:fs.map Prod.snd=q.map frL:=hfs
  have hflat:(fs.map Prod.snd).flatten=Fr:=by rw [hfs,<- hF,List.flatMap]
  have hlbound:∀ p ∈ fs,p.2.length<=262152:=λp hp=>by
   obtain ⟨i,hi,rfl⟩:=List.mem_iff_getElem.1 hp
   rw [hfget i hi]
   have:=z57 (hp2 _ (List.getElem_mem (show i<q.length by omega))).1
   have:=z67 (hp2 _ (List.getElem_mem (show i<q.length by omega))).1
   omega
  refine zl (λv w'=>∃ (M1:LogM) (SM0:List (Nat × SegM)) (a:Nat) (t:SegM) (D1:DiskA),v=(some ⟨a,0,none⟩,())/\M1.SM=SM0++[(a,t)]/\t.s.file.length<=600000000 /\
    (if z75 M.seg M.l Fr.length then
     if (z09 D (zo M.pre (z5n M.l) zw) Fr).1≠0 then ((0,(z09 D (zo M.pre (z5n M.l) zw) Fr).1),M.l,(z09 D (zo M.pre (z5n M.l) zw) Fr).2)
     else ((n0,(0:Int)),z4g M.l q,(z09 D (zo M.pre (z5n M.l) zw) Fr).2)
    else
     if (z0h M.pre M.l D).1≠0 then ((0,(z0h M.pre M.l D).1),M.l,(z0h M.pre M.l D).2) else
     if (z09 (z0h M.pre M.l D).2 (zo M.pre n0 zw) (shL n0 0++Fr)).1≠0 then ((0,(z09 (z0h M.pre M.l D).2 (zo M.pre n0 zw) (shL n0 0++Fr)).1),M.l,(z09 (z0h M.pre M.l D).2 (zo M.pre n0 zw) (shL n0 0++Fr)).2)
     else ((n0,0),M.l++[(⟨n0,0,[]⟩:SegA).add q],(z09 (z0h M.pre M.l D).2 (zo M.pre n0 zw) (shL n0 0++Fr)).2))=((n0,0),(SM0.map λt=>t.2.s)++[t.s.add q],D1) /\
    (M1.d=M.d/\M1.pre=M.pre/\M1.seg=M.seg/\M1.gap=M.gap) /\
    Sat w' (lgQ lg M1::dk M.d D1::slc T.a0 7 z1 (q.flatMap z00)::slc T.a45 1 z2 ((fs.map Prod.fst).flatMap z0g)::HP.all (fs.map frP)::r)) ?_ ?_
  ·refine zf (λhr=>?_) λhr=>?_
   ·
    have hr:z75 M.seg M.l Fr.length=false:=by simpa using hr
    rw [if_neg (by rw [hr];simp)]
    have hs:Sat w' (lgQ lg M::slc T.a0 7 z1 (q.flatMap z00)::slc T.a45 1 z2 ((fs.map Prod.fst).flatMap z0g)::HP.all (fs.map frP)::dk M.d D::r):=hs
    refine z8 (zqw (lg:=lg) (D:=D) (by omega) hok hs) λ_ w' hs=>?_
    obtain ⟨rfl,hs⟩:=hs
    refine zd ?_
    refine wp_lt ?_
    refine zf (λh2=>?_) λh2=>?_
    ·refine wp_lt ?_
     rw [if_pos h2]
     refine zn ⟨rfl,rfl,hsame hs.sub⟩
    rw [if_neg h2]
    generalize (z0h M.pre M.l D).2=D1 at *
    refine z8 (zbe (lg:=lg) (by omega) hs) λ_ w' hs=>?_
    obtain ⟨rfl,hs⟩:=hs
    refine zd ?_
    rw [hn0]
    refine z8 (zm0 (lg:=lg) n0 0 (by omega) (by omega) hs) λ_ w' hs=>?_
    obtain ⟨a,ix,rfl,hs⟩:=hs
    refine zd ?_
    have hshl:=zih n0 0
    refine zl (λv w'=>v=((z09 D1 (zo M.pre n0 zw) (shL n0 0++Fr)).1,())/\Sat w' (z0q M.gap a ⟨ix,⟨n0,0,[]⟩⟩::lgQ lg M::dk M.d (z09 D1 (zo M.pre n0 zw) (shL n0 0++Fr)).2::slc T.a0 7 z1 (q.flatMap z00)::slc T.a45 1 z2 ((fs.map Prod.fst).flatMap z0g)::HP.all (fs.map frP)::r)) ?_ ?_
    ·obtain ⟨hokm,hs⟩:=z2w (hs.pick [1])
     have hs:=z44 (hs.pick [3])
     refine z01 hs λw' hs=>?_
     refine zh ?_
     refine z0s hs ?_
     refine zh ?_
     refine zb hs ?_
     refine zh ?_
     refine z0s hs ?_
     refine z8 (z86 (lg:=lg) n0 (by omega) (ByteArray.mk #[46,108,111,103]) (by decide) M.pre hokm.size hs) λ_ w' hs=>?_
     obtain ⟨rfl,hs⟩:=hs
     refine zd ?_ (by first|trivial|(repeat (first|exact trivial|exact λ_=>z07 hs|exact λ_=>z0c hs|refine And.intro ?_ ?_)))
     refine z8 (zlm n0 0 (by omega) (by omega) hs) λ_ w' hs=>?_
     obtain ⟨y,rfl,hs⟩:=hs
     refine zd ?_ (by first|trivial|(repeat (first|exact trivial|exact λ_=>z07 hs|exact λ_=>z0c hs|refine And.intro ?_ ?_)))
     refine z60 hs (enc:=z0g) [y] λy2 w' hs=>⟨(by first|trivial|(repeat (first|exact trivial|exact λ_=>z07 hs|exact λ_=>z0c hs|refine And.intro ?_ ?_))),?_⟩
     refine z05o (xs:=[y]) (ys:=fs.map Prod.fst) (enc:=z0g) hs (λy3 w' hs=>⟨(by first|trivial|(repeat (first|exact trivial|exact λ_=>z07 hs|exact λ_=>z0c hs|refine And.intro ?_ ?_))),?_⟩) (by rw [List.length_map];simp only [List.length_cons,List.length_nil];omega)
     refine ze ?_
     have hs:Sat w' (dk M.d D1::slc T.a45 1 y3 (([y]++fs.map Prod.fst).flatMap z0g)::slc T.a53 1 y ((shL n0 0).flatMap zj)::HP.all (fs.map frP)::pt a (.cells #[.pointer (some ⟨ix,0,none⟩),.int .i64 n0,.int .i64 0,.int .i64 (z0f []),.int .i64 (z1g (-1) []),.int .i64 ((SegA.file ⟨n0,0,[]⟩).length:Nat)] T.a48)::z2i ix ((SegA.mk n0 0 []).idx M.gap)::pt lg (.cells #[.pointer (some ⟨M.d,0,none⟩),.string M.pre,.int .i64 M.seg,.int .i64 M.gap,.slice M.z.a M.z.len M.z.cap] T.a47)::slc T.a32 1 M.z ((M.SM.map Prod.fst).flatMap z1s)::HP.all (M.SM.map λt=>z0q M.gap t.1 t.2)::slc T.a0 7 z1 (q.flatMap z00)::slc T.a45 1 z2 ((fs.map Prod.fst).flatMap z0g)::r):=hs.sub
     have hall:∀ p ∈ ((y,shL n0 0)::fs),FocR (slc T.a45 1 y3 (([y]++fs.map Prod.fst).flatMap z0g)::slc T.a53 1 y ((shL n0 0).flatMap zj)::HP.all (fs.map frP)::pt a (.cells #[.pointer (some ⟨ix,0,none⟩),.int .i64 n0,.int .i64 0,.int .i64 (z0f []),.int .i64 (z1g (-1) []),.int .i64 ((SegA.file ⟨n0,0,[]⟩).length:Nat)] T.a48)::z2i ix ((SegA.mk n0 0 []).idx M.gap)::pt lg (.cells #[.pointer (some ⟨M.d,0,none⟩),.string M.pre,.int .i64 M.seg,.int .i64 M.gap,.slice M.z.a M.z.len M.z.cap] T.a47)::slc T.a32 1 M.z ((M.SM.map Prod.fst).flatMap z1s)::HP.all (M.SM.map λt=>z0q M.gap t.1 t.2)::slc T.a0 7 z1 (q.flatMap z00)::slc T.a45 1 z2 ((fs.map Prod.fst).flatMap z0g)::r) p.1 1 (p.2.flatMap zj):=λp hp=>by
      rcases List.mem_cons.1 hp with rfl|hp
      ·infer_instance
      ·have:FocR (HP.all (fs.map frP)::pt a (.cells #[.pointer (some ⟨ix,0,none⟩),.int .i64 n0,.int .i64 0,.int .i64 (z0f []),.int .i64 (z1g (-1) []),.int .i64 ((SegA.file ⟨n0,0,[]⟩).length:Nat)] T.a48)::z2i ix ((SegA.mk n0 0 []).idx M.gap)::pt lg (.cells #[.pointer (some ⟨M.d,0,none⟩),.string M.pre,.int .i64 M.seg,.int .i64 M.gap,.slice M.z.a M.z.len M.z.cap] T.a47)::slc T.a32 1 M.z ((M.SM.map Prod.fst).flatMap z1s)::HP.all (M.SM.map λt=>z0q M.gap t.1 t.2)::slc T.a0 7 z1 (q.flatMap z00)::slc T.a45 1 z2 ((fs.map Prod.fst).flatMap z0g)::r) p.1 1 (p.2.flatMap zj):=zgf hp
       infer_instance
     have hpsF:FocR (slc T.a45 1 y3 (([y]++fs.map Prod.fst).flatMap z0g)::slc T.a53 1 y ((shL n0 0).flatMap zj)::HP.all (fs.map frP)::pt a (.cells #[.pointer (some ⟨ix,0,none⟩),.int .i64 n0,.int .i64 0,.int .i64 (z0f []),.int .i64 (z1g (-1) []),.int .i64 ((SegA.file ⟨n0,0,[]⟩).length:Nat)] T.a48)::z2i ix ((SegA.mk n0 0 []).idx M.gap)::pt lg (.cells #[.pointer (some ⟨M.d,0,none⟩),.string M.pre,.int .i64 M.seg,.int .i64 M.gap,.slice M.z.a M.z.len M.z.cap] T.a47)::slc T.a32 1 M.z ((M.SM.map Prod.fst).flatMap z1s)::HP.all (M.SM.map λt=>z0q M.gap t.1 t.2)::slc T.a0 7 z1 (q.flatMap z00)::slc T.a45 1 z2 ((fs.map Prod.fst).flatMap z0g)::r) y3 1 ((((y,shL n0 0)::fs).map Prod.fst).flatMap zfl):=(inferInstance:FocR _ y3 1 (([y]++fs.map Prod.fst).flatMap z0g))
     refine z8 (zky (d:=M.d) (A:=D1) (zo M.pre n0 (bl (ByteArray.mk #[46,108,111,103]))) y3 (((y,shL n0 0)::fs).map Prod.fst) (((y,shL n0 0)::fs).map Prod.snd) (hps:=hpsF) (zmd hall) (by simp only [List.length_map,List.length_cons];omega) (λb hb=>?_) hs) λ_ w' hs=>?_
     ·obtain ⟨p,hp,rfl⟩:=List.mem_map.1 hb
      rcases List.mem_cons.1 hp with rfl|hp
      ·show (shL n0 0).length<=_;omega
      ·have:=hlbound p hp;omega
     obtain ⟨rfl,hs⟩:=hs
     refine zd ?_
     refine wp_lt ?_
     refine ze ?_
     have e2:(((y,shL n0 0)::fs).map Prod.snd).flatten=shL n0 0++Fr:=by rw [List.map_cons,List.flatten_cons,hflat]
     rw [e2] at hs ⊢
     refine zg ⟨rfl,?_⟩
     have hs:Sat w' (dk M.d (z09 D1 (zo M.pre n0 zw) (shL n0 0++Fr)).2::slc T.a45 1 y3 _::slc T.a53 1 y _::HP.all (fs.map frP)::pt a _::z2i ix _::pt lg _::slc T.a32 1 M.z _::HP.all (M.SM.map λt=>z0q M.gap t.1 t.2)::slc T.a0 7 z1 (q.flatMap z00)::slc T.a45 1 z2 ((fs.map Prod.fst).flatMap z0g)::r):=hs
     have hs:=z1p M hokm (hs.pick [6,6,6])
     have hs:Sat w' (z0q M.gap a ⟨ix,⟨n0,0,[]⟩⟩::lgQ lg M::dk M.d _::slc T.a45 1 y3 _::slc T.a53 1 y _::HP.all (fs.map frP)::slc T.a0 7 z1 (q.flatMap z00)::slc T.a45 1 z2 ((fs.map Prod.fst).flatMap z0g)::r):=z2t ⟨ix,⟨n0,0,[]⟩⟩ (hs.pick [5,5])
     exact hs.sub
    rintro _ w2 ⟨rfl,hs⟩
    refine zf (λh3=>?_) λh3=>?_
    ·refine wp_lt ?_
     rw [if_pos h3]
     refine zn ⟨rfl,rfl,hsame hs.sub⟩
    rw [if_neg h3]
    have hs:=hs.pick [1]
    refine z8 (z018 (lg:=lg) a ⟨ix,⟨n0,0,[]⟩⟩ (by omega) hs) λ_ w' hs=>?_
    obtain ⟨z,rfl,hs⟩:=hs
    refine zd ?_
    refine zg ⟨{ M with z:=z,SM:=M.SM++[(a,⟨ix,⟨n0,0,[]⟩⟩)] },M.SM,a,⟨ix,⟨n0,0,[]⟩⟩,(z09 D1 (zo M.pre n0 zw) (shL n0 0++Fr)).2,rfl,rfl,?_,rfl,⟨rfl,rfl,rfl,rfl⟩,hs⟩
    rw [z2q]
    simp only [List.flatMap_nil,List.length_nil]
    omega
   ·
    have hr:z75 M.seg M.l Fr.length=true:=by simpa using hr
    rw [if_pos hr]
    have h0:M.SM≠[]:=by
     intro h0
     have:M.l=[]:=by unfold LogM.l;rw [h0];rfl
     rw [this] at hr
     cases hr
    obtain ⟨SM0,⟨a,t⟩,hSM⟩:=z3a h0
    have hl1:M.l=SM0.map (λt=>t.2.s)++[t.s]:=by unfold LogM.l;rw [hSM];simp
    have hbase:z5n M.l=t.s.base:=by unfold z5n;rw [hl1,z1y]
    have hadd:z4g M.l q=SM0.map (λt=>t.2.s)++[t.s.add q]:=by unfold z4g;rw [hl1,z1y];simp
    have hlst:M.SM.getLast? = some (a,t):=by rw [hSM,z1y]
    rw [hlst]
    have htm:t.s ∈ M.l:=by rw [hl1];simp
    have htb:=(hok.mem _ htm).1.base
    have htf:=hfl _ htm
    refine zl (λv w'=>v=((z09 D (zo M.pre (z5n M.l) zw) Fr).1,())/\Sat w' (lgQ lg M::dk M.d (z09 D (zo M.pre (z5n M.l) zw) Fr).2::slc T.a0 7 z1 (q.flatMap z00)::slc T.a45 1 z2 ((fs.map Prod.fst).flatMap z0g)::HP.all (fs.map frP)::r)) ?_ ?_
    ·obtain ⟨hokm,hs⟩:=zcj hSM hs
     have hs:=z44 hs
     refine z01 hs λw' hs=>?_
     refine zh ?_
     refine z0s hs ?_
     refine zh ?_
     refine zb hs ?_
     refine z8 (z86 (lg:=lg) t.s.base (by omega) (ByteArray.mk #[46,108,111,103]) (by decide) M.pre hokm.size hs) λ_ w' hs=>?_
     obtain ⟨rfl,hs⟩:=hs
     refine zd ?_ (by first|trivial|(repeat (first|exact trivial|exact λ_=>z07 hs|exact λ_=>z0c hs|refine And.intro ?_ ?_)))
     refine ze ?_
     have hs:=hs.pick [8]
     have hall:∀ p ∈ fs,FocR (pt a (.cells #[.pointer (some ⟨t.ix,0,none⟩),.int .i64 t.s.base,.int .i64 t.s.fin,.int .i64 (z0f t.s.bs),.int .i64 (z1g (-1) t.s.bs),.int .i64 (t.s.file.length:Nat)] T.a48)::z2i t.ix (t.s.idx M.gap)::pt lg (.cells #[.pointer (some ⟨M.d,0,none⟩),.string M.pre,.int .i64 M.seg,.int .i64 M.gap,.slice M.z.a M.z.len M.z.cap] T.a47)::slc T.a32 1 M.z ((SM0.map Prod.fst++[a]).flatMap z1s)::HP.all (SM0.map λt=>z0q M.gap t.1 t.2)::slc T.a0 7 z1 (q.flatMap z00)::slc T.a45 1 z2 ((fs.map Prod.fst).flatMap z0g)::HP.all (fs.map frP)::r) p.1 1 (p.2.flatMap zj):=λp hp=>by
      have:FocR (HP.all (fs.map frP)::r) p.1 1 (p.2.flatMap zj):=zgf hp
      infer_instance
     have hpsF:FocR (pt a (.cells #[.pointer (some ⟨t.ix,0,none⟩),.int .i64 t.s.base,.int .i64 t.s.fin,.int .i64 (z0f t.s.bs),.int .i64 (z1g (-1) t.s.bs),.int .i64 (t.s.file.length:Nat)] T.a48)::z2i t.ix (t.s.idx M.gap)::pt lg (.cells #[.pointer (some ⟨M.d,0,none⟩),.string M.pre,.int .i64 M.seg,.int .i64 M.gap,.slice M.z.a M.z.len M.z.cap] T.a47)::slc T.a32 1 M.z ((SM0.map Prod.fst++[a]).flatMap z1s)::HP.all (SM0.map λt=>z0q M.gap t.1 t.2)::slc T.a0 7 z1 (q.flatMap z00)::slc T.a45 1 z2 ((fs.map Prod.fst).flatMap z0g)::HP.all (fs.map frP)::r) z2 1 ((fs.map Prod.fst).flatMap zfl):=(inferInstance:FocR _ z2 1 ((fs.map Prod.fst).flatMap z0g))
     refine z8 (zky (d:=M.d) (A:=D) (zo M.pre t.s.base (bl (ByteArray.mk #[46,108,111,103]))) z2 (fs.map Prod.fst) (fs.map Prod.snd) (hps:=hpsF) (zmd hall) (by simp only [List.length_map];omega) (λb hb=>?_) hs) λ_ w' hs=>?_
     ·obtain ⟨p,hp,rfl⟩:=List.mem_map.1 hb
      have:=hlbound p hp;omega
     obtain ⟨rfl,hs⟩:=hs
     refine zd ?_
     refine wp_lt ?_
     refine ze ?_
     rw [hflat] at hs ⊢
     refine zg ⟨by rw [hbase];rfl,?_⟩
     rw [hbase]
     have hs:Sat w' (dk M.d (z09 D (zo M.pre t.s.base zw) Fr).2::pt a _::z2i t.ix _::pt lg _::slc T.a32 1 M.z _::HP.all (SM0.map λt=>z0q M.gap t.1 t.2)::slc T.a0 7 z1 (q.flatMap z00)::slc T.a45 1 z2 ((fs.map Prod.fst).flatMap z0g)::HP.all (fs.map frP)::r):=hs
     have hs:=zbd M hokm (z2t t (hs.pick [1,1]) |>.pick [0,1,1,1])
     have e:{ M with SM:=SM0++[(a,t)] }=M:=by rw [<- hSM]
     rw [e] at hs
     exact hs.sub
    rintro _ w2 ⟨rfl,hs⟩
    refine zf (λh3=>?_) λh3=>?_
    ·refine wp_lt ?_
     rw [if_pos h3]
     refine zn ⟨rfl,rfl,hsame hs.sub⟩
    rw [if_neg h3]
    refine zg ⟨M,SM0,a,t,(z09 D (zo M.pre (z5n M.l) zw) Fr).2,rfl,hSM,by omega,by rw [hadd],⟨rfl,rfl,rfl,rfl⟩,hs⟩
  rintro _ w2 ⟨M1,SM0,a,t,D1,rfl,hSM,htl,hres,⟨hd1,hd2,hd3,hd4⟩,hs⟩
  clear hsame
  rw [hres]
  obtain ⟨hokm,hs⟩:=zcj hSM hs
  have hF2:∀ i,((q.take i).flatMap frL).length<=Fr.length:=hfsum
  have hlq:=hs.slen z1 (xs:=q) (enc:=z00)
  refine zl (λ_ w'=>Sat w' (z0q M1.gap a ⟨t.ix,t.s.add q⟩::pt lg (.cells #[.pointer (some ⟨M1.d,0,none⟩),.string M1.pre,.int .i64 M1.seg,.int .i64 M1.gap,.slice M1.z.a M1.z.len M1.z.cap] T.a47)::slc T.a32 1 M1.z ((SM0.map Prod.fst++[a]).flatMap z1s)::HP.all (SM0.map λt=>z0q M1.gap t.1 t.2)::dk M.d D1::slc T.a0 7 z1 (q.flatMap z00)::slc T.a45 1 z2 ((fs.map Prod.fst).flatMap z0g)::HP.all (fs.map frP)::r)) ?_ ?_
  ·refine z0b (λm v w=>∃ i:Nat,v=((i:Int),())/\i<=q.length/\q.length-i=m/\Sat w (z0q M1.gap a ⟨t.ix,t.s.add (q.take i)⟩::pt lg (.cells #[.pointer (some ⟨M1.d,0,none⟩),.string M1.pre,.int .i64 M1.seg,.int .i64 M1.gap,.slice M1.z.a M1.z.len M1.z.cap] T.a47)::slc T.a32 1 M1.z ((SM0.map Prod.fst++[a]).flatMap z1s)::HP.all (SM0.map λt=>z0q M1.gap t.1 t.2)::dk M.d D1::slc T.a0 7 z1 (q.flatMap z00)::slc T.a45 1 z2 ((fs.map Prod.fst).flatMap z0g)::HP.all (fs.map frP)::r)) q.length ⟨0,rfl,by omega,rfl,by rw [List.take_zero,zhq];exact hs⟩ ?_
   clear hs
   rintro m _ w ⟨i,rfl,hi,hm,hs⟩
   refine zk ?_
   refine zf (λhc=>?_) λhc=>?_
   rotate_left
   ·refine zn (zg ?_)
    rwa [List.take_of_length_le (by omega)] at hs
   have hil:i<q.length:=by omega
   have hil2:i<fs.length:=by omega
   refine z30 hs (xs:=q) (enc:=z00) i hil ?_
   refine zt hs λc w' hs=>?_
   refine wp_lt ?_
   refine zu hs λw' hs=>?_
   refine z01 hs λw' hs=>?_
   refine zi hs ?_
   refine z26 hs (xs:=fs.map Prod.fst) (enc:=z0g) i (by rw [List.length_map];omega) ?_
   have e1:(fs.map Prod.fst)[i]'(by rw [List.length_map];omega)=fs[i].1:=by simp
   rw [e1]
   have hR:FocR (HP.all (fs.map frP)::r) fs[i].1 1 (fs[i].2.flatMap zj):=zgf (List.getElem_mem hil2)
   have hl2:=hs.slen fs[i].1 (xs:=fs[i].2) (enc:=zj)
   rw [hfget i hil2] at hl2
   rw [hl2]
   obtain ⟨hvq,c0,hc0,hcx,hcr⟩:=hp2 q[i] (List.getElem_mem hil)
   have hRb:FocR r q[i].x 4 (q[i].rs.flatMap zv):=by rw [hcx,hcr];exact hbs c0 hc0
   have hfi:((q.take (i+1)).flatMap frL).length=((q.take i).flatMap frL).length+(frL q[i]).length:=by
    rw [List.take_succ_eq_append_getElem hil,List.flatMap_append,List.length_append];simp
   have:=hF2 (i+1)
   refine z8 (zxp (gap:=M1.gap) (a:=a) q[i] hvq (by show (t.s.add (q.take i)).file.length+_<=_;rw [z77,List.length_append];omega) hs) λ_ w' hs=>?_
   obtain ⟨rfl,hs⟩:=hs
   refine zd ?_
   refine ze ?_
   rw [wS (i:=i) (by omega)]
   refine z0x (q.length-(i+1)) ⟨i+1,rfl,by omega,rfl,?_⟩
   have e2:(t.s.add (q.take i)).add [q[i]]=t.s.add (q.take (i+1)):=by rw [add_add,List.take_succ_eq_append_getElem hil]
   have hs:Sat w' (z0q M1.gap a ⟨t.ix,(t.s.add (q.take i)).add [q[i]]⟩::_):=hs
   rw [e2] at hs
   exact hs.sub
  clear hs
  rintro _ w3 hs
  refine zk ?_
  refine z05q hs (xs:=q) (enc:=z00) 0 (by omega) ?_
  refine wp_lt ?_
  have hq0:(q[0]'(by omega)).base=n0:=hp3 _ (by rw [List.head?_eq_getElem?,List.getElem?_eq_getElem])
  rw [hq0]
  refine ⟨rfl,rfl,?_⟩
  have hs:=z4l _ (zbd M1 hokm hs)
  have eA:LogM.A { M1 with SM:=SM0++[(a,(⟨t.ix,t.s.add q⟩:SegM))] }=M.A.set ((SM0.map λt=>t.2.s)++[t.s.add q]):=by
   unfold LogM.A LogM.l LogA.set
   simp only [List.map_append,List.map_cons,List.map_nil,hd1,hd2,hd3,hd4]
  rw [eA] at hs
  exact hs.sub
end
def z35 (s:SegA) (k:Nat):Nat:=(shL s.base s.fin).length+((s.bs.take k).flatMap frL).length
def z04 (l:List SegA):List BatM:=l.flatMap SegA.bs
def z54 (l:List SegA) (off most:Int):Int × List BatM:=if most<1 then (2,[]) else if off<z13 l\/off>zm l then (8,[]) else (0,((z04 l).filterMap (z0u off)).take most.toNat)
def zx6 (s:SegA) (o:Option EntA):Int:=match o with
 | none=>((shL s.base s.fin).length:Int)
 | some e=>e.place
theorem zx7 (s:SegA):z35 s 0=(shL s.base s.fin).length:=by simp [z35]
theorem zzw (s:SegA):z35 s s.bs.length=s.file.length:=by unfold z35;rw [List.take_length,z2q]
theorem zjr (s:SegA) {k:Nat} (hk:k<s.bs.length):z35 s (k+1)=z35 s k+(frL s.bs[k]).length:=by
 unfold z35
 rw [List.take_succ_eq_append_getElem hk,List.flatMap_append,List.length_append]
 simp
 omega
theorem zic (s:SegA) (k:Nat):z35 s k<=s.file.length:=by
 unfold z35
 rw [z2q]
 have:(s.bs.flatMap frL)=(s.bs.take k).flatMap frL++(s.bs.drop k).flatMap frL:=by rw [<- List.flatMap_append,List.take_append_drop]
 rw [this,List.length_append];omega
theorem zw8 (s:SegA) (k:Nat):s.file.drop (z35 s k)=(s.bs.drop k).flatMap frL:=by
 have e:s.file=(shL s.base s.fin++(s.bs.take k).flatMap frL)++(s.bs.drop k).flatMap frL:=by
  unfold SegA.file
  rw [List.append_assoc,<- List.flatMap_append,List.take_append_drop]
 rw [e]
 exact List.drop_left' (by rw [List.length_append];rfl)
theorem zsj {s:SegA} (h:SegOk s) {k:Nat} (hk:k<s.bs.length):z11 (s.file.drop (z35 s k))=some (z2o s.bs[k],(frL s.bs[k]).length)/\z69 (z2o s.bs[k])=some s.bs[k]:=by
 obtain ⟨hv,hp⟩:=h.bs.valid s.bs[k] (List.getElem_mem hk)
 have hl:=z67 hv
 have hf:=z57 hv
 refine ⟨?_,by rw [ziy hv,hp]⟩
 rw [zw8,List.drop_eq_getElem_cons hk,List.flatMap_cons,hf.2]
 exact z6t hl.2 _
theorem z1n.lt:∀ {n:Int} {bs:List BatM},z1n n bs->∀ (j i:Nat) (hi:i<bs.length) (hj:j<i),n<=(bs[j]'(by omega)).base/\(bs[j]'(by omega)).base+zp (bs[j]'(by omega))<=bs[i].base
 | n,b::bs,⟨h1,h2,h3,h4⟩,0,i+1,hi,hj=>by
  refine ⟨h3,?_⟩
  simp only [List.getElem_cons_zero,List.getElem_cons_succ]
  have hi:i<bs.length:=by simpa using hi
  obtain ⟨s1,-,-,-,-⟩:=z15 b h1
  cases i with
  | zero =>
   cases bs with
   | nil=>simp at hi
   | cons c cs=>exact h4.2.2.1
  | succ i =>
   have:=(h4.lt 0 (i+1) hi (by omega)).1
   have h5:=(h4.lt 0 (i+1) hi (by omega)).2
   obtain ⟨s2,-,-,-,-⟩:=z15 _ (h4.valid _ (List.getElem_mem (show 0<bs.length by omega))).1
   omega
 | n,b::bs,⟨h1,h2,h3,h4⟩,j+1,i+1,hi,hj=>by
  simp only [List.getElem_cons_succ]
  have hi:i<bs.length:=by simpa using hi
  have:=h4.lt j i hi (by omega)
  obtain ⟨s1,-,-,-,-⟩:=z15 b h1
  exact ⟨by omega,this.2⟩
theorem z1n.le_next {n:Int} {bs:List BatM} (h:z1n n bs) {b:BatM} (hb:b ∈ bs):b.base+zp b<=z0f bs:=by
 obtain ⟨j,hj,rfl⟩:=List.mem_iff_getElem.1 hb
 have hne:bs≠[]:=by rintro rfl;simp at hj
 have e:z0f bs=(bs[bs.length-1]'(by omega)).base+zp (bs[bs.length-1]'(by omega)):=by
  unfold z0f
  rw [List.getLast?_eq_getElem?,List.getElem?_eq_getElem (by omega)]
 rw [e]
 by_cases hjl:j=bs.length-1
 ·subst hjl;exact Int.le_refl _
 ·have:=(h.lt j (bs.length-1) (by omega) (by omega)).2
  obtain ⟨s1,-,-,-,-⟩:=z15 _ (h.valid _ (List.getElem_mem (show bs.length-1<bs.length by omega))).1
  omega
theorem zgt {off:Int} {b:BatM} (hv:zx b=0) (h:b.base+zp b<=off):z0u off b=none:=by
 unfold z0u
 rw [if_pos (.inr (by unfold z1q;rw [if_neg (by rw [hv];simp)];exact h))]
theorem zqi {off:Int} {b c:BatM} (hp:b.p=b) (h:z0u off b=some c):c.p=c:=by
 have hx:b.x=z88:=by rw [<- hp];rfl
 unfold z0u at h
 split at h
 ·cases h
 ·split at h
  ·simp only [Option.some.injEq] at h;subst h;exact hp
  ·simp only [Option.some.injEq] at h;subst h;unfold zkj BatM.p;simp only [hx];rfl
theorem zb6 {α β:Type} {f:α->Option β} {l:List α} (h:∀ x ∈ l,f x=none):l.filterMap f=[]:=by
 rw [List.filterMap_eq_nil_iff];exact h
theorem zwb {s:SegA} (h:SegOk s) (hl:s.file.length<=4194304) (gap off:Int):∃ k,k<=s.bs.length/\zx6 s (z3b (s.idx gap).l off)=((z35 s k:Nat):Int)/\∀ b ∈ s.bs.take k,b.base+zp b<=off:=by
 have hi:=zlo gap s.bs.length (n:=s.base) (q:=(shL s.base s.fin).length) rfl h.base.1 (by omega) h.bs (by have:=z2q s;omega)
 cases hf:z3b (s.idx gap).l off with
 | none=>exact ⟨0,Nat.zero_le _,by rw [zx7];rfl,by simp⟩
 | some e =>
  unfold z3b at hf
  obtain ⟨a,c,hac,he,-⟩:=zne hf
  have he:e.offset<=off:=by simpa using he
  obtain ⟨i,hil,hie⟩:=hi.ent e (by show e ∈ (s.idx gap).l;rw [hac];simp)
  refine ⟨i,by omega,?_,λb hb=>?_⟩
  ·show e.place=_
   rw [hie]
   unfold z35
   simp only
   omega
  ·obtain ⟨j,hj,rfl⟩:=List.mem_iff_getElem.1 hb
   rw [List.length_take] at hj
   rw [List.getElem_take]
   have:=(h.bs.lt j i hil (by omega)).2
   rw [hie] at he
   simp only at he
   omega
theorem z0e.skip:∀ {n:Int} {l:List SegA},z0e n l->∀ (i j:Nat) (hj:j<l.length) (hi:i<j),(l[i]'(by omega)).reach<=l[j].base/\(l[i]'(by omega)).base<l[j].base
 | n,s::l,⟨h1,h2,h3⟩,0,j+1,hj,_=>by
  have hj:j<l.length:=by simpa using hj
  have:=(h3.mem l[j] (List.getElem_mem hj)).2
  simp only [List.getElem_cons_zero,List.getElem_cons_succ]
  omega
 | n,s::l,⟨h1,h2,h3⟩,i+1,j+1,hj,hi=>by
  simp only [List.getElem_cons_succ]
  exact h3.skip i j (by simpa using hj) (by omega)
theorem z00f {l:List SegA} (hok:z0e 0 l) {off:Int} {i:Nat} (hi:i<l.length) (hb:l[i].base<=off\/i=0):(z04 l).filterMap (z0u off)=(z04 (l.drop i)).filterMap (z0u off):=by
 have e:z04 l=z04 (l.take i)++z04 (l.drop i):=by unfold z04;rw [<- List.flatMap_append,List.take_append_drop]
 rw [e,List.filterMap_append,zb6 (l:=z04 (l.take i)),List.nil_append]
 intro b hb'
 obtain ⟨s,hs,hbs⟩:=List.mem_flatMap.1 hb'
 obtain ⟨j,hj,rfl⟩:=List.mem_iff_getElem.1 hs
 rw [List.length_take] at hj
 rw [List.getElem_take] at hbs
 have h1:=(hok.skip j i hi (by omega)).1
 have hsg:=(hok.mem (l[j]'(by omega)) (List.getElem_mem _)).1
 have h2:=hsg.bs.le_next hbs
 have h3:=(z5t hsg).2.2.1
 refine zgt (hsg.bs.valid b hbs).1 ?_
 rcases hb with hb|hb
 ·omega
 ·omega
theorem zhu {s:SegA} (h:SegOk s):s.bs.length*10<=s.file.length:=by
 have:=z9l h.bs
 rw [z2q];omega
def z0y (pre:ByteArray):List ByteArray->DiskA->Int × List Int × DiskA
 | [],D=>(0,[],D)
 | n::ns,D=>if (z1f pre n z87).isSome=true/\(z18 D n).1≠0 then ((z18 D n).1,[],(z18 D n).2) else
  ((z0y pre ns (if (z1f pre n z87).isSome then (z18 D n).2 else D)).1,(match z1f pre n zw with|some b=>[(b:Int)]|none=>[])++(z0y pre ns (if (z1f pre n z87).isSome then (z18 D n).2 else D)).2.1,(z0y pre ns (if (z1f pre n z87).isSome then (z18 D n).2 else D)).2.2)
def z6r (pre:ByteArray):List Int->DiskA->Int × DiskA
 | [],D=>(0,D)
 | b::bs,D=>if (z18 D (zo pre b zw)).1≠0 then z18 D (zo pre b zw) else z6r pre bs (z18 D (zo pre b zw)).2
def z1r (pre:ByteArray) (l:List SegA) (D:DiskA) (base:Int):(Bool × Int) × List SegA × DiskA:=match z06 D.fs (zo pre base zw) with
 | none=>((false,3),l,D)
 | some p=>match z4u base p.1 with
  | none=>((false,(z18 D (zo pre base zw)).1),l,(z18 D (zo pre base zw)).2)
  | some q=>if q.2=p.1.length then ((true,0),l++[q.1],D) else ((false,(cutA' D (zo pre base zw) (q.2:Nat)).1),l++[q.1],(cutA' D (zo pre base zw) (q.2:Nat)).2)
def z28 (pre:ByteArray):List Int->List SegA->DiskA->Int × List SegA × DiskA
 | [],l,D=>(0,l,D)
 | b::bs,l,D=>if b<zm l then (if (z18 D (zo pre b zw)).1≠0 then ((z18 D (zo pre b zw)).1,l,(z18 D (zo pre b zw)).2) else z28 pre bs l (z18 D (zo pre b zw)).2) else
  if (z1r pre l D b).1.2≠0 then ((z1r pre l D b).1.2,(z1r pre l D b).2) else
  if (z1r pre l D b).1.1=true then z28 pre bs (z1r pre l D b).2.1 (z1r pre l D b).2.2 else ((z6r pre bs (z1r pre l D b).2.2).1,(z1r pre l D b).2.1,(z6r pre bs (z1r pre l D b).2.2).2)
def z4n (pre:ByteArray) (D:DiskA):Int × List SegA × DiskA :=
 if (z0y pre (z12 (z16 pre) D.fs) D).1≠0 then ((z0y pre (z12 (z16 pre) D.fs) D).1,[],(z0y pre (z12 (z16 pre) D.fs) D).2.2) else
  z28 pre (z0y pre (z12 (z16 pre) D.fs) D).2.1 [] (z0y pre (z12 (z16 pre) D.fs) D).2.2
theorem z040 (pre:ByteArray):pre++ByteArray.mk #[45]=z16 pre:=by
 apply zct
 rw [zdw]
 unfold bl
 simp
theorem zyc {pre n:ByteArray} {x:List UInt8} {v:Nat} (h:z1f pre n x=some v):v<17592186044416:=by
 unfold z1f at h
 split at h
 ·have:=zhy (k:=0) h (by omega)
  have h2:16 ^ (0+(((bl n).drop ((bl pre).length+1)).take 11).length)<=16 ^ 11:=Nat.pow_le_pow_right (by omega) (by rw [List.length_take];omega)
  omega
 ·cases h
theorem zj4 {pre:ByteArray}:∀ {ns:List ByteArray} {D:DiskA},∀ b ∈ (z0y pre ns D).2.1,0<=b/\b<17592186044416
 | [],D,b,h=>by cases h
 | n::ns,D,b,h=>by
  unfold z0y at h
  split at h
  ·cases h
  ·simp only at h
   rcases List.mem_append.1 h with h|h
   ·cases hb:z1f pre n zw with
    | none=>rw [hb] at h;cases h
    | some v =>
     rw [hb] at h
     simp only [List.mem_cons,List.not_mem_nil,or_false] at h
     have:=zyc hb
     omega
   ·exact zj4 b h
theorem zgr {pre:ByteArray}:∀ {ns:List ByteArray} {D:DiskA},(z0y pre ns D).2.1.length<=ns.length
 | [],D=>Nat.le_refl _
 | n::ns,D=>by
  unfold z0y
  split
  ·exact Nat.zero_le _
  ·simp only [List.length_append,List.length_cons]
   have:=zgr (pre:=pre) (ns:=ns) (D:=if (z1f pre n z87).isSome then (z18 D n).2 else D)
   split <;> simp <;> omega
section
variable {w:World} {l r:List HP} {lg:Nat} {M:LogM} {A:LogA} {D:DiskA} {gap:Int} {a:Nat} {t:SegM}
def lgR (M:LogM):HP:=HP.star (slc T.a32 1 M.z ((M.SM.map Prod.fst).flatMap z1s)) (HP.all (M.SM.map λt=>z0q M.gap t.1 t.2))
theorem z9o (hs:Sat w (lgQ lg M::l)):okM M.gap M.seg M.pre/\Sat w (pt lg (.cells #[.pointer (some ⟨M.d,0,none⟩),.string M.pre,.int .i64 M.seg,.int .i64 M.gap,.slice M.z.a M.z.len M.z.cap] T.a47)::lgR M::l):=by
 obtain ⟨h,hs⟩:=hs.and
 exact ⟨h,hs.star⟩
theorem z4m (M:LogM) (h:okM M.gap M.seg M.pre) (hs:Sat w (pt lg (.cells #[.pointer (some ⟨M.d,0,none⟩),.string M.pre,.int .i64 M.seg,.int .i64 M.gap,.slice M.z.a M.z.len M.z.cap] T.a47)::lgR M::l)):Sat w (lgQ lg M::l):=.and_mk h (.star_mk hs)
theorem z048 {r1:List HP} [hf:Fo l lgQ lg M r1] [hf2:Fo r1 dk M.d D r] (hs:Sat w l) :
  Ret P F.a127 #[.pointer (some ⟨lg,0,none⟩)] w λvs w' =>
   ((z0y M.pre (z12 (z16 M.pre) D.fs) D).1≠0/\vs=[.slice none 0 0,.int .i64 (z0y M.pre (z12 (z16 M.pre) D.fs) D).1]/\Sat w' (lgQ lg M::dk M.d (z0y M.pre (z12 (z16 M.pre) D.fs) D).2.2::r)) \/
   ((z0y M.pre (z12 (z16 M.pre) D.fs) D).1=0/\∃ z:Sl,vs=[z.v,.int .i64 0]/\Sat w' (slc T.a14 1 z ((z0y M.pre (z12 (z16 M.pre) D.fs) D).2.1.flatMap z4d)::lgQ lg M::dk M.d (z0y M.pre (z12 (z16 M.pre) D.fs) D).2.2::r)) :=
 zok _ <| by
  delta z028 AA AC AD AE AH AK AL AP AQ AV AW Aa Ae Ag Ah Ai Al Ao Ay Az Br
  have hs:=hs.perm (hf.perm.trans (.cons _ hf2.perm))
  clear hf hf2
  obtain ⟨hokm,hs⟩:=z9o hs
  have hsz:=hokm.size
  refine z01 hs λw' hs=>?_
  refine zh ?_
  refine zb hs ?_
  refine zh ?_
  refine zb hs ?_
  refine wp_must (by omega) ?_
  rw [z040]
  obtain ⟨m_,FS_,-,hokD,-⟩:=z2a (hs.pick [2])
  have hok24:∀ n ∈ z12 (z16 M.pre) D.fs,n.size<=24:=λn hn=>by
   unfold z12 at hn
   obtain ⟨f,hf,rfl⟩:=List.mem_map.1 (List.mem_filter.1 hn).1
   exact hokD.names f hf
  have hnl:(z12 (z16 M.pre) D.fs).length<=128:=by
   unfold z12
   exact Nat.le_trans (List.length_filter_le _ _) (by rw [List.length_map];exact hokD.many)
  refine z8 (zr0 (d:=M.d) (A:=D) (z16 M.pre) hs) λ_ w' hs=>?_
  obtain ⟨x,rfl,hs⟩:=hs
  refine zd ?_
  refine ze ?_
  generalize z12 (z16 M.pre) D.fs=ns at *
  have hl:=hs.slen x (xs:=ns) (enc:=z1i)
  refine zl (λq w'=>∃ z:Sl,q=(z,())/\(z0y M.pre ns D).1=0/\Sat w' (slc T.a14 1 z ((z0y M.pre ns D).2.1.flatMap z4d)::lgQ lg M::dk M.d (z0y M.pre ns D).2.2::r)) ?_ ?_
  rotate_left
  ·rintro _ w2 ⟨z,rfl,h1,hs⟩
   exact ⟨rfl,.inr ⟨h1,z,rfl,hs⟩⟩
  have hs:Sat w' (slc T.a14 1 ⟨none,0,0⟩ (([]:List Int).flatMap z4d)::dk M.d D::pt lg (.cells #[.pointer (some ⟨M.d,0,none⟩),.string M.pre,.int .i64 M.seg,.int .i64 M.gap,.slice M.z.a M.z.len M.z.cap] T.a47)::lgR M::slc T.a50 1 x (ns.flatMap z1i)::r):=by
   have h1:Sat w' (slc T.a14 1 ⟨none,0,0⟩ (([]:List Int).flatMap z4d)::_):=hs.slc_nil
   exact h1.sub
  refine z0b (λm v w=>∃ (i:Nat) (z:Sl) (done:List Int) (D':DiskA),v=(z,((i:Int),()))/\i<=ns.length/\ns.length-i=m/\done.length<=i /\
   ((z0y M.pre ns D).1=(z0y M.pre (ns.drop i) D').1/\(z0y M.pre ns D).2.2=(z0y M.pre (ns.drop i) D').2.2/\((z0y M.pre (ns.drop i) D').1=0->(z0y M.pre ns D).2.1=done++(z0y M.pre (ns.drop i) D').2.1)) /\
   Sat w (slc T.a14 1 z (done.flatMap z4d)::dk M.d D'::pt lg (.cells #[.pointer (some ⟨M.d,0,none⟩),.string M.pre,.int .i64 M.seg,.int .i64 M.gap,.slice M.z.a M.z.len M.z.cap] T.a47)::lgR M::slc T.a50 1 x (ns.flatMap z1i)::r)) ns.length
   ⟨0,⟨none,0,0⟩,[],D,rfl,by omega,rfl,by simp,⟨rfl,rfl,λ_=>rfl⟩,hs⟩ ?_
  clear hs
  rintro m _ w ⟨i,z,done,D',rfl,hi,hm,hdl,⟨hq1,hq2,hq3⟩,hs⟩
  refine zk ?_
  refine zf (λhc=>?_) λhc=>?_
  rotate_left
  ·have e:ns.drop i=[]:=List.drop_eq_nil_of_le (by omega)
   rw [e] at hq1 hq2 hq3
   have hq3:=hq3 rfl
   have e2:(z0y M.pre [] D').2.1=[]:=rfl
   rw [e2,List.append_nil] at hq3
   refine zn (zg ⟨z,rfl,hq1,?_⟩)
   have e3:(z0y M.pre [] D').2.2=D':=rfl
   rw [hq2,hq3,e3]
   have hs:=z4m M hokm (hs.pick [2,2])
   exact hs.sub
  have hil:i<ns.length:=by omega
  have hdrop:ns.drop i=ns[i]::ns.drop (i+1):=List.drop_eq_getElem_cons hil
  rw [hdrop] at hq1 hq2 hq3
  have hn24:=hok24 ns[i] (List.getElem_mem hil)
  refine z26 hs (xs:=ns) (enc:=z1i) i hil ?_
  refine wp_lt ?_
  refine z8 (zq8 (lg:=lg) ns[i] (ByteArray.mk #[46,108,111,103]) (by omega) (by decide) M.pre hsz hs) λ_ w' hs=>?_
  obtain ⟨rfl,hs⟩:=hs
  refine zd ?_
  refine wp_lt ?_
  refine wp_lt ?_
  have eb:z1f M.pre ns[i] (bl (ByteArray.mk #[46,108,111,103]))=z1f M.pre ns[i] zw:=rfl
  rw [eb]
  refine zl (λq w'=>∃ z':Sl,q=(z',())/\Sat w' (slc T.a14 1 z' ((done++(match z1f M.pre ns[i] zw with|some b=>[(b:Int)]|none=>[])).flatMap z4d)::dk M.d D'::pt lg (.cells #[.pointer (some ⟨M.d,0,none⟩),.string M.pre,.int .i64 M.seg,.int .i64 M.gap,.slice M.z.a M.z.len M.z.cap] T.a47)::lgR M::slc T.a50 1 x (ns.flatMap z1i)::r)) ?_ ?_
  ·cases hb:z1f M.pre ns[i] zw with
   | none =>
    refine z03 ?_ (by simp)
    refine zg ⟨z,rfl,?_⟩
    rw [List.append_nil]
    exact hs
   | some b =>
    refine z0t ?_ (by rfl)
    refine z5f (xs:=done) (enc:=z4d) (y:=(b:Int)) hs (λz' w' hs=>?_) rfl (by omega)
    exact zg ⟨z',rfl,hs⟩
  rintro _ w2 ⟨z',rfl,hs⟩
  have hdl2:(done++(match z1f M.pre ns[i] zw with|some b=>[(b:Int)]|none=>[])).length<=i+1:=by
   rw [List.length_append]
   split <;> simp <;> omega
  refine z8 (zq8 (lg:=lg) ns[i] (ByteArray.mk #[46,110,101,119]) (by omega) (by decide) M.pre hsz hs) λ_ w' hs=>?_
  obtain ⟨rfl,hs⟩:=hs
  refine zd ?_
  refine wp_lt ?_
  refine wp_lt ?_
  have eb2:z1f M.pre ns[i] (bl (ByteArray.mk #[46,110,101,119]))=z1f M.pre ns[i] z87:=rfl
  rw [eb2]
  have hun:z0y M.pre (ns[i]::ns.drop (i+1)) D'=if (z1f M.pre ns[i] z87).isSome=true/\(z18 D' ns[i]).1≠0 then ((z18 D' ns[i]).1,[],(z18 D' ns[i]).2) else
   ((z0y M.pre (ns.drop (i+1)) (if (z1f M.pre ns[i] z87).isSome then (z18 D' ns[i]).2 else D')).1,(match z1f M.pre ns[i] zw with|some b=>[(b:Int)]|none=>[])++(z0y M.pre (ns.drop (i+1)) (if (z1f M.pre ns[i] z87).isSome then (z18 D' ns[i]).2 else D')).2.1,(z0y M.pre (ns.drop (i+1)) (if (z1f M.pre ns[i] z87).isSome then (z18 D' ns[i]).2 else D')).2.2):=rfl
  refine zl (λq w'=>¬ ((z1f M.pre ns[i] z87).isSome=true/\(z18 D' ns[i]).1≠0)/\Sat w' (slc T.a14 1 z' ((done++(match z1f M.pre ns[i] zw with|some b=>[(b:Int)]|none=>[])).flatMap z4d)::dk M.d (if (z1f M.pre ns[i] z87).isSome then (z18 D' ns[i]).2 else D')::pt lg (.cells #[.pointer (some ⟨M.d,0,none⟩),.string M.pre,.int .i64 M.seg,.int .i64 M.gap,.slice M.z.a M.z.len M.z.cap] T.a47)::lgR M::slc T.a50 1 x (ns.flatMap z1i)::r)) ?_ ?_
  ·refine zf (λh=>?_) λh=>?_
   rotate_left
   ·refine zg ⟨λhh=>h hh.1,?_⟩
    rw [if_neg h]
    exact hs
   refine zh ?_
   refine zb hs ?_
   refine z8 (zc6 (d:=M.d) (A:=D') ns[i] hs) λ_ w' hs=>?_
   obtain ⟨rfl,hs⟩:=hs
   refine zd ?_
   refine wp_lt ?_
   refine zf (λh2=>?_) λh2=>?_
   ·refine wp_lt ?_
    rw [if_pos ⟨h,h2⟩] at hun
    rw [hun] at hq1 hq2
    have hs:=z4m M hokm (hs.pick [2,2])
    refine zn (zn (zn ⟨rfl,.inl ⟨by rw [hq1];exact h2,by rw [hq1],?_⟩⟩))
    rw [hq2]
    exact hs.sub
   ·refine zg ⟨λhh=>h2 hh.2,?_⟩
    rw [if_pos h]
    exact hs.sub
  rintro _ w3 ⟨hno,hs⟩
  rw [if_neg hno] at hun
  rw [hun] at hq1 hq2 hq3
  refine zk ?_
  rw [wS (i:=i) (by omega)]
  refine z0x (ns.length-(i+1)) ⟨i+1,z',done++(match z1f M.pre ns[i] zw with|some b=>[(b:Int)]|none=>[]),_,rfl,by omega,rfl,hdl2,⟨hq1,hq2,λh=>?_⟩,hs⟩
  rw [hq3 h,List.append_assoc]
theorem z041 (x:Sl) (bs:List Int) (hb:∀ b ∈ bs,0<=b/\b<17592186044416) {r1:List HP} [hf:Fo l lgQ lg M r1] [hf2:Fo r1 dk M.d D r] (hx:FocR r x 1 (bs.flatMap z4d)) (hlen:bs.length<=1000000) (hs:Sat w l) :
  Ret P F.a126 #[.pointer (some ⟨lg,0,none⟩),x.v] w λvs w'=>vs=[.int .i64 (z6r M.pre bs D).1]/\Sat w' (lgQ lg M::dk M.d (z6r M.pre bs D).2::r) :=
 zoj _ x <| by
  delta z027 AC AD AG AH AQ AU Aa Ae Af Ag Ah Ai Al Ao Ar Az Bd
  have hs:=hs.perm (hf.perm.trans (.cons _ hf2.perm))
  clear hf hf2
  obtain ⟨hokm,hs⟩:=z9o hs
  have hsz:=hokm.size
  have hl:=hs.slen x (xs:=bs) (enc:=z4d)
  refine zl (λ_ w'=>(z6r M.pre bs D).1=0/\Sat w' (lgQ lg M::dk M.d (z6r M.pre bs D).2::r)) ?_ ?_
  rotate_left
  ·rintro _ w2 ⟨h1,hs⟩
   rw [h1]
   exact ⟨rfl,rfl,hs⟩
  refine z0b (λm v w=>∃ (i:Nat) (D':DiskA),v=((i:Int),())/\i<=bs.length/\bs.length-i=m/\z6r M.pre bs D=z6r M.pre (bs.drop i) D' /\
   Sat w (pt lg (.cells #[.pointer (some ⟨M.d,0,none⟩),.string M.pre,.int .i64 M.seg,.int .i64 M.gap,.slice M.z.a M.z.len M.z.cap] T.a47)::lgR M::dk M.d D'::r)) bs.length ⟨0,D,rfl,by omega,rfl,rfl,hs⟩ ?_
  clear hs
  rintro m _ w ⟨i,D',rfl,hi,hm,hq,hs⟩
  refine zk ?_
  refine zf (λhc=>?_) λhc=>?_
  rotate_left
  ·have e:bs.drop i=[]:=List.drop_eq_nil_of_le (by omega)
   rw [e] at hq
   refine zn (zg ⟨by rw [hq];rfl,?_⟩)
   rw [hq]
   exact z4m M hokm hs
  have hil:i<bs.length:=by omega
  rw [List.drop_eq_getElem_cons hil] at hq
  have hbb:=hb bs[i] (List.getElem_mem hil)
  refine z26 hs (xs:=bs) (enc:=z4d) i hil ?_
  refine wp_lt ?_
  have hun:z6r M.pre (bs[i]::bs.drop (i+1)) D'=if (z18 D' (zo M.pre bs[i] zw)).1≠0 then z18 D' (zo M.pre bs[i] zw) else z6r M.pre (bs.drop (i+1)) (z18 D' (zo M.pre bs[i] zw)).2:=rfl
  refine zl (λv w'=>v=((z18 D' (zo M.pre bs[i] zw)).1,())/\Sat w' (pt lg (.cells #[.pointer (some ⟨M.d,0,none⟩),.string M.pre,.int .i64 M.seg,.int .i64 M.gap,.slice M.z.a M.z.len M.z.cap] T.a47)::lgR M::dk M.d (z18 D' (zo M.pre bs[i] zw)).2::r)) ?_ ?_
  ·refine z01 hs λw' hs=>?_
   refine zh ?_
   refine z0s hs ?_
   refine z8 (z86 (lg:=lg) bs[i] hbb (ByteArray.mk #[46,108,111,103]) (by decide) M.pre hsz hs) λ_ w' hs=>?_
   obtain ⟨rfl,hs⟩:=hs
   refine zd ?_ (by first|trivial|(repeat (first|exact trivial|exact λ_=>z07 hs|exact λ_=>z0c hs|refine And.intro ?_ ?_)))
   refine ze ?_
   refine z8 (zc6 (d:=M.d) (A:=D') (zo M.pre bs[i] (bl (ByteArray.mk #[46,108,111,103]))) hs) λ_ w' hs=>?_
   obtain ⟨rfl,hs⟩:=hs
   refine zd ?_
   refine wp_lt ?_
   refine ze ?_
   have hs:Sat w' (dk M.d (z18 D' (zo M.pre bs[i] zw)).2::_):=hs
   exact zg ⟨rfl,hs.sub⟩
  rintro _ w2 ⟨rfl,hs⟩
  refine zf (λh=>?_) λh=>?_
  ·refine wp_lt ?_
   rw [if_pos h] at hun
   rw [hun] at hq
   rw [hq]
   exact zn (zn ⟨rfl,rfl,z4m M hokm hs⟩)
  ·rw [if_neg h] at hun
   rw [hun] at hq
   rw [wS (i:=i) (by omega)]
   exact z0x (bs.length-(i+1)) ⟨i+1,_,rfl,by omega,rfl,hq,hs⟩
end
theorem zhg (k:Nat) (n:Int) (raw:List UInt8):z2g (k+1) n raw=match z11 raw with
  | none=>([],0)
  | some (body,m)=>match z69 body with
   | none=>([],0)
   | some b=>if b.base<n then ([],0) else (b::(z2g k (b.base+zp b) (raw.drop m)).1,m+(z2g k (b.base+zp b) (raw.drop m)).2):=rfl
theorem zdq {fs:List FileA} {n:ByteArray} {p:List UInt8 × Nat} (h:z06 fs n=some p):p.1.length<=used fs:=z8c (zsh h)
section
variable {w:World} {l r:List HP} {lg:Nat} {M:LogM} {A:LogA} {D:DiskA} {gap:Int} {a:Nat} {t:SegM}
theorem z00k (b:BatM) (z:Sl) (hv:zx b=0) (hp:b.p=b) [hf:Fo l (z0q gap) a t r] [hb:FocR r z 4 (b.rs.flatMap zv)] (hlen:t.s.file.length+(frL b).length<=1000000000) (hs:Sat w l) :
  Ret P F.a144 #[.pointer (some ⟨a,0,none⟩),.agg (z00 (b.at z)).toArray,.int .i64 ((frL b).length:Nat)] w λvs w'=>vs=[]/\Sat w' (z0q gap a ⟨t.ix,t.s.add [b]⟩::r):=by
 have hb':FocR r (b.at z).x 4 ((b.at z).rs.flatMap zv):=hb
 have h:=zxp (gap:=gap) (a:=a) (b.at z) hv hlen hs
 have e:t.s.add [b.at z]=t.s.add [b]:=by
  unfold SegA.add
  have:(b.at z).p=b.p:=rfl
  simp only [List.map_cons,List.map_nil,this]
 rw [e] at h
 exact h
set_option maxHeartbeats 1000000 in
theorem z079 (base:Int) (hb:0<=base/\base<17592186044416) {r1:List HP} [hf:Fo l lgQ lg M r1] [hf2:Fo r1 dk M.d D r] (hlen:M.SM.length<=1000000) (hs:Sat w l) :
  Ret P F.a133 #[.pointer (some ⟨lg,0,none⟩),.int .i64 base] w λvs w'=>vs=[.bool (z1r M.pre M.l D base).1.1,.int .i64 (z1r M.pre M.l D base).1.2] /\
   ∃ M':LogM,(M'.d=M.d/\M'.pre=M.pre/\M'.seg=M.seg/\M'.gap=M.gap)/\M'.l=(z1r M.pre M.l D base).2.1/\M'.SM.length<=M.SM.length+1/\Sat w' (lgQ lg M'::dk M.d (z1r M.pre M.l D base).2.2::r) :=
 zoq _ base <| by
  delta z02e AA AG AQ AW Aa Ab Ac Ae Af Ag Ah Ai Al Ao Ar As Au Ay Az BW Bb Bc Be Bi Bj Br
  have hs:=hs.perm (hf.perm.trans (.cons _ hf2.perm))
  clear hf hf2
  obtain ⟨hokm,hs⟩:=z9o hs
  have hsz:=hokm.size
  obtain ⟨m_,FS_,-,hokD,-⟩:=z2a (hs.pick [2])
  refine z8 (z86 (lg:=lg) base hb (ByteArray.mk #[46,108,111,103]) (by decide) M.pre hsz hs) λ_ w' hs=>?_
  obtain ⟨rfl,hs⟩:=hs
  refine zd ?_
  have en:zo M.pre base (bl (ByteArray.mk #[46,108,111,103]))=zo M.pre base zw:=rfl
  rw [en]
  generalize hnm:zo M.pre base zw=nm at *
  refine wp_lt ?_
  refine zh ?_
  refine zb hs ?_
  have hsame:∀ {w:World} {D':DiskA},Sat w (pt lg (.cells #[.pointer (some ⟨M.d,0,none⟩),.string M.pre,.int .i64 M.seg,.int .i64 M.gap,.slice M.z.a M.z.len M.z.cap] T.a47)::lgR M::dk M.d D'::r)->∃ M':LogM,(M'.d=M.d/\M'.pre=M.pre/\M'.seg=M.seg/\M'.gap=M.gap)/\M'.l=M.l/\M'.SM.length<=M.SM.length+1/\Sat w (lgQ lg M'::dk M.d D'::r):=λhs=>⟨M,⟨rfl,rfl,rfl,rfl⟩,rfl,by omega,z4m M hokm hs⟩
  unfold z1r
  rw [hnm]
  refine z8 (zh9 (d:=M.d) (A:=D) nm hs) λ_ w' hs=>?_
  rcases hs with ⟨f,hff,hfn,x,rfl,hs⟩|⟨hno,rfl,hs⟩
  rotate_left
  ·refine zd ?_
   refine wp_lt ?_
   refine z0t ?_ (by decide)
   refine wp_lt ?_
   rw [z7p.2 hno]
   exact ⟨rfl,rfl,hsame hs.sub⟩
  refine zd ?_
  refine wp_lt ?_
  refine z03 ?_ (by simp)
  have hfd:z06 D.fs nm=some (f.b,f.kept):=by rw [<- hfn];exact zcx (z2v hokD.sorted) hff
  have hrl:f.b.length<=4194304:=Nat.le_trans (z8c hff) hokD.used
  rw [hfd]
  simp only
  generalize f.b=raw at *
  have hl:=hs.slen x (xs:=raw) (enc:=zj)
  have hcap:=hs.slc_cap
  refine z8 (zbr x raw hcap (by omega) hs) λ_ w' hs=>?_
  obtain ⟨y,rfl,hs⟩:=hs
  refine zd ?_
  refine wp_lt ?_
  refine wp_lt ?_
  refine zl (λq w'=>∃ v:Int,q=(v,(z4u base raw).isSome,())/\(∀ s,z4u base raw=some s->v=s.1.fin)/\Sat w' (slc T.a53 1 x (raw.flatMap zj)::pt lg (.cells #[.pointer (some ⟨M.d,0,none⟩),.string M.pre,.int .i64 M.seg,.int .i64 M.gap,.slice M.z.a M.z.len M.z.cap] T.a47)::lgR M::dk M.d D::r)) ?_ ?_
  ·cases hfr:z11 raw with
   | none =>
    rw [hfr] at hs
    have e:z4u base raw=none:=by unfold z4u;rw [hfr]
    rw [e]
    refine z03 ?_ (by simp)
    exact zg ⟨0,rfl,(λs h=>by cases h),hs.sub⟩
   | some q =>
    obtain ⟨body,m⟩:=q
    rw [hfr] at hs
    have hs:Sat w' (slc T.a53 1 y (body.flatMap zj)::_):=hs
    obtain ⟨-,-,hbd,-⟩:=z6b hfr
    refine z0t ?_ (by rfl)
    refine z8 (zyz y body base (by omega) (by omega) hs) λ_ w' hs=>?_
    obtain ⟨v,rfl,hv,hs⟩:=hs
    refine zd ?_
    refine wp_lt ?_
    refine wp_lt ?_
    have e:z4u base raw=match z63 base body with
      | none=>none
      | some fin=>some (⟨base,fin,(z2g raw.length base (raw.drop m)).1⟩,m+(z2g raw.length base (raw.drop m)).2):=by simp only [z4u,hfr];cases z63 base body <;> rfl
    rw [e]
    cases hh:z63 base body with
    | none=>exact zg ⟨v,rfl,(λs h=>by cases h),hs.sub⟩
    | some fin =>
     have:=hv fin hh
     subst this
     exact zg ⟨v,rfl,(λs h=>by simp only [Option.some.injEq] at h;subst h;rfl),hs.sub⟩
  rintro _ w2 ⟨v,rfl,hv,hs⟩
  cases hsc:z4u base raw with
  | none =>
   refine z0t ?_ (by simp)
   refine zh ?_
   refine zb hs ?_
   refine z8 (zc6 (d:=M.d) (A:=D) nm hs) λ_ w' hs=>?_
   obtain ⟨rfl,hs⟩:=hs
   refine zd ?_
   refine wp_lt ?_
   exact ⟨rfl,rfl,hsame hs.sub⟩
  | some q =>
   obtain ⟨s,mm⟩:=q
   dsimp only
   have hv:=hv _ hsc
   have hv:v=s.fin:=hv
   subst hv
   obtain ⟨hsok,hsb,hst,hsm,hsml⟩:=zmq hsc
   refine z03 ?_ (by simp)
   obtain ⟨m0,hm0,htk⟩:∃ m0,((z11 raw).getD ([],0)).2=m0/\m0<=raw.length/\m0=(shL s.base s.fin).length/\s.bs=(z2g raw.length base (raw.drop m0)).1/\mm=m0+(z2g raw.length base (raw.drop m0)).2:=by
    unfold z4u at hsc
    cases hfr:z11 raw with
    | none=>rw [hfr] at hsc;cases hsc
    | some q =>
     obtain ⟨body,m⟩:=q
     rw [hfr] at hsc
     simp only at hsc
     cases hh:z63 base body with
     | none=>rw [hh] at hsc;cases hsc
     | some fin =>
      rw [hh] at hsc
      simp only [Option.some.injEq,Prod.mk.injEq] at hsc
      obtain ⟨e1,e2⟩:=hsc
      obtain ⟨f1,f2,f3,f4⟩:=z6b hfr
      obtain ⟨-,-,hb3⟩:=zjb hh
      refine ⟨m,rfl,f2,?_,by rw [<- e1],e2.symm⟩
      rw [<- e1]
      show m=(shL base fin).length
      unfold shL
      rw [z8b (by have:=ze9 base fin;omega),<- hb3,f1]
   obtain ⟨h1,h2,h3,h4⟩:=htk
   rw [hm0]
   have hbase0:=hsok.base
   have hfin0:0<=s.fin/\s.fin<9223372036854775808:=by have:=hsok.fin;omega
   have hs:=z4m M hokm (hs.pick [1,1])
   refine z8 (zm0 (lg:=lg) base s.fin (by omega) hfin0 hs) λ_ w' hs=>?_
   obtain ⟨a,ix,rfl,hs⟩:=hs
   refine zd ?_
   refine wp_lt ?_
   refine zl (λq w'=>q=((mm:Int),())/\Sat w' (z0q M.gap a ⟨ix,s⟩::lgQ lg M::slc T.a53 1 x (raw.flatMap zj)::dk M.d D::r)) ?_ ?_
   ·refine z0b (λk q w=>∃ (at_:Nat) (n:Int) (done:List BatM),q=((at_:Int),(n,()))/\at_<=raw.length/\raw.length-at_<=k /\
     s.bs=done++(z2g k n (raw.drop at_)).1/\mm=at_+(z2g k n (raw.drop at_)).2/\at_=((⟨base,s.fin,[]⟩:SegA).add done).file.length /\
     Sat w (z0q M.gap a ⟨ix,(⟨base,s.fin,[]⟩:SegA).add done⟩::lgQ lg M::slc T.a53 1 x (raw.flatMap zj)::dk M.d D::r)) raw.length
     ⟨m0,base,[],rfl,h1,by omega,by rw [List.nil_append];exact h3,h4,by rw [zhq,z2q];simp only [List.flatMap_nil,List.length_nil];rw [h2,hsb];omega,by rw [zhq];exact hs⟩ ?_
    clear hs
    rintro k _ w ⟨at_,n,done,rfl,ha1,ha2,ha3,ha4,ha5,hs⟩
    have hend:z2g k n (raw.drop at_)=([],0)->∀ {w:World},Sat w (z0q M.gap a ⟨ix,(⟨base,s.fin,[]⟩:SegA).add done⟩::lgQ lg M::slc T.a53 1 x (raw.flatMap zj)::dk M.d D::r)->at_=mm/\Sat w (z0q M.gap a ⟨ix,s⟩::lgQ lg M::slc T.a53 1 x (raw.flatMap zj)::dk M.d D::r):=by
     intro he w hs
     rw [he] at ha3 ha4
     simp only [List.append_nil] at ha3
     have hpp:done.map BatM.p=done:=by
      rw [List.map_congr_left (g:=id) λb hb=>((hsok.bs.valid b (by rw [ha3];exact hb)).2),List.map_id]
     have es:(⟨base,s.fin,[]⟩:SegA).add done=s:=by
      unfold SegA.add
      rw [hpp,<- ha3,<- hsb]
      rfl
     rw [es] at hs
     exact ⟨ha4.symm,hs⟩
    refine zk ?_
    refine wp_must (by omega) ?_
    rw [Int.toNat_natCast]
    have hxc:FocR (z0q M.gap a ⟨ix,(⟨base,s.fin,[]⟩:SegA).add done⟩::lgQ lg M::slc T.a53 1 x (raw.flatMap zj)::dk M.d D::r) ⟨z0v x.a 1 at_ x.cap,x.len-at_,x.cap-at_⟩ 1 ((raw.drop at_).flatMap zj):=FocR.post hcap
    refine z8 (zbr ⟨z0v x.a 1 at_ x.cap,x.len-at_,x.cap-at_⟩ (raw.drop at_) (by show x.len-at_<=x.cap-at_;omega) (by rw [List.length_drop];omega) hs) λ_ w' hs=>?_
    obtain ⟨y,rfl,hs⟩:=hs
    refine zd ?_
    refine wp_lt ?_
    refine wp_lt ?_
    cases hfr:z11 (raw.drop at_) with
    | none =>
     rw [hfr] at hs
     refine z0t ?_ (by simp)
     have he:z2g k n (raw.drop at_)=([],0):=by
      cases k with
      | zero=>rfl
      | succ k=>rw [zhg,hfr]
     obtain ⟨e1,hs⟩:=hend he hs.tail
     refine zn (zg ⟨by rw [e1],hs⟩)
    | some q =>
     obtain ⟨body,m⟩:=q
     rw [hfr] at hs
     have hs:Sat w' (slc T.a53 1 y (body.flatMap zj)::_):=hs
     obtain ⟨f1,f2,hbd,f4⟩:=z6b hfr
     rw [List.length_drop] at f2
     dsimp only [Option.getD,Option.isSome]
     refine z03 ?_ (by simp)
     obtain ⟨k,rfl⟩:∃ k',k=k'+1:=⟨k-1,by omega⟩
     rw [zhg,hfr] at ha3 ha4 hend
     refine z8 (zlc y body (by omega) hs) λ_ w' hs=>?_
     rcases hs with ⟨b,z,hdec,rfl,hs⟩|⟨hdec,rfl,hs⟩
     rotate_left
     ·refine ⟨(0,0,0,0,0,0,z88,6,()),rfl,trivial,zef _ _ _ _ _ _ _ _ ?_⟩
      refine zt hs λc w' hs=>?_
      refine zu hs λw' hs=>?_
      refine wp_lt ?_
      refine zb hs ?_
      refine z0t ?_ (.inl (by decide))
      obtain ⟨e1,hs⟩:=hend (by simp only [hdec]) hs.tail.tail
      exact zn (zg ⟨by show ((at_:Int),())=_;rw [e1],hs⟩)
     ·obtain ⟨d1,d2,d3⟩:=zlb hdec
      have hfrb:(frL b).length=m:=by rw [(z57 d1).2,d2,f1]
      refine ⟨(b.base,b.pid,b.epoch,b.seq,b.kind,b.time,z,0,()),rfl,trivial,zef _ _ _ _ _ _ _ _ ?_⟩
      refine zt hs λc w' hs=>?_
      refine zu hs λw' hs=>?_
      refine wp_lt ?_
      refine zb hs ?_
      simp only [hdec] at ha3 ha4 hend
      refine zf (λhc=>?_) λhc=>?_
      ·have hc:b.base<n:=by
        rcases hc with hc|hc
        ·exact absurd rfl hc
        ·exact hc
       obtain ⟨e1,hs⟩:=hend (by rw [if_pos hc]) hs.tail.tail.tail
       exact zn (zg ⟨by show ((at_:Int),())=_;rw [e1],hs⟩)
      have hc:¬ b.base<n:=λh=>hc (.inr h)
      rw [if_neg hc] at ha3 ha4
      simp only at ha3 ha4
      refine zi hs ?_
      have hz:FocR (pt c (.cells #[.int .i64 b.base,.int .i64 b.pid,.int .i64 b.epoch,.int .i64 b.seq,.int .i64 b.kind,.int .i64 b.time,.slice z.a z.len z.cap] T.a0)::slc T.a2 4 z (b.rs.flatMap zv)::slc T.a53 1 y (body.flatMap zj)::lgQ lg M::slc T.a53 1 x (raw.flatMap zj)::dk M.d D::r) z 4 (b.rs.flatMap zv):=inferInstance
      have hs:Sat w' (pt c (.cells #[.int .i64 b.base,.int .i64 b.pid,.int .i64 b.epoch,.int .i64 b.seq,.int .i64 b.kind,.int .i64 b.time,.slice z.a z.len z.cap] T.a0)::slc T.a2 4 z (b.rs.flatMap zv)::slc T.a53 1 y (body.flatMap zj)::z0q M.gap a ⟨ix,(⟨base,s.fin,[]⟩:SegA).add done⟩::lgQ lg M::slc T.a53 1 x (raw.flatMap zj)::dk M.d D::r):=hs
      have hml:((m:Nat):Int)=((frL b).length:Nat):=by rw [hfrb]
      show (Prog.call F.a144 [_,.agg _,.int .i64 ((m:Nat):Int)] _ _).wp P _ _ _
      rw [hml]
      refine z8 (z00k (gap:=M.gap) (a:=a) (t:=⟨ix,(⟨base,s.fin,[]⟩:SegA).add done⟩) b z d1 d3 (by show ((⟨base,s.fin,[]⟩:SegA).add done).file.length+_<=_;rw [<- ha5];omega) hs) λ_ w' hs=>?_
      obtain ⟨rfl,hs⟩:=hs
      refine zd ?_
      have e6:((⟨base,s.fin,[]⟩:SegA).add done).add [b]=(⟨base,s.fin,[]⟩:SegA).add (done++[b]):=add_add _ _ _
      have hs:Sat w' (z0q M.gap a ⟨ix,((⟨base,s.fin,[]⟩:SegA).add done).add [b]⟩::_):=hs
      rw [e6] at hs
      have hs:=z44 hs
      refine zh ?_
      refine zb hs ?_
      refine wp_lt ?_
      rw [w64 (by omega) (by omega)]
      refine wp_lt ?_
      have en2:z0f ((⟨base,s.fin,[]⟩:SegA).add (done++[b])).bs=b.base+zp b:=by
       show z0f ([]++(done++[b]).map BatM.p)=_
       rw [List.nil_append,List.map_append]
       exact z3w _ _
      rw [show z0f (SegM.s ⟨ix,(⟨base,s.fin,[]⟩:SegA).add (done++[b])⟩).bs=b.base+zp b from en2]
      have hs:=z2t ⟨ix,(⟨base,s.fin,[]⟩:SegA).add (done++[b])⟩ hs
      have ec:(at_:Int)+((frL b).length:Nat)=((at_+m:Nat):Int):=by rw [hfrb];omega
      rw [ec]
      refine z0x k ⟨at_+m,b.base+zp b,done++[b],rfl,by omega,by omega,?_,?_,?_,hs.sub⟩
      ·rw [ha3,List.append_assoc,List.drop_drop];rfl
      ·rw [ha4,List.drop_drop];omega
      ·rw [<- e6,z77,List.length_append,<- ha5]
       simp only [List.flatMap_cons,List.flatMap_nil,List.append_nil]
       omega
   clear hs
   rintro _ w3 ⟨rfl,hs⟩
   refine zk ?_
   have hs:=hs.pick [1]
   refine z8 (z018 (lg:=lg) a ⟨ix,s⟩ (by omega) hs) λ_ w' hs=>?_
   obtain ⟨z,rfl,hs⟩:=hs
   refine zd ?_
   have hfin2:∀ {w:World} {D':DiskA},Sat w (lgQ lg { M with z:=z,SM:=M.SM++[(a,⟨ix,s⟩)] }::dk M.d D'::r)->∃ M':LogM,(M'.d=M.d/\M'.pre=M.pre/\M'.seg=M.seg/\M'.gap=M.gap)/\M'.l=M.l++[s]/\M'.SM.length<=M.SM.length+1/\Sat w (lgQ lg M'::dk M.d D'::r):=λhs =>
    ⟨{ M with z:=z,SM:=M.SM++[(a,⟨ix,s⟩)] },⟨rfl,rfl,rfl,rfl⟩,by unfold LogM.l;simp,by simp,hs⟩
   refine zf (λhc=>?_) λhc=>?_
   ·have hc:mm=raw.length:=by omega
    rw [if_pos hc]
    exact ⟨rfl,rfl,hfin2 hs.sub⟩
   ·rw [if_neg (show ¬ mm=raw.length by omega)]
    refine zh ?_
    obtain ⟨hokm2,hs⟩:=z9o hs
    refine zb hs ?_
    refine z8 (z09t (d:=M.d) (A:=D) nm ((mm:Nat):Int) hs) λ_ w' hs=>?_
    obtain ⟨rfl,hs⟩:=hs
    refine zd ?_
    refine wp_lt ?_
    have hs:=z4m { M with z:=z,SM:=M.SM++[(a,⟨ix,s⟩)] } hokm2 (hs.pick [1,1])
    exact ⟨rfl,rfl,hfin2 hs.sub⟩
end
def z4y (a:Nat) (outs:List BatM):HP:=HP.ex λz:Sl=>HP.star (pt a (.cells #[.slice z.a z.len z.cap] T.a36)) (HP.star (slc T.a0 7 z (outs.flatMap z00)) (z1l outs))
section
variable {w:World} {l r r1 r2:List HP} {lg ao:Nat} {M:LogM} {A:LogA} {D:DiskA} {gap:Int} {a:Nat} {t:SegM} {outs:List BatM}
theorem zm8 (hs:Sat w (z4y ao outs::l)):∃ z:Sl,Sat w (pt ao (.cells #[.slice z.a z.len z.cap] T.a36)::slc T.a0 7 z (outs.flatMap z00)::z1l outs::l):=by
 obtain ⟨z,hs⟩:=hs.ex
 have hs:=hs.star
 exact ⟨z,((hs.pick [1]).star).pick [2]⟩
theorem zdg {z:Sl} (hs:Sat w (pt ao (.cells #[.slice z.a z.len z.cap] T.a36)::slc T.a0 7 z (outs.flatMap z00)::z1l outs::l)):Sat w (z4y ao outs::l) :=
 .ex_mk z (.star_mk (((hs.pick [1,1]).star_mk).pick [1]))
theorem zyd {b:BatM} (hs:Sat w (slc T.a2 4 b.x (b.rs.flatMap zv)::z1l outs::l)):Sat w (z1l (outs++[b])::l):=by
 have h1:Sat w (HP.all ((b::outs).map rsP)::l):=by
  have h2:Sat w (rsP b::HP.all (outs.map rsP)::l):=hs
  exact h2.all_put
 exact h1.all_perm ((List.perm_append_comm (l₁:=[b]) (l₂:=outs)).map rsP)
theorem zl1 (hs:Sat w l):Sat w (z1l []::l):=hs.all_nil
theorem zb2 {b:BatM} (hb:b ∈ outs):FocR (z1l outs::l) b.x 4 (b.rs.flatMap zv):=⟨λw hs=>by
 obtain ⟨L,hs⟩:=hs.all_mem (f:=rsP) hb
 exact Sat.rd hs⟩
theorem z07g (b:BatM) (off most:Int) (a1 a2:Nat) (ho : -9223372036854775808<=off/\off<9223372036854775808) (hcap:b.x.len<=b.x.cap) (hol:outs.length<=2000000) [hf:Fo l z4y ao outs r] [h1:FocB r a1 (.cells [.int .i64 off].toArray T.a14) r1] [h2:FocB r a2 (.cells [.int .i64 most].toArray T.a13) r2] [hb:FocR r b.x 4 (b.rs.flatMap zv)] (hs:Sat w l) :
  Ret P F.a123 #[.agg (z00 b).toArray,.pointer (some ⟨a1,0,none⟩),.pointer (some ⟨ao,0,none⟩),.pointer (some ⟨a2,0,none⟩)] w λvs w'=>∃ outs':List BatM,vs=[.bool (decide ((outs'.length:Int)<most))]/\outs'.map BatM.p=outs.map BatM.p++(z0u off b).toList.map BatM.p/\Sat w' (z4y ao outs'::r) :=
 zog b.base b.pid b.epoch b.seq b.kind b.time b.x _ _ _ <| by
  delta z024 AC AP Aa Ab Ac Ag Ai Al Am Ao Ay B9 BV BX Bb Bc
  obtain ⟨z,hs⟩:=zm8 (hs.perm hf.perm)
  have hl:=hs.slen z (xs:=outs) (enc:=z00)
  refine zr hs λa0 w' hs=>?_
  refine zi hs ?_
  refine zb hs ?_
  refine z8 (z04d b off ho hcap hs) λ_ w' hs=>?_
  rcases hs with ⟨hn,rfl,hs⟩|⟨c,zc,hc,rfl,hs⟩
  ·refine ⟨(0,0,0,0,0,0,z88,false,()),rfl,trivial,zef _ _ _ _ _ _ _ _ ?_⟩
   refine zt hs λa3 w' hs=>?_
   refine zu hs λw' hs=>?_
   refine wp_lt ?_
   refine z42 ?_
   refine z03 ?_ (by simp)
   refine z56 ?_
   refine zb hs ?_
   refine zb hs ?_
   refine wp_lt ?_
   refine ⟨rfl,outs,by rw [hl],by rw [hn];simp,zdg (z:=z) hs.sub⟩
  ·refine ⟨(c.base,c.pid,c.epoch,c.seq,c.kind,c.time,zc,true,()),rfl,trivial,zef _ _ _ _ _ _ _ _ ?_⟩
   refine zt hs λa3 w' hs=>?_
   refine zu hs λw' hs=>?_
   refine wp_lt ?_
   refine z42 ?_
   refine z0t ?_ (by trivial)
   refine zb hs ?_
   refine zi hs ?_
   refine z5f (xs:=outs) (enc:=z00) (y:=c.at zc) hs (λz' w' hs=>?_) rfl (by omega)
   refine z08 hs λw' hs=>?_
   refine z56 ?_
   refine zb hs ?_
   refine zb hs ?_
   refine wp_lt ?_
   have hs:Sat w' (pt ao (.cells #[.slice z'.a z'.len z'.cap] T.a36)::slc T.a0 7 z' ((outs++[c.at zc]).flatMap z00)::pt a3 _::slc T.a2 4 (c.at zc).x ((c.at zc).rs.flatMap zv)::pt a0 _::z1l outs::r):=hs
   have hl':=hs.slen z' (xs:=outs++[c.at zc]) (enc:=z00)
   refine ⟨rfl,outs++[c.at zc],by rw [hl'],by rw [hc];simp;rfl,?_⟩
   have hs:=zyd (hs.pick [3,4])
   exact zdg (z:=z') (hs.pick [1,1,0]).sub
theorem z05g (off:Int) (hok:SegOk t.s) (hfl:t.s.file.length<=4194304) [hf:Fo l (z0q gap) a t r] (hs:Sat w l):Ret P F.a142 #[.pointer (some ⟨a,0,none⟩),.int .i64 off] w λvs w'=>vs=[.int .i64 (zx6 t.s (z3b (t.s.idx gap).l off))]/\Sat w' (z0q gap a t::r) :=
 zoz _ off <| by
  delta z02n AA AD AH AQ AT AV Aa Ab Ac Ad Ae Ai Al Ao Ar
  have hi:IdxOk gap (shL t.s.base t.s.fin).length t.s.bs (t.s.idx gap):=zlo gap t.s.bs.length (n:=t.s.base) (q:=(shL t.s.base t.s.fin).length) rfl hok.base.1 (by omega) hok.bs (by have:=z2q t.s;omega)
  have hs:=z44 (hs.perm hf.perm)
  refine zh ?_
  refine zb hs ?_
  refine z8 (z06c (b:=t.ix) off hi.offs hs) λ_ w' hs=>?_
  obtain ⟨rfl,hs⟩:=hs
  refine ⟨((orE (z3b (t.s.idx gap).l off)).offset,(orE (z3b (t.s.idx gap).l off)).place,(orE (z3b (t.s.idx gap).l off)).before,(z3b (t.s.idx gap).l off).isSome,()),rfl,trivial,z01b _ _ _ _ ?_⟩
  refine zt hs λc w' hs=>?_
  refine zu hs λw' hs=>?_
  refine wp_lt ?_
  cases hfe:z3b (t.s.idx gap).l off with
  | some e =>
   refine z0t ?_ (by rfl)
   rw [hfe] at hs
   refine zb hs ?_
   refine wp_lt ?_
   exact ⟨rfl,rfl,z2t t hs.sub⟩
  | none =>
   refine z03 ?_ (by simp)
   refine z01 hs λw' hs=>?_
   refine zh ?_
   refine zb hs ?_
   refine zh ?_
   refine zb hs ?_
   have hb:=hok.base
   have hfn:0<=t.s.fin/\t.s.fin<9223372036854775808:=by have:=hok.fin;omega
   refine z8 (zlm t.s.base t.s.fin (by omega) hfn hs) λ_ w' hs=>?_
   obtain ⟨y,rfl,hs⟩:=hs
   refine zd ?_
   have hl:=hs.slen y (xs:=shL t.s.base t.s.fin) (enc:=zj)
   refine wp_lt ?_
   refine ze ?_
   refine ⟨rfl,?_,z2t t hs.sub⟩
   rw [hl]
   rfl
set_option maxHeartbeats 1000000 in
theorem z07j (off:Int) (most:Nat) (a1 a2:Nat) (ho : -9223372036854775808<=off/\off<9223372036854775808) {i k kp:Nat} (hsi:i<M.SM.length) (hok:SegOk M.SM[i].2.s) (hfile:z06 D.fs (zo M.pre M.SM[i].2.s.base zw)=some (M.SM[i].2.s.file,kp)) (hk:k<=M.SM[i].2.s.bs.length) (hout:outs.length<most) (hol:outs.length+M.SM[i].2.s.bs.length<=2000000)
  (hs:Sat w (z4y ao outs::lgQ lg M::dk M.d D::pt a1 (.cells [.int .i64 off].toArray T.a14)::pt a2 (.cells [.int .i64 (most:Int)].toArray T.a13)::r)) :
  Ret P F.a135 #[.pointer (some ⟨lg,0,none⟩),.pointer (some ⟨M.SM[i].1,0,none⟩),.int .i64 (z35 M.SM[i].2.s k:Nat),.func (.func F.a123) #[] #[.pointer (some ⟨a1,0,none⟩),.pointer (some ⟨ao,0,none⟩),.pointer (some ⟨a2,0,none⟩)]] w λvs w' =>
   ∃ outs':List BatM,vs=[.bool (decide (outs.length+((M.SM[i].2.s.bs.drop k).filterMap (z0u off)).length<most))]/\outs'.map BatM.p=(outs.map BatM.p++(M.SM[i].2.s.bs.drop k).filterMap (z0u off)).take most/\outs'.length<=outs.length+M.SM[i].2.s.bs.length /\
    Sat w' (z4y ao outs'::lgQ lg M::dk M.d D::pt a1 (.cells [.int .i64 off].toArray T.a14)::pt a2 (.cells [.int .i64 (most:Int)].toArray T.a13)::r) :=
 zos _ _ _ _ <| by
  delta z02g AC AD AG AH AK AQ AU Aa Ab Ac Ae Ag Ah Ai Al Ao Ar As Ax Ay BW Bb Bd Bj Bl Bn
  obtain ⟨m_,FS_,-,hokD,-⟩:=z2a (hs.pick [2])
  obtain ⟨hokm,hs⟩:=z2w (hs.pick [1])
  have hs:=z44 (z9v (hs.pick [2]) hsi)
  generalize hT:M.SM[i]=T0 at *
  obtain ⟨a,t⟩:=T0
  dsimp only at hok hfile hk hol hs ⊢
  have hrl:t.s.file.length<=4194304:=Nat.le_trans (zdq hfile) hokD.used
  have hbl:=zhu hok
  have hb0:=hok.base
  refine zl (λq w'=>∃ x:Sl,q=(x,())/\x.len<=x.cap/\Sat w' (slc T.a53 1 x (t.s.file.flatMap zj)::pt a (.cells #[.pointer (some ⟨t.ix,0,none⟩),.int .i64 t.s.base,.int .i64 t.s.fin,.int .i64 (z0f t.s.bs),.int .i64 (z1g (-1) t.s.bs),.int .i64 (t.s.file.length:Nat)] T.a48)::z2i t.ix (t.s.idx M.gap)::HP.all ((M.SM.eraseIdx i).map λt=>z0q M.gap t.1 t.2)::pt lg (.cells #[.pointer (some ⟨M.d,0,none⟩),.string M.pre,.int .i64 M.seg,.int .i64 M.gap,.slice M.z.a M.z.len M.z.cap] T.a47)::slc T.a32 1 M.z ((M.SM.map Prod.fst).flatMap z1s)::z4y ao outs::dk M.d D::pt a1 (.cells [.int .i64 off].toArray T.a14)::pt a2 (.cells [.int .i64 (most:Int)].toArray T.a13)::r)) ?_ ?_
  ·refine z01 hs λw' hs=>?_
   refine zh ?_
   refine z0s hs ?_
   refine zh ?_
   refine zb hs ?_
   refine z8 (z86 (lg:=lg) t.s.base (by omega) (ByteArray.mk #[46,108,111,103]) (by decide) M.pre hokm.size hs) λ_ w' hs=>?_
   obtain ⟨rfl,hs⟩:=hs
   refine zd ?_ (by first|trivial|(repeat (first|exact trivial|exact λ_=>z07 hs|exact λ_=>z0c hs|refine And.intro ?_ ?_)))
   refine ze ?_
   have en:zo M.pre t.s.base (bl (ByteArray.mk #[46,108,111,103]))=zo M.pre t.s.base zw:=rfl
   rw [en]
   refine z8 (zh9 (d:=M.d) (A:=D) (zo M.pre t.s.base zw) hs) λ_ w' hs=>?_
   rcases hs with ⟨f,hff,hfn,x,rfl,hs⟩|⟨hno,rfl,hs⟩
   ·refine zd ?_
    refine wp_lt ?_
    refine ze ?_
    have hfd:z06 D.fs f.name=some (f.b,f.kept):=zcx (z2v hokD.sorted) hff
    rw [hfn,hfile] at hfd
    simp only [Option.some.injEq,Prod.mk.injEq] at hfd
    rw [<- hfd.1] at hs
    have hcap:=hs.slc_cap
    exact zg ⟨x,rfl,hcap,hs.sub⟩
   ·rw [z7p.2 hno] at hfile
    cases hfile
  clear hs
  rintro _ w ⟨x,rfl,hcap,hs⟩
  refine zk ?_
  refine wp_lt ?_
  have hl:=hs.slen x (xs:=t.s.file) (enc:=zj)
  have hfin:∀ {w:World} {outs':List BatM},Sat w (slc T.a53 1 x (t.s.file.flatMap zj)::pt a (.cells #[.pointer (some ⟨t.ix,0,none⟩),.int .i64 t.s.base,.int .i64 t.s.fin,.int .i64 (z0f t.s.bs),.int .i64 (z1g (-1) t.s.bs),.int .i64 (t.s.file.length:Nat)] T.a48)::z2i t.ix (t.s.idx M.gap)::HP.all ((M.SM.eraseIdx i).map λt=>z0q M.gap t.1 t.2)::pt lg (.cells #[.pointer (some ⟨M.d,0,none⟩),.string M.pre,.int .i64 M.seg,.int .i64 M.gap,.slice M.z.a M.z.len M.z.cap] T.a47)::slc T.a32 1 M.z ((M.SM.map Prod.fst).flatMap z1s)::z4y ao outs'::dk M.d D::pt a1 (.cells [.int .i64 off].toArray T.a14)::pt a2 (.cells [.int .i64 (most:Int)].toArray T.a13)::r) ->
    Sat w (z4y ao outs'::lgQ lg M::dk M.d D::pt a1 (.cells [.int .i64 off].toArray T.a14)::pt a2 (.cells [.int .i64 (most:Int)].toArray T.a13)::r):=by
   intro w outs' hs
   have h1:Sat w (z0q M.gap M.SM[i].1 M.SM[i].2::HP.all ((M.SM.eraseIdx i).map λt=>z0q M.gap t.1 t.2)::pt lg (.cells #[.pointer (some ⟨M.d,0,none⟩),.string M.pre,.int .i64 M.seg,.int .i64 M.gap,.slice M.z.a M.z.len M.z.cap] T.a47)::slc T.a32 1 M.z ((M.SM.map Prod.fst).flatMap z1s)::z4y ao outs'::dk M.d D::pt a1 (.cells [.int .i64 off].toArray T.a14)::pt a2 (.cells [.int .i64 (most:Int)].toArray T.a13)::r):=by
    rw [hT]
    exact z2t t hs.tail
   have h2:=z7b hsi h1
   exact (z1p M hokm (h2.pick [1,1])).sub
  have hfull:∀ {outs':List BatM} {j:Nat},outs'.map BatM.p=outs.map BatM.p++((t.s.bs.drop k).take j).filterMap (z0u off)->outs'.length=outs.length+(((t.s.bs.drop k).take j).filterMap (z0u off)).length:=λh=>by
   have:=congrArg List.length h
   simpa using this
  refine zl (λ_ w'=>∃ outs':List BatM,outs'.map BatM.p=outs.map BatM.p++(t.s.bs.drop k).filterMap (z0u off)/\outs'.length<most/\outs'.length<=outs.length+t.s.bs.length/\Sat w' (slc T.a53 1 x (t.s.file.flatMap zj)::pt a (.cells #[.pointer (some ⟨t.ix,0,none⟩),.int .i64 t.s.base,.int .i64 t.s.fin,.int .i64 (z0f t.s.bs),.int .i64 (z1g (-1) t.s.bs),.int .i64 (t.s.file.length:Nat)] T.a48)::z2i t.ix (t.s.idx M.gap)::HP.all ((M.SM.eraseIdx i).map λt=>z0q M.gap t.1 t.2)::pt lg (.cells #[.pointer (some ⟨M.d,0,none⟩),.string M.pre,.int .i64 M.seg,.int .i64 M.gap,.slice M.z.a M.z.len M.z.cap] T.a47)::slc T.a32 1 M.z ((M.SM.map Prod.fst).flatMap z1s)::z4y ao outs'::dk M.d D::pt a1 (.cells [.int .i64 off].toArray T.a14)::pt a2 (.cells [.int .i64 (most:Int)].toArray T.a13)::r)) ?_ ?_
  rotate_left
  ·rintro _ w2 ⟨outs',h1,h2,h3,hs⟩
   have h4:=congrArg List.length h1
   simp only [List.length_map,List.length_append] at h4
   refine ⟨rfl,outs',by rw [decide_eq_true (by omega)],?_,h3,hfin hs⟩
   rw [<- h1,List.take_of_length_le]
   rw [List.length_map];omega
  refine z0b (λm v w=>∃ (j:Nat) (outs':List BatM),v=(((z35 t.s (k+j):Nat):Int),())/\k+j<=t.s.bs.length/\t.s.bs.length-(k+j)=m/\outs'.map BatM.p=outs.map BatM.p++((t.s.bs.drop k).take j).filterMap (z0u off)/\outs'.length<most/\outs'.length<=outs.length+j/\Sat w (slc T.a53 1 x (t.s.file.flatMap zj)::pt a (.cells #[.pointer (some ⟨t.ix,0,none⟩),.int .i64 t.s.base,.int .i64 t.s.fin,.int .i64 (z0f t.s.bs),.int .i64 (z1g (-1) t.s.bs),.int .i64 (t.s.file.length:Nat)] T.a48)::z2i t.ix (t.s.idx M.gap)::HP.all ((M.SM.eraseIdx i).map λt=>z0q M.gap t.1 t.2)::pt lg (.cells #[.pointer (some ⟨M.d,0,none⟩),.string M.pre,.int .i64 M.seg,.int .i64 M.gap,.slice M.z.a M.z.len M.z.cap] T.a47)::slc T.a32 1 M.z ((M.SM.map Prod.fst).flatMap z1s)::z4y ao outs'::dk M.d D::pt a1 (.cells [.int .i64 off].toArray T.a14)::pt a2 (.cells [.int .i64 (most:Int)].toArray T.a13)::r)) (t.s.bs.length-k)
   ⟨0,outs,rfl,by omega,by omega,by simp,hout,by omega,hs⟩ ?_
  clear hs
  rintro m _ w ⟨j,outs',rfl,hj,hm,hmap,hlt,hol',hs⟩
  refine zk ?_
  refine z0n ?_
  refine zb hs ?_
  have hple:=zic t.s (k+j)
  refine zf (λhc=>?_) λhc=>?_
  rotate_left
  ·have hend:k+j=t.s.bs.length:=by
    apply Decidable.byContradiction
    intro hne
    have hlt2:k+j<t.s.bs.length:=by omega
    have h1:=zjr t.s hlt2
    have h2:=zic t.s (k+j+1)
    have h3:=z57 (hok.bs.valid _ (List.getElem_mem hlt2)).1
    exact hc ⟨by omega,by omega⟩
   refine zn (zg ⟨outs',?_,hlt,by omega,hs⟩)
   rw [hmap,List.take_of_length_le (by rw [List.length_drop];omega)]
  have hjl:k+j<t.s.bs.length:=by
   apply Decidable.byContradiction
   intro hne
   have he:k+j=t.s.bs.length:=by omega
   have h1:=zzw t.s
   rw [he] at hc
   have hc1:((z35 t.s t.s.bs.length:Nat):Int)<(x.len:Nat):=hc.1
   omega
  obtain ⟨hfst,hdec⟩:=zsj hok hjl
  obtain ⟨hvb,hpb⟩:=hok.bs.valid _ (List.getElem_mem hjl)
  have hblen:=z67 hvb
  have hxl:z35 t.s (k+j)<=x.len:=by omega
  refine wp_must (by omega) ?_
  rw [Int.toNat_natCast]
  have hxc:FocR (slc T.a53 1 x (t.s.file.flatMap zj)::pt a (.cells #[.pointer (some ⟨t.ix,0,none⟩),.int .i64 t.s.base,.int .i64 t.s.fin,.int .i64 (z0f t.s.bs),.int .i64 (z1g (-1) t.s.bs),.int .i64 (t.s.file.length:Nat)] T.a48)::z2i t.ix (t.s.idx M.gap)::HP.all ((M.SM.eraseIdx i).map λt=>z0q M.gap t.1 t.2)::pt lg (.cells #[.pointer (some ⟨M.d,0,none⟩),.string M.pre,.int .i64 M.seg,.int .i64 M.gap,.slice M.z.a M.z.len M.z.cap] T.a47)::slc T.a32 1 M.z ((M.SM.map Prod.fst).flatMap z1s)::z4y ao outs'::dk M.d D::pt a1 (.cells [.int .i64 off].toArray T.a14)::pt a2 (.cells [.int .i64 (most:Int)].toArray T.a13)::r) ⟨z0v x.a 1 (z35 t.s (k+j)) x.cap,x.len-z35 t.s (k+j),x.cap-z35 t.s (k+j)⟩ 1 ((t.s.file.drop (z35 t.s (k+j))).flatMap zj):=FocR.post hcap
  refine z8 (zbr ⟨z0v x.a 1 (z35 t.s (k+j)) x.cap,x.len-z35 t.s (k+j),x.cap-z35 t.s (k+j)⟩ (t.s.file.drop (z35 t.s (k+j))) (by show x.len-_<=x.cap-_;omega) (by rw [List.length_drop];omega) hs) λ_ w' hs=>?_
  obtain ⟨y,rfl,hs⟩:=hs
  rw [hfst] at hs ⊢
  refine zd ?_
  refine wp_lt ?_
  refine wp_lt ?_
  dsimp only [Option.getD,Option.isSome]
  have hs:Sat w' (slc T.a53 1 y ((z2o t.s.bs[k+j]).flatMap zj)::_):=hs
  refine z03 ?_ (by simp)
  refine z8 (zlc y (z2o t.s.bs[k+j]) (by omega) hs) λ_ w' hs=>?_
  rcases hs with ⟨b,z,hdec2,rfl,hs⟩|⟨hdec2,rfl,hs⟩
  rotate_left
  ·rw [hdec] at hdec2;cases hdec2
  rw [hdec] at hdec2
  simp only [Option.some.injEq] at hdec2
  subst hdec2
  generalize hbb:t.s.bs[k+j]=b at *
  refine ⟨(b.base,b.pid,b.epoch,b.seq,b.kind,b.time,z,0,()),rfl,trivial,zef _ _ _ _ _ _ _ _ ?_⟩
  refine zt hs λc w' hs=>?_
  refine zu hs λw' hs=>?_
  refine wp_lt ?_
  have hzc:z.len<=z.cap:=(hs.pick [1]).slc_cap
  have htk:(t.s.bs.drop k).take (j+1)=(t.s.bs.drop k).take j++[b]:=by
   rw [List.take_succ_eq_append_getElem (by rw [List.length_drop];omega),List.getElem_drop,hbb]
  have hfp:(z0u off b).toList.map BatM.p=(z0u off b).toList:=by
   cases hfb:z0u off b with
   | none=>rfl
   | some c=>simp [zqi hpb hfb]
  have hfm:((t.s.bs.drop k).take (j+1)).filterMap (z0u off)=((t.s.bs.drop k).take j).filterMap (z0u off)++(z0u off b).toList:=by
   rw [htk,List.filterMap_append]
   congr 1
  have hpos:=zjr t.s hjl
  rw [hbb] at hpos
  have hple2:=zic t.s (k+j+1)
  refine z42 ?_
  refine zi hs ?_
  refine z03 ?_ (by simp)
  have hzb:FocR (pt c (.cells #[.int .i64 b.base,.int .i64 b.pid,.int .i64 b.epoch,.int .i64 b.seq,.int .i64 b.kind,.int .i64 b.time,.slice z.a z.len z.cap] T.a0)::slc T.a2 4 z (b.rs.flatMap zv)::slc T.a53 1 y ((z2o b).flatMap zj)::slc T.a53 1 x (t.s.file.flatMap zj)::pt a (.cells #[.pointer (some ⟨t.ix,0,none⟩),.int .i64 t.s.base,.int .i64 t.s.fin,.int .i64 (z0f t.s.bs),.int .i64 (z1g (-1) t.s.bs),.int .i64 (t.s.file.length:Nat)] T.a48)::z2i t.ix (t.s.idx M.gap)::HP.all ((M.SM.eraseIdx i).map λt=>z0q M.gap t.1 t.2)::pt lg (.cells #[.pointer (some ⟨M.d,0,none⟩),.string M.pre,.int .i64 M.seg,.int .i64 M.gap,.slice M.z.a M.z.len M.z.cap] T.a47)::slc T.a32 1 M.z ((M.SM.map Prod.fst).flatMap z1s)::dk M.d D::pt a1 (.cells [.int .i64 off].toArray T.a14)::pt a2 (.cells [.int .i64 (most:Int)].toArray T.a13)::r) (b.at z).x 4 ((b.at z).rs.flatMap zv):=(inferInstance:FocR (pt c (.cells #[.int .i64 b.base,.int .i64 b.pid,.int .i64 b.epoch,.int .i64 b.seq,.int .i64 b.kind,.int .i64 b.time,.slice z.a z.len z.cap] T.a0)::slc T.a2 4 z (b.rs.flatMap zv)::_) z 4 (b.rs.flatMap zv))
  have hs:Sat w' (z4y ao outs'::pt c (.cells #[.int .i64 b.base,.int .i64 b.pid,.int .i64 b.epoch,.int .i64 b.seq,.int .i64 b.kind,.int .i64 b.time,.slice z.a z.len z.cap] T.a0)::slc T.a2 4 z (b.rs.flatMap zv)::slc T.a53 1 y ((z2o b).flatMap zj)::slc T.a53 1 x (t.s.file.flatMap zj)::pt a (.cells #[.pointer (some ⟨t.ix,0,none⟩),.int .i64 t.s.base,.int .i64 t.s.fin,.int .i64 (z0f t.s.bs),.int .i64 (z1g (-1) t.s.bs),.int .i64 (t.s.file.length:Nat)] T.a48)::z2i t.ix (t.s.idx M.gap)::HP.all ((M.SM.eraseIdx i).map λt=>z0q M.gap t.1 t.2)::pt lg (.cells #[.pointer (some ⟨M.d,0,none⟩),.string M.pre,.int .i64 M.seg,.int .i64 M.gap,.slice M.z.a M.z.len M.z.cap] T.a47)::slc T.a32 1 M.z ((M.SM.map Prod.fst).flatMap z1s)::dk M.d D::pt a1 (.cells [.int .i64 off].toArray T.a14)::pt a2 (.cells [.int .i64 (most:Int)].toArray T.a13)::r):=hs.sub
  have htold:=z07g (ao:=ao) (outs:=outs') (b.at z) off (most:Int) a1 a2 ho hzc (by omega) hs
  refine ⟨F.a123,#[],#[.pointer (some ⟨a1,0,none⟩),.pointer (some ⟨ao,0,none⟩),.pointer (some ⟨a2,0,none⟩)],rfl,by kernel_rfl,?_⟩
  refine Calls.mono htold λe w' ⟨vs,he,outs2,hvs,hmap2,hs⟩=>⟨(decide ((outs2.length:Int)<(most:Int)),()),by rw [he,hvs];rfl,trivial,?_⟩
  refine z56 ?_
  have hfe:(z0u off (b.at z)).toList.map BatM.p=(z0u off b).toList:=by
   have hpz:b={ (b.at z) with x:=z88 }:=by rw [<- hpb];rfl
   have e2:z0u off (b.at z)=(z0u off b).map λc=>c.at z:=by
    unfold z0u
    have ev:zx (b.at z)=zx b:=rfl
    have en:z1q (b.at z)=z1q b:=rfl
    have em:z0a (b.at z)=z0a b:=rfl
    rw [ev,en,em]
    split
    ·rfl
    ·show (if z0a b=true\/off<=b.base then _ else _)=_
     split <;> rfl
   rw [e2]
   cases hfb:z0u off b with
   | none=>rfl
   | some c =>
    have:=zqi hpb hfb
    show [(c.at z).p]=[c]
    have e3:(c.at z).p=c.p:=rfl
    rw [e3,this]
  rw [hfe,hmap,List.append_assoc,<- hfm] at hmap2
  have hlen2:=hfull hmap2
  have hfl1:(z0u off b).toList.length<=1:=by cases z0u off b <;> simp
  have hlen1:=hfull hmap
  rw [hfm,List.length_append] at hlen2
  have hback:∀ {w:World},Sat w (z4y ao outs2::pt c (.cells #[.int .i64 b.base,.int .i64 b.pid,.int .i64 b.epoch,.int .i64 b.seq,.int .i64 b.kind,.int .i64 b.time,.slice z.a z.len z.cap] T.a0)::slc T.a2 4 z (b.rs.flatMap zv)::slc T.a53 1 y ((z2o b).flatMap zj)::slc T.a53 1 x (t.s.file.flatMap zj)::pt a (.cells #[.pointer (some ⟨t.ix,0,none⟩),.int .i64 t.s.base,.int .i64 t.s.fin,.int .i64 (z0f t.s.bs),.int .i64 (z1g (-1) t.s.bs),.int .i64 (t.s.file.length:Nat)] T.a48)::z2i t.ix (t.s.idx M.gap)::HP.all ((M.SM.eraseIdx i).map λt=>z0q M.gap t.1 t.2)::pt lg (.cells #[.pointer (some ⟨M.d,0,none⟩),.string M.pre,.int .i64 M.seg,.int .i64 M.gap,.slice M.z.a M.z.len M.z.cap] T.a47)::slc T.a32 1 M.z ((M.SM.map Prod.fst).flatMap z1s)::dk M.d D::pt a1 (.cells [.int .i64 off].toArray T.a14)::pt a2 (.cells [.int .i64 (most:Int)].toArray T.a13)::r) ->
    Sat w (slc T.a53 1 x (t.s.file.flatMap zj)::pt a (.cells #[.pointer (some ⟨t.ix,0,none⟩),.int .i64 t.s.base,.int .i64 t.s.fin,.int .i64 (z0f t.s.bs),.int .i64 (z1g (-1) t.s.bs),.int .i64 (t.s.file.length:Nat)] T.a48)::z2i t.ix (t.s.idx M.gap)::HP.all ((M.SM.eraseIdx i).map λt=>z0q M.gap t.1 t.2)::pt lg (.cells #[.pointer (some ⟨M.d,0,none⟩),.string M.pre,.int .i64 M.seg,.int .i64 M.gap,.slice M.z.a M.z.len M.z.cap] T.a47)::slc T.a32 1 M.z ((M.SM.map Prod.fst).flatMap z1s)::z4y ao outs2::dk M.d D::pt a1 (.cells [.int .i64 off].toArray T.a14)::pt a2 (.cells [.int .i64 (most:Int)].toArray T.a13)::r):=λhs=>hs.sub
  have hs:=hback hs
  refine zf (λh5=>?_) λh5=>?_
  ·have h5:most<=outs2.length:=by
    have:¬ ((outs2.length:Int)<(most:Int)):=by simpa using h5
    omega
   have h6:outs2.length=most:=by omega
   have h7:((t.s.bs.drop k).filterMap (z0u off))=((t.s.bs.drop k).take (j+1)).filterMap (z0u off)++((t.s.bs.drop k).drop (j+1)).filterMap (z0u off):=by
    rw [<- List.filterMap_append,List.take_append_drop]
   have h8:=congrArg List.length hmap2
   simp only [List.length_map,List.length_append] at h8
   refine zn (zn ⟨rfl,outs2,?_,?_,by omega,hfin hs⟩)
   ·rw [decide_eq_false]
    rw [h7,List.length_append]
    omega
   ·rw [h7,<- List.append_assoc,<- hmap2]
    rw [List.take_append_of_le_length (by rw [List.length_map];omega),List.take_of_length_le (by rw [List.length_map];omega)]
  ·have h5:outs2.length<most:=by
    have:((outs2.length:Int)<(most:Int)):=by simpa using h5
    omega
   have ew:IntKind.wrap .i64 (((z35 t.s (k+j):Nat):Int)+((frL b).length:Nat))=((z35 t.s (k+(j+1)):Nat):Int):=by
    rw [show k+(j+1)=k+j+1 by omega,hpos,w64 (by omega) (by omega)];omega
   refine z29 (y:=((z35 t.s (k+(j+1)):Nat):Int)) ?_ ew
   exact z0x (t.s.bs.length-(k+(j+1))) ⟨j+1,outs2,rfl,by omega,rfl,hmap2,h5,by omega,hs⟩
end
def zkr (pre:ByteArray) (l:List SegA) (D:DiskA):Prop:=∀ s ∈ l,∃ k,z06 D.fs (zo pre s.base zw)=some (s.file,k)
theorem zj6 {l:List SegA} (hok:z0e 0 l):∀ s ∈ l,z13 l<=s.base:=by
 cases l with
 | nil=>intro s hs;cases hs
 | cons a l =>
  intro s hs
  show a.base<=s.base
  rcases List.mem_cons.1 hs with rfl|hs
  ·exact Int.le_refl _
  ·have:=(hok.2.2.mem s hs).2
   omega
theorem zgs {l:List SegA} (hok:z0e 0 l):z13 l<=zm l:=by
 by_cases h:l=[]
 ·subst h;decide
 ·obtain ⟨l0,s,rfl⟩:=z3a h
  have h1:=zj6 hok s (by simp)
  have h2:=(z5t (hok.mem s (by simp)).1).1
  unfold zm
  rw [z1y]
  simp only
  omega
theorem z03u {n:Int} {bs:List BatM} (h:z1n n bs):∀ b ∈ bs,n<=b.base:=by
 intro b hb
 obtain ⟨j,hj,rfl⟩:=List.mem_iff_getElem.1 hb
 cases j with
 | zero =>
  cases bs with
  | nil=>simp at hj
  | cons c cs=>exact h.2.2.1
 | succ j =>
  have h1:=h.lt 0 (j+1) hj (by omega)
  obtain ⟨s1,-,-,-,-⟩:=z15 _ (h.valid _ (List.getElem_mem (show 0<bs.length by omega))).1
  omega
theorem zwh {off:Int} {b:BatM} (hv:zx b=0) (h:off<=b.base):z0u off b=some b:=by
 obtain ⟨s1,-,-,-,-⟩:=z15 b hv
 unfold z0u
 rw [if_neg,if_pos (.inr h)]
 rintro (hh|hh)
 ·exact hh hv
 ·unfold z1q at hh;rw [if_neg (by rw [hv];simp)] at hh;omega
theorem zlg {α:Type} {f:α->Option α} {l:List α} (h:∀ x ∈ l,f x=some x):l.filterMap f=l:=by
 induction l with
 | nil=>rfl
 | cons a l ih=>rw [List.filterMap_cons,h a (List.mem_cons_self ..)];simp only;rw [ih λx hx=>h x (List.mem_cons_of_mem _ hx)]
theorem zmf {l:List SegA} (hok:z0e 0 l) {n:Int} (hn:(z04 l).length<=n) (h1:1<=n):z54 l (z13 l) n=(0,z04 l):=by
 have:=zgs hok
 unfold z54
 rw [if_neg (by omega),if_neg (by omega),zlg,List.take_of_length_le (by omega)]
 intro b hb
 obtain ⟨s,hs,hbs⟩:=List.mem_flatMap.1 hb
 have h2:=hok.mem s hs
 exact zwh (h2.1.bs.valid b hbs).1 (by have:=zj6 hok s hs;have:=z03u h2.1.bs b hbs;omega)
section
variable {w:World} {l r r1 r2:List HP} {lg ao:Nat} {M:LogM} {A:LogA} {D:DiskA} {gap:Int} {a:Nat} {t:SegM} {outs:List BatM}
theorem z004 (i:Nat) (a0 a1:Nat) (off:Int) (hi:i<M.SM.length)
  (hs:Sat w (pt a0 (.cells [.pointer (some ⟨lg,0,none⟩)].toArray T.a31)::pt a1 (.cells [.int .i64 off].toArray T.a14)::lgQ lg M::r)) :
  Ret P F.a122 #[.int .i64 (i:Int),.pointer (some ⟨a0,0,none⟩),.pointer (some ⟨a1,0,none⟩)] w λvs w'=>vs=[.bool (decide (M.SM[i].2.s.base>off))]/\Sat w' (pt a0 (.cells [.pointer (some ⟨lg,0,none⟩)].toArray T.a31)::pt a1 (.cells [.int .i64 off].toArray T.a14)::lgQ lg M::r) :=
 zof _ _ _ <| by
  delta z023 AA AD AH AJ AQ Ai Ao Ar Ay BE BX
  obtain ⟨hokm,hs⟩:=z2w (hs.pick [2])
  refine z01 hs λw' hs=>?_
  refine zb hs ?_
  refine zh ?_
  refine zb hs ?_
  refine z26 hs (xs:=M.SM.map Prod.fst) (enc:=z1s) i (by rw [List.length_map];exact hi) ?_
  have e0:(M.SM.map Prod.fst)[i]'(by rw [List.length_map];exact hi)=M.SM[i].1:=by simp
  rw [e0]
  refine zh ?_
  have hs:=z44 (z9v (hs.pick [2]) hi)
  refine zb hs ?_
  refine zb hs ?_
  refine wp_lt ?_
  refine ze ?_
  have hs:=z7b hi (z2t M.SM[i].2 hs)
  have hs:=z1p M hokm (hs.pick [1,1])
  exact ⟨rfl,rfl,hs.sub⟩
set_option maxHeartbeats 1000000 in
theorem zqv (off most:Int) (ho : -9223372036854775808<=off/\off<9223372036854775808) (hmo:most<9223372036854775808) {r1:List HP} [hf:Fo l lgP lg A r1] [hf2:Fo r1 dk A.d D r] (hok:z0e 0 A.l) (hhas:zkr A.pre A.l D) (hlen:A.l.length<=1000000) (hall:(z04 A.l).length<=1000000) (hs:Sat w l) :
  Ret P F.a121 #[.pointer (some ⟨lg,0,none⟩),.int .i64 off,.int .i64 most] w λvs w'=>∃ (z:Sl) (outs:List BatM),vs=[z.v,.int .i64 (z54 A.l off most).1]/\outs.map BatM.p=(z54 A.l off most).2/\Sat w' (slc T.a0 7 z (outs.flatMap z00)::z1l outs::lgP lg A::dk A.d D::r) :=
 zoe _ off most <| by
  clear hmo
  delta z022 AA AB AC AD AH AJ AQ AT AU Aa Ab Ae Ag Ah Ai Al Am Ao Aw Ax Ay Az B4 BU BV
  have hs:=hs.perm (hf.perm.trans (.cons _ hf2.perm))
  clear hf hf2
  obtain ⟨M,rfl,hs⟩:=z83 hs
  have hMl:M.A.l=M.l:=rfl
  have hMpre:M.A.pre=M.pre:=rfl
  have hMd:M.A.d=M.d:=rfl
  rw [hMl] at hlen hok hhas hall ⊢
  rw [hMpre] at hhas
  rw [hMd] at hs ⊢
  have hll:M.l.length=M.SM.length:=List.length_map ..
  have z5r:∀ (i:Nat) (h:i<M.SM.length),M.SM[i].2.s=M.l[i]'(by omega):=λi h=>by unfold LogM.l;simp
  obtain ⟨m_,FS_,-,hokD,-⟩:=z2a (hs.pick [1])
  refine zr hs λa0 w' hs=>?_
  refine zr hs λa1 w' hs=>?_
  refine zr hs λa2 w' hs=>?_
  refine zb hs ?_
  refine wp_lt ?_
  refine z03 ?_ (by simp)
  refine zb hs ?_
  refine wp_lt ?_
  have hfin0:∀ {w:World} {L:List HP},Sat w (lgQ lg M::dk M.d D::r)->Sat w (slc T.a0 7 ⟨none,0,0⟩ (([]:List BatM).flatMap z00)::z1l []::lgP lg M.A::dk M.d D::r):=λhs=>(zl1 (z4l M hs)).slc_nil
  unfold z54
  refine zf (λh=>?_) λh=>?_
  ·rw [if_pos (show most<1 by omega)]
   have hs:Sat w' (lgQ lg M::dk M.d D::r):=hs.sub
   exact ⟨rfl,⟨none,0,0⟩,[],rfl,rfl,hfin0 (L:=[]) hs⟩
  rw [if_neg (show ¬ most<1 by omega)]
  refine zl (λq w'=>q=(decide (off<z13 M.l\/off>zm M.l),())/\Sat w' (pt a2 (.cells [.int .i64 most].toArray T.a13)::pt a1 (.cells [.int .i64 off].toArray T.a14)::pt a0 (.cells [.pointer (some ⟨lg,0,none⟩)].toArray T.a31)::lgQ lg M::dk M.d D::r)) ?_ ?_
  ·refine z01 hs λw' hs=>?_
   refine z0s hs ?_
   refine zb hs ?_
   refine z8 (zhv (lg:=lg) hs) λ_ w' hs=>?_
   obtain ⟨rfl,hs⟩:=hs
   refine zd ?_ (by first|trivial|(repeat (first|exact trivial|exact λ_=>z07 hs|exact λ_=>z0c hs|refine And.intro ?_ ?_)))
   refine z0s hs ?_
   refine zb hs ?_
   refine zf (λh1=>?_) λh1=>?_
   ·refine ze ?_
    exact zg ⟨by rw [decide_eq_true (.inl h1)],hs.sub⟩
   ·refine z8 (zbe (lg:=lg) (by omega) hs) λ_ w' hs=>?_
    obtain ⟨rfl,hs⟩:=hs
    refine zd ?_ (by first|trivial|(repeat (first|exact trivial|exact λ_=>z07 hs|exact λ_=>z0c hs|refine And.intro ?_ ?_)))
    refine wp_lt ?_
    refine ze ?_
    refine zg ⟨?_,hs.sub⟩
    rw [decide_eq_decide.2 (show (off<z13 M.l\/off>zm M.l)↔off>zm M.l from ⟨λhh=>hh.resolve_left h1,.inr⟩)]
  rintro _ w2 ⟨rfl,hs⟩
  refine zf (λh1=>?_) λh1=>?_
  ·have h1:off<z13 M.l\/off>zm M.l:=by simpa using h1
   rw [if_pos h1]
   have hs:Sat w2 (lgQ lg M::dk M.d D::r):=hs.sub
   exact ⟨rfl,⟨none,0,0⟩,[],rfl,rfl,hfin0 (L:=[]) hs⟩
  have h1:¬ (off<z13 M.l\/off>zm M.l):=by simpa using h1
  rw [if_neg h1]
  obtain ⟨mN,rfl⟩:∃ mN:Nat,most=(mN:Int):=⟨most.toNat,by omega⟩
  rw [Int.toNat_natCast]
  refine zt hs λao w' hs=>?_
  refine zb hs ?_
  refine zh ?_
  obtain ⟨hokm,hs⟩:=z2w (hs.pick [4])
  refine zb hs ?_
  have hl:=hs.slen M.z (xs:=M.SM.map Prod.fst) (enc:=z1s)
  rw [List.length_map] at hl
  have hs:=z1p M hokm hs
  have hs:Sat w' (pt a0 (.cells [.pointer (some ⟨lg,0,none⟩)].toArray T.a31)::pt a1 (.cells [.int .i64 off].toArray T.a14)::lgQ lg M::pt ao (.cells #[.slice none 0 0] T.a36)::pt a2 (.cells [.int .i64 (mN:Int)].toArray T.a13)::dk M.d D::r):=hs.sub
  rw [hl]
  refine z8 (zg6 M.SM.length (by omega) F.a122 #[.pointer (some ⟨a0,0,none⟩),.pointer (some ⟨a1,0,none⟩)] (λi=>decide (((M.l.map SegA.base).getD i 0)>off)) (by kernel_rfl) (λi w hi hs=>?_) hs) λ_ w' hs=>?_
  ·have e:(M.l.map SegA.base).getD i 0=M.SM[i].2.s.base:=by
    rw [List.getD_eq_getElem?_getD,List.getElem?_map,List.getElem?_eq_getElem (by omega),z5r i hi];rfl
   simp only [e]
   exact z004 (M:=M) i a0 a1 off hi hs
  obtain ⟨i0,hi0,hs1,hs2,rfl,hs⟩:=hs
  refine zd ?_
  refine z29 (y:=(i0:Int)-1) ?_ (by rw [w64 (by omega) (by omega)])
  refine z29 (y:=((i0-1:Nat):Int)) ?_ (by split <;> omega)
  have hskip:i0-1<M.SM.length->(z04 M.l).filterMap (z0u off)=(z04 (M.l.drop (i0-1))).filterMap (z0u off):=λhlt=>by
   refine z00f hok (i:=i0-1) (by omega) ?_
   by_cases h0:i0=0
   ·right;omega
   ·left
    have h2:=hs1 (by omega)
    rw [List.getD_eq_getElem?_getD,List.getElem?_map,List.getElem?_eq_getElem (by omega)] at h2
    have h2:decide ((M.l[i0-1]'(by omega)).base>off)=false:=h2
    simpa using h2
  have hs:Sat w' (z4y ao []::lgQ lg M::dk M.d D::pt a1 (.cells [.int .i64 off].toArray T.a14)::pt a2 (.cells [.int .i64 (mN:Int)].toArray T.a13)::pt a0 (.cells [.pointer (some ⟨lg,0,none⟩)].toArray T.a31)::r):=by
   have h3:Sat w' (slc T.a0 7 ⟨none,0,0⟩ (([]:List BatM).flatMap z00)::z1l []::_):=(zl1 hs).slc_nil
   have h4:Sat w' (pt ao (.cells #[.slice none 0 0] T.a36)::slc T.a0 7 ⟨none,0,0⟩ (([]:List BatM).flatMap z00)::z1l []::lgQ lg M::dk M.d D::pt a1 (.cells [.int .i64 off].toArray T.a14)::pt a2 (.cells [.int .i64 (mN:Int)].toArray T.a13)::pt a0 (.cells [.pointer (some ⟨lg,0,none⟩)].toArray T.a31)::r):=h3.sub
   exact zdg (z:=⟨none,0,0⟩) h4
  refine zl (λ_ w'=>∃ outs:List BatM,outs.map BatM.p=((z04 M.l).filterMap (z0u off)).take mN/\Sat w' (z4y ao outs::lgQ lg M::dk M.d D::pt a1 (.cells [.int .i64 off].toArray T.a14)::pt a2 (.cells [.int .i64 (mN:Int)].toArray T.a13)::pt a0 (.cells [.pointer (some ⟨lg,0,none⟩)].toArray T.a31)::r)) ?_ ?_
  rotate_left
  ·rintro _ w3 ⟨outs,h4,hs⟩
   obtain ⟨z,hs⟩:=zm8 hs
   refine zb hs ?_
   refine ⟨rfl,z,outs,rfl,h4,?_⟩
   have hs:Sat w3 (lgQ lg M::slc T.a0 7 z (outs.flatMap z00)::z1l outs::dk M.d D::r):=hs.sub
   have hs:=z4l M hs
   exact hs.sub
  have hpre:∀ (j:Nat),i0-1<=j->j<=M.l.length->(z04 ((M.l.drop (i0-1)).take (j-(i0-1)))).length<=1000000:=λj h1 h2=>by
   refine Nat.le_trans ?_ hall
   have:∀ (a b:List SegA),a.Sublist b->(z04 a).length<=(z04 b).length:=λa b h=>by
    induction h with
    | slnil=>exact Nat.le_refl _
    | cons x _ ih=>unfold z04 at *;rw [List.flatMap_cons,List.length_append];omega
    | cons_cons x _ ih=>unfold z04 at *;rw [List.flatMap_cons,List.flatMap_cons,List.length_append,List.length_append];omega
   exact this _ _ ((List.take_sublist _ _).trans (List.drop_sublist _ _))
  refine z0b (λm v w=>∃ (j:Nat) (outs:List BatM),v=((j:Int),())/\i0-1<=j/\(j<=M.SM.length\/j=i0-1)/\M.SM.length-j=m/\outs.map BatM.p=(z04 ((M.l.drop (i0-1)).take (j-(i0-1)))).filterMap (z0u off)/\outs.length<mN /\
   Sat w (z4y ao outs::lgQ lg M::dk M.d D::pt a1 (.cells [.int .i64 off].toArray T.a14)::pt a2 (.cells [.int .i64 (mN:Int)].toArray T.a13)::pt a0 (.cells [.pointer (some ⟨lg,0,none⟩)].toArray T.a31)::r)) (M.SM.length-(i0-1))
   ⟨i0-1,[],rfl,Nat.le_refl _,.inr rfl,rfl,by simp [z04],by show 0<mN;omega,hs⟩ ?_
  clear hs
  rintro m _ w ⟨j,outs,rfl,hj1,hj2,hm,hmap,hlt,hs⟩
  refine zk ?_
  refine zb hs ?_
  refine zh ?_
  obtain ⟨hokm,hs⟩:=z2w (hs.pick [1])
  refine zb hs ?_
  refine zf (λhc=>?_) λhc=>?_
  rotate_left
  ·have hs:=z1p M hokm hs
   refine zn (zg ⟨outs,?_,hs.sub⟩)
   by_cases hlt2:i0-1<M.SM.length
   ·have hje:j=M.SM.length:=by omega
    rw [hskip hlt2,hmap,hje]
    rw [List.take_of_length_le (l:=M.l.drop (i0-1)) (by rw [List.length_drop];omega)] at hmap ⊢
    have:=congrArg List.length hmap
    rw [List.length_map] at this
    rw [List.take_of_length_le (by omega)]
   ·have h0:M.l=[]:=List.length_eq_zero_iff.1 (by omega)
    rw [hmap,h0]
    simp [z04]
  have hjl:j<M.SM.length:=by omega
  refine zb hs ?_
  refine zh ?_
  refine zb hs ?_
  refine z26 hs (xs:=M.SM.map Prod.fst) (enc:=z1s) j (by rw [List.length_map];exact hjl) ?_
  have e0:(M.SM.map Prod.fst)[j]'(by rw [List.length_map];exact hjl)=M.SM[j].1:=by simp
  rw [e0]
  have hmem:M.SM[j].2.s ∈ M.l:=List.mem_map.2 ⟨_,List.getElem_mem hjl,rfl⟩
  have hsok:=(hok.mem _ hmem).1
  obtain ⟨kp,hfile⟩:=hhas _ hmem
  have hrl:M.SM[j].2.s.file.length<=4194304:=Nat.le_trans (zdq hfile) hokD.used
  have hbl:=zhu hsok
  obtain ⟨k,hk,hpl,hskp⟩:=zwb hsok hrl M.gap off
  have hlt2:i0-1<M.SM.length:=by omega
  have hstep:(M.l.drop (i0-1)).take (j+1-(i0-1))=(M.l.drop (i0-1)).take (j-(i0-1))++[M.SM[j].2.s]:=by
   rw [show j+1-(i0-1)=(j-(i0-1))+1 by omega,List.take_succ_eq_append_getElem (by rw [List.length_drop];omega),List.getElem_drop,z5r j hjl]
   congr 3
   omega
  have hnone:(M.SM[j].2.s.bs).filterMap (z0u off)=(M.SM[j].2.s.bs.drop k).filterMap (z0u off):=by
   have e:M.SM[j].2.s.bs=M.SM[j].2.s.bs.take k++M.SM[j].2.s.bs.drop k:=(List.take_append_drop _ _).symm
   calc (M.SM[j].2.s.bs).filterMap (z0u off)=(M.SM[j].2.s.bs.take k++M.SM[j].2.s.bs.drop k).filterMap (z0u off):=by rw [<- e]
    _=(M.SM[j].2.s.bs.drop k).filterMap (z0u off):=by
     rw [List.filterMap_append,zb6 (l:=M.SM[j].2.s.bs.take k),List.nil_append]
     intro b hb
     exact zgt (hsok.bs.valid b (List.mem_of_mem_take hb)).1 (hskp b hb)
  have hall2:(z04 ((M.l.drop (i0-1)).take (j+1-(i0-1)))).filterMap (z0u off)=(z04 ((M.l.drop (i0-1)).take (j-(i0-1)))).filterMap (z0u off)++(M.SM[j].2.s.bs.drop k).filterMap (z0u off):=by
   rw [hstep]
   unfold z04
   rw [List.flatMap_append,List.filterMap_append,<- hnone]
   simp
  have hol:outs.length<=1000000:=by
   have:=congrArg List.length hmap
   rw [List.length_map] at this
   rw [this]
   exact Nat.le_trans (List.length_filterMap_le _ _) (hpre j hj1 (by omega))
  refine zl (λq w'=>∃ outs':List BatM,q=(decide (outs.length+((M.SM[j].2.s.bs.drop k).filterMap (z0u off)).length<mN),())/\outs'.map BatM.p=(outs.map BatM.p++(M.SM[j].2.s.bs.drop k).filterMap (z0u off)).take mN /\
    Sat w' (z4y ao outs'::lgQ lg M::dk M.d D::pt a1 (.cells [.int .i64 off].toArray T.a14)::pt a2 (.cells [.int .i64 (mN:Int)].toArray T.a13)::pt a0 (.cells [.pointer (some ⟨lg,0,none⟩)].toArray T.a31)::r)) ?_ ?_
  ·refine z01 hs λw' hs=>?_
   refine z0s hs ?_
   refine zb hs ?_
   have hs:=z9v (hs.pick [2]) hjl
   refine z8 (z05g (gap:=M.gap) (a:=M.SM[j].1) (t:=M.SM[j].2) off hsok hrl hs) λ_ w' hs=>?_
   obtain ⟨rfl,hs⟩:=hs
   refine zd ?_ (by first|trivial|(repeat (first|exact trivial|exact λ_=>z07 hs|exact λ_=>z0c hs|refine And.intro ?_ ?_)))
   refine ze ?_
   have hs:=z7b hjl hs
   have hs:=z1p M hokm (hs.pick [1,1])
   have hs:Sat w' (z4y ao outs::lgQ lg M::dk M.d D::pt a1 (.cells [.int .i64 off].toArray T.a14)::pt a2 (.cells [.int .i64 (mN:Int)].toArray T.a13)::pt a0 (.cells [.pointer (some ⟨lg,0,none⟩)].toArray T.a31)::r):=hs.sub
   rw [hpl]
   refine z8 (z07j off mN a1 a2 ho hjl hsok hfile hk hlt (by omega) hs) λ_ w' hs=>?_
   obtain ⟨outs',rfl,hm2,-,hs⟩:=hs
   refine zd ?_
   refine wp_lt ?_
   refine ze ?_
   exact zg ⟨outs',rfl,hm2,hs⟩
  clear hs
  rintro _ w3 ⟨outs',rfl,hm2,hs⟩
  rw [hmap,<- hall2] at hm2
  have hlm:=congrArg List.length hmap
  rw [List.length_map] at hlm
  refine zf (λh5=>?_) λh5=>?_
  ·have h5:¬ (outs.length+((M.SM[j].2.s.bs.drop k).filterMap (z0u off)).length<mN):=by simpa using h5
   refine zn (zg ⟨outs',?_,hs⟩)
   rw [hm2,hskip hlt2]
   have e:z04 (M.l.drop (i0-1))=z04 ((M.l.drop (i0-1)).take (j+1-(i0-1)))++z04 ((M.l.drop (i0-1)).drop (j+1-(i0-1))):=by
    unfold z04;rw [<- List.flatMap_append,List.take_append_drop]
   rw [e,List.filterMap_append,List.take_append_of_le_length]
   rw [hall2,List.length_append]
   omega
  ·have h5:(outs.length+((M.SM[j].2.s.bs.drop k).filterMap (z0u off)).length<mN):=by simpa using h5
   refine z29 (y:=((j+1:Nat):Int)) ?_ (by rw [w64 (by omega) (by omega)];omega)
   have hll2:((z04 ((M.l.drop (i0-1)).take (j+1-(i0-1)))).filterMap (z0u off)).length<mN:=by rw [hall2,List.length_append];omega
   rw [List.take_of_length_le (by omega)] at hm2
   have hl3:=congrArg List.length hm2
   rw [List.length_map] at hl3
   exact z0x (M.SM.length-(j+1)) ⟨j+1,outs',rfl,by omega,.inl (by omega),rfl,hm2,by omega,hs⟩
theorem zwn {r1:List HP} [hf:Fo l lgP lg A r1] [hf2:Fo r1 dk A.d D r] (hok:z0e 0 A.l) (hhas:zkr A.pre A.l D) (hlen:A.l.length<=1000000) (hall:(z04 A.l).length<=1000000) (hs:Sat w l) :
  Ret P F.a117 #[.pointer (some ⟨lg,0,none⟩)] w λvs w'=>∃ (z:Sl) (outs:List BatM),vs=[z.v]/\outs.map BatM.p=z04 A.l/\Sat w' (slc T.a0 7 z (outs.flatMap z00)::z1l outs::lgP lg A::dk A.d D::r) :=
 zob _ <| by
  delta z01z Aa Ae Ag Ai Al Az Bj
  have hs:=hs.perm (hf.perm.trans (.cons _ hf2.perm))
  clear hf hf2
  have hfn:=zgs hok
  have hnx:=hok.next (Int.le_refl 0)
  have hf0:0<=z13 A.l:=by
   cases hq:A.l with
   | nil=>decide
   | cons s l0=>rw [hq] at hok;have:=hok.1;exact this
  refine z03 ?_ (by simp)
  obtain ⟨M,hM,hs⟩:=z83 hs
  subst hM
  refine z8 (zhv (lg:=lg) hs) λ_ w' hs=>?_
  obtain ⟨rfl,hs⟩:=hs
  refine zd ?_
  have hs:=z4l M hs
  have hfn:z13 M.l<=zm M.l:=hfn
  have hnx:0<=zm M.l/\zm M.l<=1099511627777:=hnx
  have hf0:0<=z13 M.l:=hf0
  refine z8 (zqv (lg:=lg) (A:=M.A) (D:=D) (z13 M.l) 1099511627776 (by omega) (by omega) hok hhas hlen hall hs) λ_ w' hs=>?_
  obtain ⟨z,outs,rfl,hmap,hs⟩:=hs
  refine zd ?_
  refine wp_lt ?_
  have hra:z54 M.A.l (z13 M.l) 1099511627776=(0,z04 M.A.l):=zmf hok (by omega) (by omega)
  rw [hra] at hmap
  exact ⟨rfl,z,outs,rfl,hmap,hs⟩
end
def ze2 (seg gap:Int):Prop:=(64<=seg/\seg<=4194304)/\(1<=gap/\gap<=4194304)
instance (seg gap:Int):Decidable (ze2 seg gap):=by unfold ze2;infer_instance
section
variable {w:World} {l r:List HP} {lg d:Nat} {M:LogM} {A:LogA} {D:DiskA}
set_option maxHeartbeats 1000000 in
theorem z04s (pre:ByteArray) (seg gap:Int) (hp:z1w pre=true) (hc:ze2 seg gap) (hg:D.gone=false) [hf:Fo l dk d D r] (hs:Sat w l):Ret P F.a136 #[.pointer (some ⟨d,0,none⟩),.string pre,.agg #[.int .i64 seg,.int .i64 gap]] w λvs w' =>
  ((z4n pre D).1≠0/\vs=[.pointer none,.int .i64 (z4n pre D).1]/\Sat w' (dk d (z4n pre D).2.2::r)) \/
  ((z4n pre D).1=0/\∃ lg,vs=[.pointer (some ⟨lg,0,none⟩),.int .i64 0]/\Sat w' (lgP lg ⟨d,pre,seg,gap,(z4n pre D).2.1⟩::dk d (z4n pre D).2.2::r)) :=
 zot _ pre seg gap <| by
  delta z02h AB AG AT Aa Ae Af Ag Ah Ai Al Am Ao Ar Aw Ax Ay Az BG Be Bh Bj
  have hs:=hs.perm hf.perm
  obtain ⟨m_,FS_,-,hokD,-⟩:=z2a hs
  refine zr hs λa0 w' hs=>?_
  refine wp_lt ?_
  refine z03 ?_ (by simp)
  refine zl (λq w'=>q=(false,())/\Sat w' (dk d D::pt a0 (.cells #[.int .i64 seg,.int .i64 gap] T.a46)::r)) ?_ ?_
  ·refine z8 (z001 pre hs) λ_ w' hs=>?_
   obtain ⟨rfl,hs⟩:=hs
   refine zd ?_
   refine zi hs ?_
   refine z03 ?_ (by rw [hp];simp)
   refine z8 (z06q seg gap hs) λ_ w' hs=>?_
   obtain ⟨rfl,hs⟩:=hs
   refine zd ?_
   refine wp_lt ?_
   refine zg ⟨?_,hs.sub⟩
   have:((64<=seg/\seg<=4194304)/\(1<=gap/\gap<=4194304)):=hc
   rw [decide_eq_true this]
   rfl
  rintro _ w2 ⟨rfl,hs⟩
  refine z03 ?_ (by simp)
  refine z8 (z06h (d:=d) hs) λ_ w' hs=>?_
  obtain ⟨rfl,hs⟩:=hs
  refine zd ?_
  refine wp_lt ?_
  refine z03 ?_ (by rw [hg];simp)
  refine zi hs ?_
  refine zr hs λlg w' hs=>?_
  have hokm:okM gap seg pre:=⟨hc.2,hc.1,hp⟩
  have hs:Sat w' (lgQ lg ⟨d,pre,seg,gap,⟨none,0,0⟩,[]⟩::dk d D::r):=by
   refine z1p ⟨d,pre,seg,gap,⟨none,0,0⟩,[]⟩ hokm ?_
   have h1:Sat w' (HP.all (([]:List (Nat × SegM)).map λt=>z0q gap t.1 t.2)::pt lg (.cells #[.pointer (some ⟨d,0,none⟩),.string pre,.int .i64 seg,.int .i64 gap,.slice none 0 0] T.a47)::dk d D::r):=by
    have hs:Sat w' (pt lg (.cells #[.pointer (some ⟨d,0,none⟩),.string pre,.int .i64 seg,.int .i64 gap,.slice none 0 0] T.a47)::dk d D::r):=hs.sub
    exact Sat.all_nil hs
   have h2:Sat w' (slc T.a32 1 ⟨none,0,0⟩ (((([]:List (Nat × SegM))).map Prod.fst).flatMap z1s)::_):=h1.slc_nil
   exact h2.pick [2]
  unfold z4n
  refine z8 (z048 (lg:=lg) (M:=⟨d,pre,seg,gap,⟨none,0,0⟩,[]⟩) (D:=D) hs) λ_ w' hs=>?_
  have hnl:(z0y pre (z12 (z16 pre) D.fs) D).2.1.length<=128:=by
   refine Nat.le_trans zgr ?_
   unfold z12
   exact Nat.le_trans (List.length_filter_le _ _) (by rw [List.length_map];exact hokD.many)
  have hlt:=zj4 (pre:=pre) (ns:=z12 (z16 pre) D.fs) (D:=D)
  rcases hs with ⟨he,rfl,hs⟩|⟨he,x,rfl,hs⟩
  ·have he:(z0y pre (z12 (z16 pre) D.fs) D).1≠0:=he
   refine zd ?_
   refine wp_lt ?_
   refine z0t ?_ he
   refine wp_lt ?_
   rw [if_pos he]
   exact ⟨rfl,.inl ⟨he,rfl,hs.tail⟩⟩
  have he:(z0y pre (z12 (z16 pre) D.fs) D).1=0:=he
  refine ⟨(x,0,()),rfl,trivial,z1v _ _ ?_⟩
  refine wp_lt ?_
  refine z03 ?_ (by simp)
  rw [if_neg (by rw [he];simp)]
  have hs:Sat w' (slc T.a14 1 x ((z0y pre (z12 (z16 pre) D.fs) D).2.1.flatMap z4d)::lgQ lg ⟨d,pre,seg,gap,⟨none,0,0⟩,[]⟩::dk d (z0y pre (z12 (z16 pre) D.fs) D).2.2::r):=hs
  generalize (z0y pre (z12 (z16 pre) D.fs) D).2.2=D1 at *
  generalize (z0y pre (z12 (z16 pre) D.fs) D).2.1=bs at *
  have hl:=hs.slen x (xs:=bs) (enc:=z4d)
  have hcap:=hs.slc_cap
  refine zl (λq w'=>∃ M:LogM,q=((z28 pre bs [] D1).1,())/\(M.d=d/\M.pre=pre/\M.seg=seg/\M.gap=gap)/\M.l=(z28 pre bs [] D1).2.1/\Sat w' (lgQ lg M::dk d (z28 pre bs [] D1).2.2::r)) ?_ ?_
  rotate_left
  ·rintro _ w3 ⟨M,rfl,⟨rfl,rfl,rfl,rfl⟩,h2,hs⟩
   refine zf (λh=>?_) λh=>?_
   ·refine wp_lt ?_
    exact ⟨rfl,.inl ⟨h,rfl,hs.tail⟩⟩
   ·have h:(z28 M.pre bs [] D1).1=0:=Decidable.not_not.1 h
    refine ⟨rfl,.inr ⟨h,lg,rfl,?_⟩⟩
    have:=z4l M hs
    have e:M.A=⟨M.d,M.pre,M.seg,M.gap,(z28 M.pre bs [] D1).2.1⟩:=by rw [<- h2];rfl
    rw [<- e]
    exact this
  refine z0b (λm v w=>∃ (i:Nat) (M:LogM) (D':DiskA),v=((0:Int),((i:Int),()))/\i<=bs.length/\bs.length-i=m/\M.SM.length<=i/\z28 pre bs [] D1=z28 pre (bs.drop i) M.l D'/\(M.d=d/\M.pre=pre/\M.seg=seg/\M.gap=gap) /\
   Sat w (slc T.a14 1 x (bs.flatMap z4d)::lgQ lg M::dk d D'::r)) bs.length ⟨0,⟨d,pre,seg,gap,⟨none,0,0⟩,[]⟩,D1,rfl,by omega,rfl,by simp,rfl,⟨rfl,rfl,rfl,rfl⟩,hs⟩ ?_
  clear hs
  rintro m _ w ⟨i,M,D',rfl,hi,hm,hsm,hq,⟨rfl,rfl,rfl,rfl⟩,hsn⟩
  have hs:=hsn
  refine zk ?_
  refine zf (λhcc=>?_) λhcc=>?_
  rotate_left
  ·have e:bs.drop i=[]:=List.drop_eq_nil_of_le (by omega)
   rw [e] at hq
   have hq:z28 M.pre bs [] D1=(0,M.l,D'):=hq
   rw [hq]
   exact zn (zg ⟨M,rfl,⟨rfl,rfl,rfl,rfl⟩,rfl,hs.sub⟩)
  have hil:i<bs.length:=by omega
  rw [List.drop_eq_getElem_cons hil] at hq
  have hbb:=hlt bs[i] (List.getElem_mem hil)
  have hun:z28 M.pre (bs[i]::bs.drop (i+1)) M.l D'=if bs[i]<zm M.l then (if (z18 D' (zo M.pre bs[i] zw)).1≠0 then ((z18 D' (zo M.pre bs[i] zw)).1,M.l,(z18 D' (zo M.pre bs[i] zw)).2) else z28 M.pre (bs.drop (i+1)) M.l (z18 D' (zo M.pre bs[i] zw)).2) else
   if (z1r M.pre M.l D' bs[i]).1.2≠0 then ((z1r M.pre M.l D' bs[i]).1.2,(z1r M.pre M.l D' bs[i]).2) else
   if (z1r M.pre M.l D' bs[i]).1.1=true then z28 M.pre (bs.drop (i+1)) (z1r M.pre M.l D' bs[i]).2.1 (z1r M.pre M.l D' bs[i]).2.2 else ((z6r M.pre (bs.drop (i+1)) (z1r M.pre M.l D' bs[i]).2.2).1,(z1r M.pre M.l D' bs[i]).2.1,(z6r M.pre (bs.drop (i+1)) (z1r M.pre M.l D' bs[i]).2.2).2):=rfl
  have ei:IntKind.wrap .i64 ((i:Int)+1)=((i+1:Nat):Int):=by rw [w64 (by omega) (by omega)];omega
  refine zl (λq w'=>∃ (M2:LogM) (D2:DiskA),q=((0:Int),())/\M2.SM.length<=i+1/\z28 M.pre bs [] D1=z28 M.pre (bs.drop (i+1)) M2.l D2/\(M2.d=M.d/\M2.pre=M.pre/\M2.seg=M.seg/\M2.gap=M.gap) /\
   Sat w' (slc T.a14 1 x (bs.flatMap z4d)::lgQ lg M2::dk M.d D2::r)) ?_ ?_
  rotate_left
  ·rintro _ w3 ⟨M2,D2,rfl,h1,h2,h3,hs⟩
   rw [ei]
   exact z0x (bs.length-(i+1)) ⟨i+1,M2,D2,rfl,by omega,rfl,h1,h2,h3,hs⟩
  refine z26 hs (xs:=bs) (enc:=z4d) i hil ?_
  refine wp_lt ?_
  refine wp_lt ?_
  refine z8 (zbe (lg:=lg) (by omega) hs) λ_ w' hs=>?_
  obtain ⟨rfl,hs⟩:=hs
  refine zd ?_
  refine zf (λh1=>?_) λh1=>?_
  ·rw [if_pos h1] at hun
   obtain ⟨hokm,hs⟩:=z9o hs
   refine z8 (z86 (lg:=lg) bs[i] hbb (ByteArray.mk #[46,108,111,103]) (by decide) M.pre hokm.size hs) λ_ w' hs=>?_
   obtain ⟨rfl,hs⟩:=hs
   refine zd ?_
   refine z8 (zc6 (d:=M.d) (A:=D') (zo M.pre bs[i] (bl (ByteArray.mk #[46,108,111,103]))) hs) λ_ w' hs=>?_
   obtain ⟨rfl,hs⟩:=hs
   refine zd ?_
   refine wp_lt ?_
   have en:zo M.pre bs[i] (bl (ByteArray.mk #[46,108,111,103]))=zo M.pre bs[i] zw:=rfl
   rw [en] at hs ⊢
   have hs:=z4m M hokm (hs.pick [1,1])
   refine zf (λh2=>?_) λh2=>?_
   ·rw [if_pos h2] at hun
    rw [hun] at hq
    rw [hq]
    exact zn (zn (zg ⟨M,rfl,⟨rfl,rfl,rfl,rfl⟩,rfl,hs.sub⟩))
   ·rw [if_neg h2] at hun
    rw [hun] at hq
    have h2:=Decidable.not_not.1 h2
    rw [h2]
    exact zg ⟨M,_,rfl,by omega,hq,⟨rfl,rfl,rfl,rfl⟩,hs.sub⟩
  ·rw [if_neg h1] at hun
   refine z8 (z079 (lg:=lg) (D:=D') bs[i] hbb (by omega) hs) λ_ w' hs=>?_
   obtain ⟨rfl,M2,⟨e1,e2,e3,e4⟩,hMl,hMs,hs⟩:=hs
   refine zd ?_
   refine wp_lt ?_
   refine wp_lt ?_
   have hs:Sat w' (lgQ lg M2::dk M.d (z1r M.pre M.l D' bs[i]).2.2::slc T.a14 1 x (bs.flatMap z4d)::r):=hs
   generalize z1r M.pre M.l D' bs[i]=SC at *
   obtain ⟨⟨b0,e0⟩,l0,D0⟩:=SC
   dsimp only at hun hMl hs ⊢
   refine zf (λh2=>?_) λh2=>?_
   ·obtain ⟨h2a,h2b⟩:=h2
    have h2a:e0=0:=h2a
    have h2b:b0=false:=by simpa using h2b
    rw [if_neg (by rw [h2a];simp),if_neg (by rw [h2b];simp)] at hun
    rw [ei]
    refine wp_must (by omega) ?_
    rw [Int.toNat_natCast]
    rw [<- e1] at hs
    have hx:FocR (slc T.a14 1 x (bs.flatMap z4d)::r) ⟨z0v x.a 1 (i+1) x.cap,x.len-(i+1),x.cap-(i+1)⟩ 1 ((bs.drop (i+1)).flatMap z4d):=FocR.post hcap
    refine z8 (z041 (lg:=lg) (M:=M2) (D:=D0) ⟨z0v x.a 1 (i+1) x.cap,x.len-(i+1),x.cap-(i+1)⟩ (bs.drop (i+1)) (λb hb=>hlt b (List.mem_of_mem_drop hb)) hx (by rw [List.length_drop];omega) hs) λ_ w' hs=>?_
    obtain ⟨rfl,hs⟩:=hs
    refine zd ?_
    refine wp_lt ?_
    rw [e2,e1] at hs
    rw [e2]
    rw [hun] at hq
    rw [hq]
    refine zn (zn (zg ⟨M2,rfl,⟨e1,e2,e3,e4⟩,hMl,hs.sub⟩))
   ·refine zf (λh3=>?_) λh3=>?_
    ·rw [if_pos h3] at hun
     rw [hun] at hq
     rw [hq]
     refine zn (zn (zg ⟨M2,rfl,⟨e1,e2,e3,e4⟩,hMl,hs.sub⟩))
    ·have h3:e0=0:=Decidable.not_not.1 h3
     have h4:b0=true:=by
      cases hb0:b0 with
      | true=>rfl
      | false=>exact absurd ⟨h3,by rw [hb0];simp⟩ h2
     rw [if_neg (by rw [h3];simp),if_pos h4,<- hMl] at hun
     rw [hun] at hq
     rw [h3]
     exact zg ⟨M2,D0,rfl,by omega,hq,⟨e1,e2,e3,e4⟩,hs.sub⟩
end
theorem zah:∀ {bs:List BatM} {n:Int},0<=n->(zy n bs).1=0->z1n n ((zy n bs).2.map BatM.p)/\(∀ b ∈ (zy n bs).2,n<=b.base)
 | [],n,_,_=>⟨trivial,λ_ h=>by cases h⟩
 | b::bs,n,hn,h=>by
  unfold zy at h ⊢
  by_cases h1:zx (b.to n)≠0
  ·rw [if_pos h1] at h;exact absurd h h1
  rw [if_neg h1] at h ⊢
  by_cases h2:(zy (n+zp b) bs).1≠0
  ·rw [if_pos h2] at h;exact absurd h h2
  rw [if_neg h2]
  have hv:=Decidable.not_not.1 h1
  obtain ⟨s1,-,-,-,-⟩:=z15 _ hv
  have s1:1<=zp b:=s1
  obtain ⟨i1,i2⟩:=zah (n:=n+zp b) (by omega) (Decidable.not_not.1 h2)
  refine ⟨⟨hv,rfl,Int.le_refl _,i1⟩,λc hc=>?_⟩
  rcases List.mem_cons.1 hc with rfl|hc
  ·exact Int.le_refl _
  ·have:=i2 c hc;omega
theorem z1n.append:∀ {n:Int} {cs bs:List BatM},0<=n->z1n n cs->z1n (max n (z0f cs)) bs->z1n n (cs++bs)
 | n,[],bs,hn,_,h2=>h2.mono (by show n<=max n 0;omega)
 | n,a::cs,bs,hn,⟨h1,h2,h3,h4⟩,hb=>by
  obtain ⟨s1,-,⟨-,hba,-⟩,-,-⟩:=z15 a h1
  refine ⟨h1,h2,h3,h4.append (by omega) (hb.mono ?_)⟩
  have h5:a.base+zp a<=z0f (a::cs):=z1n.le_next (n:=n) (bs:=a::cs) ⟨h1,h2,h3,h4⟩ (List.mem_cons_self ..)
  have h6:z0f cs<=z0f (a::cs):=by
   cases cs with
   | nil=>show (0:Int)<=_;omega
   | cons c ds=>exact Int.le_refl _
  omega
theorem z0e.mono {m n:Int} {l:List SegA} (h:z0e n l) (hm:m<=n):z0e m l:=by
 cases l with
 | nil=>trivial
 | cons s l=>exact ⟨by have:=h.1;omega,h.2.1,h.2.2⟩
theorem z3f (l:List SegA) (s:SegA):zm (l++[s])=s.reach:=by unfold zm;rw [z1y]
theorem zbm (l:List SegA) (s:SegA):z5n (l++[s])=s.base:=by unfold z5n;rw [z1y]
theorem z43 (l:List SegA) (s:SegA) (bs:List BatM):z4g (l++[s]) bs=l++[s.add bs]:=by unfold z4g;rw [z1y];simp
theorem z0e.snoc:∀ {n:Int} {l:List SegA} {s:SegA},z0e n l->SegOk s->n<=s.base->(∀ t ∈ l,t.reach<=s.base/\t.base<s.base)->z0e n (l++[s])
 | n,[],s,_,hs,hn,_=>⟨hn,hs,trivial⟩
 | n,a::l,s,⟨h1,h2,h3⟩,hs,hn,ht=>by
  have:=ht a (List.mem_cons_self ..)
  exact ⟨h1,h2,h3.snoc hs (by omega) λt h=>ht t (List.mem_cons_of_mem _ h)⟩
theorem z0e.front:∀ {n:Int} {l:List SegA} {s:SegA},z0e n (l++[s])->z0e n l/\SegOk s/\n<=s.base/\∀ t ∈ l,t.reach<=s.base/\t.base<s.base
 | n,[],s,h=>⟨trivial,h.2.1,h.1,λ_ h=>by cases h⟩
 | n,a::l,s,⟨h1,h2,h3⟩=>by
  obtain ⟨i1,i2,i3,i4⟩:=h3.front
  have:=(z5t h2).1
  refine ⟨⟨h1,h2,i1⟩,i2,by omega,λt ht=>?_⟩
  rcases List.mem_cons.1 ht with rfl|ht
  ·omega
  ·exact i4 t ht
theorem zvs {s:SegA} (hs:SegOk s) {bs:List BatM} {n:Int} (h:(zy n bs).1=0) (hn:n=s.reach):SegOk (s.add (zy n bs).2):=by
 have hr:=z5t hs
 have hb:=hs.base
 refine ⟨hs.base,hs.fin,?_⟩
 subst hn
 have hm:max s.base (z0f s.bs)<=s.reach:=by omega
 exact hs.bs.append hb.1 ((zah (by omega) h).1.mono hm)
theorem znk {bs:List BatM} {n:Int} (h:(zy n bs).1=0) (hb:bs≠[]):0<=n/\n<=1099511627776:=by
 cases bs with
 | nil=>exact absurd rfl hb
 | cons b bs =>
  unfold zy at h
  by_cases h1:zx (b.to n)≠0
  ·rw [if_pos h1] at h;exact absurd h h1
  ·obtain ⟨-,-,⟨-,hba,-⟩,-,-⟩:=z15 _ (Decidable.not_not.1 h1)
   exact hba
def z14 (seg:Int) (l:List SegA) (bs:List BatM):(Int × Int) × List SegA :=
 if bs=[] then ((0,3),l) else if (zy (zm l) bs).1≠0 then ((0,(zy (zm l) bs).1),l) else
 ((zm l,0),if z75 seg l ((zy (zm l) bs).2.flatMap frL).length then z4g l (zy (zm l) bs).2 else l++[(⟨zm l,0,[]⟩:SegA).add (zy (zm l) bs).2])
theorem zai {seg:Int} {l:List SegA} {bs:List BatM} (h:z0e 0 l):z0e 0 (z14 seg l bs).2:=by
 unfold z14
 split
 ·exact h
 rename_i hb
 split
 ·exact h
 rename_i hp
 have hp:=Decidable.not_not.1 hp
 have hv:=znk hp hb
 simp only
 split
 ·rename_i hr
  have hne:l≠[]:=by rintro rfl;cases hr
  obtain ⟨l0,s,rfl⟩:=z3a hne
  rw [z43]
  obtain ⟨h1,h2,h3,h4⟩:=h.front
  exact h1.snoc (zvs h2 hp (z3f _ _)) h3 h4
 ·rename_i hr
  have hs:SegOk ((⟨zm l,0,[]⟩:SegA).add (zy (zm l) bs).2):=by
   refine ⟨hv,.inl rfl,?_⟩
   show z1n _ ([]++_)
   rw [List.nil_append]
   exact (zah hv.1 hp).1
  refine h.snoc hs hv.1 λt ht=>?_
  show t.reach<=zm l/\t.base<zm l
  have hne:l≠[]:=List.ne_nil_of_mem ht
  obtain ⟨l0,s,rfl⟩:=z3a hne
  obtain ⟨h1,h2,h3,h4⟩:=h.front
  rw [z3f]
  have hsr:=z5t h2
  have hlast:s.base<s.reach:=by
   have hr2:z75 seg (l0++[s]) ((zy (zm (l0++[s])) bs).2.flatMap frL).length=false:=by simpa using hr
   unfold z75 at hr2
   rw [z1y] at hr2
   simp only [Bool.or_eq_false_iff,decide_eq_false_iff_not] at hr2
   have hbs:s.bs≠[]:=by rintro hbs;rw [hbs] at hr2;exact hr2.1 rfl
   have:=hsr.2.2.2.2 hbs
   omega
  rcases List.mem_append.1 ht with ht|ht
  ·have:=h4 t ht;omega
  ·simp only [List.mem_cons,List.not_mem_nil,or_false] at ht
   subst ht
   exact ⟨Int.le_refl _,hlast⟩
theorem zgw (pre:ByteArray) (seg:Int) (l:List SegA) (D:DiskA) (bs:List BatM):((z0j pre seg l D bs).1=(z14 seg l bs).1/\(z0j pre seg l D bs).2.1=(z14 seg l bs).2)\/((z0j pre seg l D bs).1.1=0/\(z0j pre seg l D bs).1.2≠0/\(z0j pre seg l D bs).2.1=l/\(z14 seg l bs).1.2=0):=by
 unfold z0j z14
 split
 ·exact .inl ⟨rfl,rfl⟩
 split
 ·exact .inl ⟨rfl,rfl⟩
 split
 ·split
  ·rename_i h;exact .inr ⟨rfl,h,rfl,rfl⟩
  ·exact .inl ⟨rfl,rfl⟩
 ·split
  ·rename_i h;exact .inr ⟨rfl,h,rfl,rfl⟩
  split
  ·rename_i h;exact .inr ⟨rfl,h,rfl,rfl⟩
  ·exact .inl ⟨rfl,rfl⟩
theorem zwp {pre:ByteArray} {seg:Int} {l:List SegA} {D:DiskA} {bs:List BatM} (h:z0e 0 l):z0e 0 (z0j pre seg l D bs).2.1:=by
 rcases zgw pre seg l D bs with ⟨-,h2⟩|⟨-,-,h2,-⟩
 ·rw [h2];exact zai h
 ·rw [h2];exact h
def aP:ByteArray:=ByteArray.mk #[112]
theorem zr7:∀ (bs:List BatM) (n:Int),(zy n (bs.map BatM.p)).1=(zy n bs).1/\(zy n (bs.map BatM.p)).2.map BatM.p=(zy n bs).2.map BatM.p
 | [],n=>⟨rfl,rfl⟩
 | b::bs,n=>by
  rw [List.map_cons]
  unfold zy
  have e1:zx (b.p.to n)=zx (b.to n):=rfl
  have e2:zp b.p=zp b:=rfl
  obtain ⟨i1,i2⟩:=zr7 bs (n+zp b)
  rw [e1,e2,i1]
  split
  ·exact ⟨rfl,rfl⟩
  split
  ·exact ⟨rfl,rfl⟩
  ·exact ⟨rfl,by rw [List.map_cons,List.map_cons,i2];rfl⟩
theorem zwg {a b:List BatM} (h:a.map BatM.p=b.map BatM.p):a.flatMap frL=b.flatMap frL:=by
 rw [<- zlk a,h,zlk]
theorem z013 {a b:List BatM} (h:a.map BatM.p=b.map BatM.p) (s:SegA):s.add a=s.add b:=by unfold SegA.add;rw [h]
theorem zvr {a b:List BatM} (h:a.map BatM.p=b.map BatM.p) (l:List SegA):z4g l a=z4g l b:=by
 unfold z4g
 split
 ·rfl
 ·rw [z013 h]
theorem zmc (seg:Int) (l:List SegA) (bs:List BatM):z14 seg l (bs.map BatM.p)=z14 seg l bs:=by
 obtain ⟨h1,h2⟩:=zr7 bs (zm l)
 unfold z14
 rw [h1,zwg h2,zvr h2,z013 h2]
 by_cases hb:bs=[]
 ·subst hb;rfl
 ·rw [if_neg hb,if_neg (by intro h;exact hb (List.map_eq_nil_iff.1 h))]
structure Calm (D:DiskA):Prop where
 gone:D.gone=false
 left:D.left = -1
theorem za6 {D:DiskA} (h:D.left = -1):z2j D=D:=by unfold z2j;rw [if_neg (by omega)]
theorem zkw {D:DiskA} (h:Calm D) (n:ByteArray) (bs:List UInt8):Calm (z09 D n bs).2:=by
 unfold z09
 split
 ·exact h
 split
 ·exact h
 split
 ·exact h
 ·show Calm (z2j _)
  rw [za6 (by exact h.left)]
  exact ⟨h.gone,h.left⟩
theorem zxo {D:DiskA} (h:Calm D) (ns:List ByteArray):Calm (z1x D ns).2:=by
 unfold z1x
 split
 ·exact h
 split
 ·exact h
 ·show Calm (z2j _)
  rw [za6 (by exact h.left)]
  exact ⟨h.gone,h.left⟩
theorem z008 {D:DiskA} (h:Calm D) (n:ByteArray):Calm (z18 D n).2:=by
 unfold z18
 split
 ·exact h
 split
 ·exact h
 ·show Calm (z2j _)
  rw [za6 (by exact h.left)]
  exact ⟨h.gone,h.left⟩
theorem zbz {D:DiskA} (h:Calm D) (pre:ByteArray) (l:List SegA):Calm (z0h pre l D).2:=by
 unfold z0h
 split
 ·exact h
 ·exact zxo h _
theorem z7n {A:DiskA} {n:ByteArray} {bs:List UInt8}:(z09 A n bs).2.fs.length<=A.fs.length+1/\((z06 A.fs n).isSome=true->(z09 A n bs).2.fs.length=A.fs.length):=by
 unfold z09
 split
 ·exact ⟨by show A.fs.length<=_;omega,λ_=>rfl⟩
 split
 ·exact ⟨by show A.fs.length<=_;omega,λ_=>rfl⟩
 split
 ·exact ⟨by show A.fs.length<=_;omega,λ_=>rfl⟩
 ·show (z2j _).fs.length<=_/\(_->(z2j _).fs.length=_)
  rw [z3l]
  show (if z24 A.fs n=true then _ else _:List FileA).length<=_/\(_->(if z24 A.fs n=true then _ else _:List FileA).length=_)
  rw [<- z3u]
  split
  ·rw [List.length_map];exact ⟨by omega,λ_=>rfl⟩
  ·rename_i h
   rw [(z6h _ _).length_eq]
   exact ⟨by simp,λh2=>absurd h2 h⟩
structure Cpl (pre:ByteArray) (l:List SegA) (D:DiskA):Prop where
 ok:okA D
 segs:z0e 0 l
 has:zkr pre l D
 only:∀ n,(z06 D.fs n).isSome=true->(bl (z16 pre)).isPrefixOf (bl n)=true->∃ s ∈ l,n=zo pre s.base zw
def z62 (l:List SegA):Nat:=(l.map λs=>s.file.length).sum
theorem z7j (l:List SegA) (s:SegA):z62 (l++[s])=z62 l+s.file.length:=by simp [z62]
theorem z7g {pre:ByteArray} {s t:SegA} (hs:SegOk s) (ht:SegOk t) (h:s.base≠t.base):zo pre s.base zw≠zo pre t.base zw:=λe=>by
 have h1:=hs.base
 have h2:=ht.base
 exact h (zwx (by omega) (by omega) e).1
theorem ze1 {pre:ByteArray} (hp:z1w pre=true) (base:Int):z3i (zo pre base zw)=true:=znh hp base rfl (by decide)
structure Fr (pre:ByteArray) (D D':DiskA):Prop where
 room:D'.room=D.room
 other:∀ m,(bl (z16 pre)).isPrefixOf (bl m)=false->z06 D'.fs m=z06 D.fs m
theorem Fr.refl (pre:ByteArray) (D:DiskA):Fr pre D D:=⟨rfl,λ_ _=>rfl⟩
theorem Fr.trans {pre:ByteArray} {D D' D'':DiskA} (h1:Fr pre D D') (h2:Fr pre D' D''):Fr pre D D'':=⟨h2.room.trans h1.room,λm hm=>(h2.other m hm).trans (h1.other m hm)⟩
theorem zn0 {D:DiskA} (hok:okA D) (n:ByteArray):okA (z1x D [n]).2/\(z1x D [n]).2.room=D.room/\used (z1x D [n]).2.fs=used D.fs/\(z1x D [n]).2.fs.length=D.fs.length /\
  ∀ m,z06 (z1x D [n]).2.fs m=z06 D.fs m\/(m=n/\(z1x D [n]).1=0/\z06 (z1x D [n]).2.fs m=(z06 D.fs m).map λp=>(p.1,p.1.length)):=by
 by_cases h:(z1x D [n]).1=0
 ·obtain ⟨-,h1,h2,h3,h4,h5⟩:=zrp hok h
  refine ⟨h1,h2,h3,h4,λm=>?_⟩
  by_cases hm:n=m
  ·subst hm
   refine .inr ⟨rfl,h,?_⟩
   rw [h5]
   simp
  ·refine .inl ?_
   rw [h5]
   simp [hm]
 ·rcases zg9 (A:=D) (n:=n) with ⟨h1,-,-,-⟩|⟨-,-,h4⟩|⟨-,-,-,h4⟩
  ·exact absurd h1 h
  ·rw [h4];exact ⟨hok,rfl,rfl,rfl,λm=>.inl rfl⟩
  ·rw [h4];exact ⟨hok,rfl,rfl,rfl,λm=>.inl rfl⟩
theorem Cpl.same {pre:ByteArray} {l:List SegA} {D D':DiskA} (h:Cpl pre l D) (hok:okA D') (hf:∀ m,(bl (z16 pre)).isPrefixOf (bl m)=true->(z06 D'.fs m).map Prod.fst=(z06 D.fs m).map Prod.fst):Cpl pre l D':=by
 refine ⟨hok,h.segs,λs hs=>?_,λn hn hp=>?_⟩
 ·obtain ⟨k,hk⟩:=h.has s hs
  have:=hf _ (z4r pre s.base zw)
  rw [hk] at this
  cases hq:z06 D'.fs (zo pre s.base zw) with
  | none=>rw [hq] at this;cases this
  | some q =>
   rw [hq] at this
   simp only [Option.map_some,Option.some.injEq] at this
   exact ⟨q.2,by rw [<- this]⟩
 ·refine h.only n ?_ hp
  have:=hf n hp
  cases hq:z06 D.fs n with
  | none =>
   rw [hq] at this
   cases hq2:z06 D'.fs n with
   | none=>rw [hq2] at hn;cases hn
   | some q=>rw [hq2] at this;cases this
  | some q=>rfl
theorem z5i {pre:ByteArray} {l:List SegA} {D:DiskA} (h:Cpl pre l D):Cpl pre l (z0h pre l D).2/\Fr pre D (z0h pre l D).2/\used (z0h pre l D).2.fs=used D.fs/\(z0h pre l D).2.fs.length=D.fs.length/\(Calm D->(z0h pre l D).1=0):=by
 unfold z0h
 cases hl:l.getLast? with
 | none=>exact ⟨h,.refl _ _,rfl,rfl,λ_=>rfl⟩
 | some s =>
  simp only
  obtain ⟨h1,h2,h3,h4,h5⟩:=zn0 h.ok (zo pre s.base zw)
  refine ⟨h.same h1 λm hm=>?_,⟨h2,λm hm=>?_⟩,h3,h4,λhc=>?_⟩
  ·rcases h5 m with h6|⟨-,-,h6⟩
   ·rw [h6]
   ·rw [h6,Option.map_map];rfl
  ·rcases h5 m with h6|⟨h6,-,-⟩
   ·exact h6
   ·rw [h6,z4r] at hm;cases hm
  ·rcases zg9 (A:=D) (n:=zo pre s.base zw) with ⟨h6,-,-,-⟩|⟨-,h6,-⟩|⟨-,-,h6,-⟩
   ·exact h6
   ·rw [hc.gone] at h6;cases h6
   ·obtain ⟨k,hk⟩:=h.has s (List.mem_of_getLast? hl)
    rw [hk] at h6;cases h6
theorem Cpl.grow {pre:ByteArray} {l0:List SegA} {s s':SegA} {D:DiskA} {x:List UInt8} (hp:z1w pre=true) (h:Cpl pre (l0++[s]) D) (hsegs:z0e 0 (l0++[s'])) (hb:s'.base=s.base) (hx:s'.file=s.file++x) (ha:(z09 D (zo pre s.base zw) x).1=0) :
  Cpl pre (l0++[s']) (z09 D (zo pre s.base zw) x).2/\Fr pre D (z09 D (zo pre s.base zw) x).2/\used (z09 D (zo pre s.base zw) x).2.fs+z62 (l0++[s])=used D.fs+z62 (l0++[s'])/\(z09 D (zo pre s.base zw) x).2.fs.length=D.fs.length:=by
 obtain ⟨h1,h2,h3,h4,h5,h6,h7⟩:=za5 h.ok ha
 obtain ⟨k,hk⟩:=h.has s (by simp)
 obtain ⟨f1,f2,f3,f4⟩:=h.segs.front
 refine ⟨⟨h4,hsegs,λt ht=>?_,λn hn hpn=>?_⟩,⟨h5,λm hm=>?_⟩,?_,(z7n.2 (by rw [hk];rfl))⟩
 ·rcases List.mem_append.1 ht with ht|ht
  ·have hto:=(f1.mem t ht).1
   have hne:zo pre t.base zw≠zo pre s.base zw:=z7g hto f2 (by have:=(f4 t ht).2;omega)
   rw [h7,if_neg hne]
   exact h.has t (by simp [ht])
  ·simp only [List.mem_cons,List.not_mem_nil,or_false] at ht
   subst ht
   rw [hb,h7,if_pos rfl,hk,hx]
   exact ⟨k,rfl⟩
 ·rw [h7] at hn
  by_cases hm:n=zo pre s.base zw
  ·exact ⟨s',by simp,by rw [hb];exact hm⟩
  ·rw [if_neg hm] at hn
   obtain ⟨t,ht,rfl⟩:=h.only n hn hpn
   rcases List.mem_append.1 ht with ht|ht
   ·exact ⟨t,by simp [ht],rfl⟩
   ·simp only [List.mem_cons,List.not_mem_nil,or_false] at ht
    subst ht
    exact absurd rfl hm
 ·rw [h7,if_neg]
  rintro rfl
  rw [z4r] at hm;cases hm
 ·rw [h6,z7j,z7j,hx,List.length_append];omega
theorem Cpl.begin {pre:ByteArray} {l:List SegA} {s:SegA} {D:DiskA} (h:Cpl pre l D) (hsegs:z0e 0 (l++[s])) (ha:(z09 D (zo pre s.base zw) s.file).1=0) :
  Cpl pre (l++[s]) (z09 D (zo pre s.base zw) s.file).2/\Fr pre D (z09 D (zo pre s.base zw) s.file).2/\used (z09 D (zo pre s.base zw) s.file).2.fs+z62 l=used D.fs+z62 (l++[s])/\(z09 D (zo pre s.base zw) s.file).2.fs.length<=D.fs.length+1:=by
 obtain ⟨h1,h2,h3,h4,h5,h6,h7⟩:=za5 h.ok ha
 obtain ⟨f1,f2,f3,f4⟩:=hsegs.front
 have hnone:z06 D.fs (zo pre s.base zw)=none:=by
  cases hq:z06 D.fs (zo pre s.base zw) with
  | none=>rfl
  | some q =>
   obtain ⟨t,ht,e⟩:=h.only _ (by rw [hq];rfl) (z4r pre s.base zw)
   exact absurd e (z7g f2 (f1.mem t ht).1 (by have:=(f4 t ht).2;omega))
 refine ⟨⟨h4,hsegs,λt ht=>?_,λn hn hpn=>?_⟩,⟨h5,λm hm=>?_⟩,?_,z7n.1⟩
 ·rcases List.mem_append.1 ht with ht|ht
  ·have hto:=(f1.mem t ht).1
   have hne:zo pre t.base zw≠zo pre s.base zw:=z7g hto f2 (by have:=(f4 t ht).2;omega)
   rw [h7,if_neg hne]
   exact h.has t ht
  ·simp only [List.mem_cons,List.not_mem_nil,or_false] at ht
   subst ht
   rw [h7,if_pos rfl,hnone]
   exact ⟨0,rfl⟩
 ·rw [h7] at hn
  by_cases hm:n=zo pre s.base zw
  ·exact ⟨s,by simp,hm⟩
  ·rw [if_neg hm] at hn
   obtain ⟨t,ht,rfl⟩:=h.only n hn hpn
   exact ⟨t,by simp [ht],rfl⟩
 ·rw [h7,if_neg]
  rintro rfl
  rw [z4r] at hm;cases hm
 ·rw [h6,z7j];omega
def Stp (pre:ByteArray) (l:List SegA) (D:DiskA) (l':List SegA) (D':DiskA):Prop :=
 Cpl pre l' D'/\Fr pre D D'/\used D'.fs+z62 l=used D.fs+z62 l'/\D'.fs.length+l.length<=D.fs.length+l'.length/\(Calm D->Calm D')
theorem Stp.same {pre:ByteArray} {l:List SegA} {D:DiskA} (h:Cpl pre l D):Stp pre l D l D:=⟨h,.refl _ _,rfl,Nat.le_refl _,id⟩
theorem Stp.trans {pre:ByteArray} {l l' l'':List SegA} {D D' D'':DiskA} (h1:Stp pre l D l' D') (h2:Stp pre l' D' l'' D''):Stp pre l D l'' D'' :=
 ⟨h2.1,h1.2.1.trans h2.2.1,by have:=h1.2.2.1;have:=h2.2.2.1;omega,by have:=h1.2.2.2.1;have:=h2.2.2.2.1;omega,λh=>h2.2.2.2.2 (h1.2.2.2.2 h)⟩
theorem zdd {pre:ByteArray} {l:List SegA} {D:DiskA} (h:Cpl pre l D):Stp pre l D l (z0h pre l D).2:=by
 obtain ⟨h1,h2,h3,h4,-⟩:=z5i h
 exact ⟨h1,h2,by omega,by omega,λhc=>zbz hc _ _⟩
theorem zg8 (n:Int) (bs:List BatM):(SegA.add ⟨n,0,[]⟩ bs).file=shL n 0++bs.flatMap frL:=by
 rw [z77];simp [SegA.file]
theorem z82 {pre:ByteArray} (seg:Int) {l:List SegA} {D:DiskA} (bs:List BatM) (hp:z1w pre=true) (h:Cpl pre l D):Stp pre l D (z0j pre seg l D bs).2.1 (z0j pre seg l D bs).2.2:=by
 have hsegs:=zai (seg:=seg) (bs:=bs) h.segs
 unfold z0j
 unfold z14 at hsegs
 split
 ·exact .same h
 rename_i hb
 rw [if_neg hb] at hsegs
 split
 ·exact .same h
 rename_i hpl
 rw [if_neg hpl] at hsegs
 simp only at hsegs
 split
 ·rename_i hr
  rw [if_pos hr] at hsegs
  have hne:l≠[]:=by rintro rfl;cases hr
  obtain ⟨l0,s,rfl⟩:=z3a hne
  rw [zbm]
  rw [z43] at hsegs
  split
  ·rename_i he
   simp only
   rw [z92 he]
   exact .same h
  ·rename_i he
   have he:=Decidable.not_not.1 he
   simp only
   rw [z43]
   obtain ⟨c1,c2,c3,c4⟩:=h.grow hp hsegs rfl (z77 _ _) he
   exact ⟨c1,c2,c3,by rw [List.length_append,List.length_append];simp;omega,λhc=>zkw hc _ _⟩
 ·rename_i hr
  rw [if_neg hr] at hsegs
  have hst:=zdd h
  split
  ·exact hst
  split
  ·rename_i he
   simp only
   rw [z92 he]
   exact hst
  ·rename_i he
   have he:=Decidable.not_not.1 he
   simp only
   rw [<- zg8] at he ⊢
   obtain ⟨c1,c2,c3,c4⟩:=hst.1.begin (s:=SegA.add ⟨zm l,0,[]⟩ (zy (zm l) bs).2) hsegs he
   refine hst.trans ⟨c1,c2,c3,?_,λhc=>zkw hc _ _⟩
   rw [List.length_append,List.length_singleton]
   have c4:(z09 (z0h pre l D).2 (zo pre (zm l) zw) _).2.fs.length<=_:=c4
   omega
theorem zwo {pre:ByteArray} (seg:Int) {l:List SegA} {D:DiskA} (bs:List BatM) (hp:z1w pre=true) (h:Cpl pre l D) (hc:Calm D) :
  ((z0j pre seg l D bs).1=(z14 seg l bs).1/\(z0j pre seg l D bs).2.1=(z14 seg l bs).2) \/
  ((z0j pre seg l D bs).1=(0,5)/\(z0j pre seg l D bs).2.1=l/\(z14 seg l bs).1.2=0/\(zy (zm l) bs).1=0/\(((zy (zm l) bs).2.flatMap frL).length+(shL (zm l) 0).length>D.free\/D.fs.length>=128)):=by
 unfold z0j z14
 split
 ·exact .inl ⟨rfl,rfl⟩
 split
 ·exact .inl ⟨rfl,rfl⟩
 rename_i hpl
 have hpl:=Decidable.not_not.1 hpl
 split
 ·rename_i hr
  split
  ·rename_i he
   have hne:l≠[]:=by rintro rfl;cases hr
   obtain ⟨l0,s,rfl⟩:=z3a hne
   rw [zbm] at he ⊢
   obtain ⟨k,hk⟩:=h.has s (by simp)
   have h5:(z09 D (zo pre s.base zw) ((zy (zm (l0++[s])) bs).2.flatMap frL)).1=5:=by
    rcases zek (A:=D) (n:=zo pre s.base zw) (bs:=(zy (zm (l0++[s])) bs).2.flatMap frL) (ze1 hp _) with h6|⟨-,h6⟩|⟨h6,-⟩
    ·exact absurd h6 he
    ·rw [hc.gone] at h6;cases h6
    ·exact h6
   refine .inr ⟨by rw [h5],rfl,rfl,hpl,.inl ?_⟩
   apply Nat.lt_of_not_le
   intro hle
   exact he (zel hc.gone (ze1 hp _) (by omega) (.inl (by rw [hk];simp)))
  ·exact .inl ⟨rfl,rfl⟩
 ·rename_i hr
  obtain ⟨s1,s2,s3,s4,s5⟩:=z5i h
  have s5:=s5 hc
  have hc2:=zbz hc pre l
  rw [if_neg (by rw [s5];simp)]
  split
  ·rename_i he
   have h5:(z09 (z0h pre l D).2 (zo pre (zm l) zw) (shL (zm l) 0++(zy (zm l) bs).2.flatMap frL)).1=5:=by
    rcases zek (A:=(z0h pre l D).2) (n:=zo pre (zm l) zw) (bs:=shL (zm l) 0++(zy (zm l) bs).2.flatMap frL) (ze1 hp _) with h6|⟨-,h6⟩|⟨h6,-⟩
    ·exact absurd h6 he
    ·rw [hc2.gone] at h6;cases h6
    ·exact h6
   refine .inr ⟨by rw [h5],rfl,rfl,hpl,?_⟩
   by_cases hfl:D.fs.length>=128
   ·exact .inr hfl
   refine .inl ?_
   apply Nat.lt_of_not_le
   intro hle
   refine he (zel hc2.gone (ze1 hp _) ?_ (.inr (by omega)))
   have:(z0h pre l D).2.free=D.free:=by unfold DiskA.free;rw [s2.room,s3]
   rw [this,List.length_append]
   omega
  ·exact .inl ⟨rfl,rfl⟩
theorem zdo:∀ {xs ys:List ByteArray},xs.Pairwise (λa b=>ltS a b=true)->ys.Pairwise (λa b=>ltS a b=true)->(∀ n,n ∈ xs↔n ∈ ys)->xs=ys
 | [],[],_,_,_=>rfl
 | [],y::ys,_,_,h=>absurd ((h y).2 (List.mem_cons_self ..)) (by simp)
 | x::xs,[],_,_,h=>absurd ((h x).1 (List.mem_cons_self ..)) (by simp)
 | x::xs,y::ys,hx,hy,h=>by
  rw [List.pairwise_cons] at hx hy
  have hxy:x=y:=by
   rcases List.mem_cons.1 ((h x).1 (List.mem_cons_self ..)) with h1|h1
   ·exact h1
   ·rcases List.mem_cons.1 ((h y).2 (List.mem_cons_self ..)) with h2|h2
    ·exact h2.symm
    ·have h3:=hy.1 x h1
     have h4:=hx.1 y h2
     rw [zad h3] at h4
     cases h4
  subst hxy
  congr 1
  refine zdo hx.2 hy.2 λn=>?_
  constructor
  ·intro hn
   rcases List.mem_cons.1 ((h n).1 (List.mem_cons_of_mem _ hn)) with h1|h1
   ·subst h1
    have:=hx.1 n hn
    rw [z4o] at this;cases this
   ·exact h1
  ·intro hn
   rcases List.mem_cons.1 ((h n).2 (List.mem_cons_of_mem _ hn)) with h1|h1
   ·subst h1
    have:=hy.1 n hn
    rw [z4o] at this;cases this
   ·exact h1
theorem zr9 (p s:ByteArray):Go.Proofs.YtgpcickgjngglaaGreat.preF p s=(bl p).isPrefixOf (bl s):=by
 unfold Go.Proofs.YtgpcickgjngglaaGreat.preF
 rw [ByteArray.toList_eq,ByteArray.toList_eq]
theorem zjk {D:DiskA} {pre n:ByteArray}:n ∈ z12 (z16 pre) D.fs↔(z06 D.fs n).isSome=true/\(bl (z16 pre)).isPrefixOf (bl n)=true:=by
 unfold z12
 rw [List.mem_filter,<- z3u,z6d,zr9]
 constructor
 ·rintro ⟨h1,h2⟩
  obtain ⟨f,hf,rfl⟩:=List.mem_map.1 h1
  exact ⟨⟨f,hf,rfl⟩,h2⟩
 ·rintro ⟨⟨f,hf,rfl⟩,h2⟩
  exact ⟨List.mem_map.2 ⟨f,hf,rfl⟩,h2⟩
theorem zdf {D:DiskA} (hok:okA D) (p:ByteArray):(z12 p D.fs).Pairwise λa b=>ltS a b=true:=by
 unfold z12
 exact ((List.pairwise_map.2 hok.sorted).filter _)
theorem zax (pre:ByteArray):∀ {n:Int} {l:List SegA},z0e n l->(l.map λs=>zo pre s.base zw).Pairwise λa b=>ltS a b=true
 | _,[],_=>List.Pairwise.nil
 | n,s::l,⟨h1,h2,h3⟩=>by
  rw [List.map_cons,List.pairwise_cons]
  refine ⟨λm hm=>?_,zax pre h3⟩
  obtain ⟨t,ht,rfl⟩:=List.mem_map.1 hm
  have h4:=h3.mem t ht
  have:=h2.base
  have:=h4.1.base
  exact (zwu pre (by omega) (by omega) zw).2 (by omega)
theorem Cpl.names {pre:ByteArray} {l:List SegA} {D:DiskA} (h:Cpl pre l D):z12 (z16 pre) D.fs=l.map λs=>zo pre s.base zw:=by
 refine zdo (zdf h.ok _) (zax pre h.segs) λn=>?_
 rw [zjk]
 constructor
 ·rintro ⟨h1,h2⟩
  obtain ⟨s,hs,rfl⟩:=h.only n h1 h2
  exact List.mem_map.2 ⟨s,hs,rfl⟩
 ·intro hn
  obtain ⟨s,hs,rfl⟩:=List.mem_map.1 hn
  obtain ⟨k,hk⟩:=h.has s hs
  exact ⟨by rw [hk];rfl,z4r pre s.base zw⟩
theorem zbs (pre:ByteArray) (D:DiskA):∀ {l:List SegA},(∀ s ∈ l,SegOk s)->z0y pre (l.map λs=>zo pre s.base zw) D=(0,l.map SegA.base,D)
 | [],_=>rfl
 | s::l,h=>by
  have hb:=(h s (List.mem_cons_self ..)).base
  have h1:z1f pre (zo pre s.base zw) zw=some s.base.toNat:=zem pre (by omega) zw
  have h2:z1f pre (zo pre s.base zw) z87=none:=zir h1 (by decide)
  rw [List.map_cons]
  unfold z0y
  rw [h2]
  rw [if_neg (by rintro ⟨h3,-⟩;cases h3)]
  simp only [Option.isSome_none,Bool.false_eq_true,if_false]
  rw [zbs pre D λt ht=>h t (List.mem_cons_of_mem _ ht),h1]
  simp only [List.map_cons]
  have e:((s.base.toNat:Nat):Int)=s.base:=by omega
  rw [e]
  rfl
theorem zh5 {pre:ByteArray} {D:DiskA}:∀ {l l1:List SegA},z0e 0 (l1++l)->(∀ s ∈ l,∃ k,z06 D.fs (zo pre s.base zw)=some (s.file,k))->z28 pre (l.map SegA.base) l1 D=(0,l1++l,D)
 | [],l1,_,_=>by unfold z28;simp
 | s::l,l1,hok,hh=>by
  rw [List.map_cons]
  unfold z28
  have hok2:z0e 0 ((l1++[s])++l):=by rwa [List.append_assoc]
  have hs:SegOk s:=(hok.mem s (by simp)).1
  obtain ⟨k,hk⟩:=hh s (List.mem_cons_self ..)
  have hb:¬ s.base<zm l1:=by
   have:=hs.base
   by_cases h0:l1=[]
   ·subst h0;show ¬ s.base<0;omega
   ·obtain ⟨l0,t,rfl⟩:=z3a h0
    rw [z3f]
    have h1:=hok.skip l0.length (l0.length+1) (by simp) (by omega)
    have e1:(l0++[t]++s::l)[l0.length]'(by simp)=t:=by simp
    have e2:(l0++[t]++s::l)[l0.length+1]'(by simp)=s:=by
     rw [List.getElem_append_right (by simp)];simp
    rw [e1,e2] at h1
    omega
  have hsc:z1r pre l1 D s.base=((true,0),l1++[s],D):=by
   unfold z1r
   rw [hk]
   simp only
   rw [zjx hs]
   simp only
   rw [if_pos trivial]
  rw [if_neg hb,hsc,if_neg (by simp),if_pos rfl]
  simp only
  rw [zh5 hok2 λt ht=>hh t (List.mem_cons_of_mem _ ht),List.append_assoc]
  rfl
theorem Cpl.opened {pre:ByteArray} {l:List SegA} {D:DiskA} (h:Cpl pre l D):z4n pre D=(0,l,D):=by
 unfold z4n
 rw [h.names,zbs pre D λs hs=>(h.segs.mem s hs).1]
 rw [if_neg (by simp)]
 simp only
 have:=zh5 (pre:=pre) (D:=D) (l:=l) (l1:=[]) h.segs h.has
 rw [this]
 rfl
theorem Cpl.frame {pre q:ByteArray} {l:List SegA} {D D':DiskA} (h:Cpl q l D) (hok:okA D') (hp:z1w pre=true) (hq:z1w q=true) (hne:pre≠q) (hf:Fr pre D D'):Cpl q l D' :=
 h.same hok λm hm=>by
  rw [hf.other m ?_]
  cases hx:(bl (z16 pre)).isPrefixOf (bl m) with
  | false=>rfl
  | true=>exact absurd (zym hp hq hx hm) hne
theorem zix (pre:ByteArray) (n:Nat) (hn:n<=4194304):Cpl pre [] ⟨n,-1,false,[]⟩ :=
 ⟨⟨hn,by show (0:Nat)<=_;omega,by show (0:Nat)<=_;omega,by show -1<=(-1:Int)/\(-1:Int)<=_;omega,List.Pairwise.nil,(λf h=>by cases h),λf h=>by cases h⟩,trivial,(λs h=>by cases h),λn h=>by cases h⟩
structure SegR where
 base:Int
 fin:Int
 x:Sl
 bs:List BatM
structure RefM where
 seg:Int
 gap:Int
 SR:List SegR
def SegR.p (s:SegR):SegA:=⟨s.base,s.fin,s.bs.map BatM.p⟩
def RefM.l (R:RefM):List SegA:=R.SR.map SegR.p
def RefM.bs (R:RefM):List BatM:=R.SR.flatMap SegR.bs
def zgm (s:SegR):List Value:=[.int .i64 s.base,.int .i64 s.fin,.slice s.x.a s.x.len s.x.cap]
instance:EncA zgm [.int .i64,.int .i64,.slc] (λs=>(s.base,s.fin,s.x,())):=⟨λ_=>rfl⟩
instance:EncN zgm 3:=⟨λ_=>rfl,by decide,by simp [zgm,Value.oneCell']⟩
instance:EncF zgm 0 (.int .i64) (λs=>s.base):=⟨λ_=>rfl⟩
section
variable {w:World} {l r:List HP} {a:Nat} {R:RefM}
theorem zge:z04 R.l=R.bs.map BatM.p:=by
 unfold z04 RefM.l RefM.bs
 rw [List.flatMap_map,List.map_flatMap]
 rfl
class okR (R:RefM) (l:List HP):Prop where
 segs:z0e 0 R.l
 rd:∀ b ∈ R.bs,FocR l b.x 4 (b.rs.flatMap zv)
 len:R.SR.length<=1000000
 all:R.bs.length<=1000000
theorem okR.valid {L:List HP} (h:okR R L):∀ s ∈ R.SR,SegOk s.p/\(∀ b ∈ s.bs,zx b=0/\FocR L b.x 4 (b.rs.flatMap zv))/\s.bs.length<=1000000:=λs hs=>by
 have h1:=(h.segs.mem s.p (List.mem_map.2 ⟨s,hs,rfl⟩)).1
 refine ⟨h1,λb hb=>⟨(h1.bs.valid b.p (List.mem_map.2 ⟨b,hb,rfl⟩)).1,h.rd b (List.mem_flatMap.2 ⟨s,hs,hb⟩)⟩,?_⟩
 refine Nat.le_trans ?_ h.all
 obtain ⟨u,v,huv⟩:=List.append_of_mem hs
 unfold RefM.bs
 rw [huv]
 simp only [List.flatMap_append,List.flatMap_cons,List.length_append]
 omega
instance okR.cons {H:HP} {L:List HP} [h:okR R L]:okR R (H::L):=⟨h.segs,λb hb=>by have:=h.rd b hb;infer_instance,h.len,h.all⟩
end
instance:EncF zv 0 .str (λr=>r.key):=⟨λ_=>rfl⟩
section
variable {w:World} {l r:List HP} {a:Nat} {R:RefM} {z:Sl} {g1 g2:Int}
theorem okR.base {L:List HP} (h:okR R L):∀ s ∈ R.SR,0<=s.base/\s.base<=1099511627776:=λs hs=>(h.valid s hs).1.base
end
instance:EncF zgm 2 .slc (λs=>s.x):=⟨λ_=>rfl⟩
def SegR.add (s:SegR) (z:Sl) (q:List BatM):SegR:=⟨s.base,s.fin,z,s.bs++q⟩
def zbi (t:ByteArray):ByteArray:=if t.size>30 then t.extract 0 30 else t
def zmu (r:RecM):RecM:=⟨zbi r.key,zbi r.value,r.gone,r.time⟩
def z0i (b:BatM):BatM:=⟨b.base,b.pid,b.epoch,b.seq,b.kind,b.time,z88,(b.rs.take 6).map zmu⟩
theorem zfb (t:ByteArray):(zbi t).size<=30:=by
 unfold zbi
 split
 ·rw [ByteArray.size_extract];omega
 ·omega
theorem zxi (b:BatM) (n:Int) (z:Sl):2<=(z2o (((z0i b).at z).to n)).length/\(z2o (((z0i b).at z).to n)).length<=668:=by
 have h:=zqa (b:=((z0i b).at z).to n) (n:=60) λr hr=>by
  obtain ⟨q,-,rfl⟩:=List.mem_map.1 (show r ∈ (b.rs.take 6).map zmu from hr)
  have h1:=zfb q.key
  have h2:=zfb q.value
  show (zbi q.key).size+(zbi q.value).size<=60
  omega
 have h3:(((z0i b).at z).to n).rs.length<=6:=by
  show ((b.rs.take 6).map zmu).length<=6
  rw [List.length_map,List.length_take];omega
 omega
abbrev cZ (b:BatM) (z:Sl):Array Value:=#[.int .i64 b.base,.int .i64 b.pid,.int .i64 b.epoch,.int .i64 b.seq,.int .i64 b.kind,.int .i64 b.time,.slice z.a z.len z.cap]
theorem zk4 {nm:SegA->ByteArray}:∀ {fs:List FileA} {l:List SegA},fs.map (·.name)=l.map nm->(∀ f ∈ fs,∀ s ∈ l,f.name=nm s->f.b=s.file)->used fs=z62 l
 | [],[],_,_=>rfl
 | [],s::l,h,_=>by simp at h
 | f::fs,[],h,_=>by simp at h
 | f::fs,s::l,h,hh=>by
  rw [List.map_cons,List.map_cons,List.cons.injEq] at h
  have h1:=hh f (List.mem_cons_self ..) s (List.mem_cons_self ..) h.1
  have h2:=zk4 h.2 λf hf s hs=>hh f (List.mem_cons_of_mem _ hf) s (List.mem_cons_of_mem _ hs)
  rw [z1j,h2,h1]
  simp [z62]
theorem Cpl.sizes {pre:ByteArray} {l:List SegA} {D:DiskA} (h:Cpl pre l D):l.length<=D.fs.length/\z62 l<=used D.fs:=by
 have hn:=h.names
 have e:(D.fs.filter λf=>(bl (z16 pre)).isPrefixOf (bl f.name)).map (·.name)=l.map λs=>zo pre s.base zw:=by
  rw [<- hn]
  unfold z12
  rw [List.filter_map]
  congr 1
  apply List.filter_congr
  intro f _
  show _=Go.Proofs.YtgpcickgjngglaaGreat.preF (z16 pre) f.name
  rw [zr9]
 have hs:=zk4 e λf hf s hs hfs=>by
  have h1:=zcx (z2v h.ok.sorted) (List.mem_filter.1 hf).1
  obtain ⟨k,hk⟩:=h.has s hs
  rw [hfs,hk] at h1
  simp only [Option.some.injEq,Prod.mk.injEq] at h1
  exact h1.1.symm
 have hl:=congrArg List.length e
 rw [List.length_map,List.length_map] at hl
 exact ⟨by rw [<- hl];exact List.length_filter_le _ _,by rw [<- hs];exact zgc List.filter_sublist⟩
theorem zrn:∀ {n:Int} {l:List SegA},z0e n l->(z04 l).length*10<=z62 l
 | _,[],_=>Nat.le_refl _
 | n,s::l,⟨h1,h2,h3⟩=>by
  have h4:=zrn h3
  have h5:=zhu h2
  have e1:z04 (s::l)=s.bs++z04 l:=by simp [z04]
  have e2:z62 (s::l)=s.file.length+z62 l:=by simp [z62]
  rw [e1,e2,List.length_append]
  omega
theorem Cpl.len {pre:ByteArray} {l:List SegA} {D:DiskA} (h:Cpl pre l D):l.length<=128/\(z04 l).length<=500000/\∀ s ∈ l,s.file.length<=4194304:=by
 obtain ⟨h1,h2⟩:=h.sizes
 have h3:=zrn h.segs
 have h4:=h.ok.many
 have h5:=h.ok.used
 refine ⟨by omega,by omega,λs hs=>?_⟩
 obtain ⟨k,hk⟩:=h.has s hs
 exact Nat.le_trans (zdq hk) h5
theorem znj (b:BatM) (z:Sl) (n:Int):((zy n [(z0i b).at z]).2.flatMap frL).length<=676:=by
 unfold zy
 split
 ·exact Nat.zero_le _
 ·rename_i hv
  have hv:=Decidable.not_not.1 hv
  split
  ·exact Nat.zero_le _
  ·show ((((z0i b).at z).to n)::(zy _ []).2 |>.flatMap frL).length<=676
   have h1:=zxi b n z
   have h2:=z57 hv
   simp only [zy,List.flatMap_cons,List.flatMap_nil,List.append_nil]
   omega
theorem z00i {seg:Int} {l:List SegA} {bs:List BatM}:z62 (z14 seg l bs).2<=z62 l+((zy (zm l) bs).2.flatMap frL).length+29:=by
 unfold z14
 split
 ·simp only;omega
 split
 ·simp only;omega
 simp only
 split
 ·rename_i hr
  have hne:l≠[]:=by rintro rfl;cases hr
  obtain ⟨l0,s,rfl⟩:=z3a hne
  rw [z43,z7j,z7j,z77,List.length_append]
  omega
 ·have:=zih (zm l) 0
  rw [z7j,zg8,List.length_append]
  omega
theorem ztb (seg:Int) (l:List SegA) (b:BatM) (z1 z2:Sl):z14 seg l [(z0i b).at z1]=z14 seg l [(z0i b).at z2]:=by
 rw [<- zmc,<- zmc seg l [(z0i b).at z2]]
 rfl
theorem z34 (l:List SegA) (s:SegA):z04 (l++[s])=z04 l++s.bs:=by simp [z04]
theorem zx0 {a b:List BatM} (h:b≠[]):z0f (a++b)=z0f b:=by
 obtain ⟨b0,x,rfl⟩:=z3a h
 rw [<- List.append_assoc,z3w,z3w]
theorem zc5 {seg:Int} {l:List SegA} {bs:List BatM} (hok:z0e 0 l) (hb:bs≠[]) (hp:(zy (zm l) bs).1=0) :
  z04 (z14 seg l bs).2=z04 l++(zy (zm l) bs).2.map BatM.p/\zm (z14 seg l bs).2=z0f ((zy (zm l) bs).2.map BatM.p):=by
 have hq1:=(zdi hp).1
 have hq:(zy (zm l) bs).2.map BatM.p≠[]:=by
  intro h
  have:=List.map_eq_nil_iff.1 h
  rw [this] at hq1
  exact hb (List.length_eq_zero_iff.1 hq1.symm)
 have hnx:=hok.next (Int.le_refl 0)
 have hlt:=((zah hnx.1 hp).1.next hnx.1).1 hq
 unfold z14
 rw [if_neg hb,if_neg (by rw [hp];simp)]
 simp only
 split
 ·rename_i hr
  have hne:l≠[]:=by rintro rfl;cases hr
  obtain ⟨l0,s,rfl⟩:=z3a hne
  rw [z43,z34,z34,z3f]
  refine ⟨by simp [SegA.add],?_⟩
  have hsr:=z5t hok.front.2.1
  rw [z3f] at hlt hq ⊢
  show max (max s.base s.fin) (z0f (s.bs++_))=_
  rw [zx0 hq]
  omega
 ·rw [z34,z3f]
  refine ⟨by simp [SegA.add],?_⟩
  show max (max (zm l) 0) (z0f ([]++_))=_
  rw [List.nil_append]
  omega
theorem zg3 {seg:Int} {l:List SegA} {bs:List BatM} (h:bs=[]\/(zy (zm l) bs).1≠0):(z14 seg l bs).2=l/\(z14 seg l bs).1.2≠0:=by
 unfold z14
 by_cases hb:bs=[]
 ·rw [if_pos hb];exact ⟨rfl,by simp⟩
 ·rw [if_neg hb]
  rcases h with h|h
  ·exact absurd h hb
  ·rw [if_pos h];exact ⟨rfl,h⟩
def z9t (seg:Int) (bs:List BatM):List SegA:=bs.foldl (λl b=>(z14 seg l [b]).2) []
theorem znm (seg:Int) (bs:List BatM) (b:BatM):z9t seg (bs++[b])=(z14 seg (z9t seg bs) [b]).2:=by
 unfold z9t
 rw [List.foldl_append]
 rfl
theorem zjq (b:BatM) (n:Int) (h:(zy n [b]).1=0):(zy n [b]).2=[b.to n]:=by
 unfold zy at h ⊢
 split at h
 ·rename_i h1;exact absurd h h1
 ·rename_i h1
  rw [if_neg h1]
  split at h
  ·rename_i h2;exact absurd rfl h2
  ·rename_i h2;rw [if_neg h2];rfl
theorem z054 (seg:Int) (l:List SegA) (b:BatM):z14 seg l [(b.to (zm l)).p]=z14 seg l [b]:=by
 rw [<- zmc seg l [b]]
 have e:zy (zm l) [(b.to (zm l)).p]=zy (zm l) ([b].map BatM.p):=rfl
 unfold z14
 rw [e]
 rfl
def z8w (pre:ByteArray) (l:List SegA) (D:DiskA) (n:Nat):Prop:=n<=(z04 l).length/\∀ l0 t,l=l0++[t]->(∀ s ∈ l0,z06 D.fs (zo pre s.base zw)=some (s.file,s.file.length)) /\
 ∃ k,z06 D.fs (zo pre t.base zw)=some (t.file,k)/\∀ j,1<=j->j<=t.bs.length->(z04 l0).length+j<=n->(t.cut j).file.length<=k
theorem zc9 {α:Type} {a b:List α} {x y:α} (h:a++[x]=b++[y]):a=b/\x=y:=by
 have:=List.append_inj' h rfl
 exact ⟨this.1,by simpa using this.2⟩
theorem zes (t:SegA) (j:Nat):(t.cut j).file.length<=t.file.length:=by
 rw [z2q,z2q]
 show (shL t.base t.fin).length+((t.bs.take j).flatMap frL).length<=_
 have:t.bs.flatMap frL=(t.bs.take j).flatMap frL++(t.bs.drop j).flatMap frL:=by rw [<- List.flatMap_append,List.take_append_drop]
 rw [this,List.length_append];omega
theorem z8w.sync {pre:ByteArray} {l:List SegA} {D:DiskA} {n:Nat} (h:z8w pre l D n) (hc:Cpl pre l D):z8w pre l (z0h pre l D).2 n/\((z0h pre l D).1=0->z8w pre l (z0h pre l D).2 (z04 l).length /\
  ∀ s ∈ l,z06 (z0h pre l D).2.fs (zo pre s.base zw)=some (s.file,s.file.length)):=by
 by_cases h0:l=[]
 ·subst h0
  exact ⟨h,λ_=>⟨⟨Nat.le_refl _,λl0 t e=>by simp at e⟩,λs hs=>by cases hs⟩⟩
 obtain ⟨l0,t,rfl⟩:=z3a h0
 have e:z0h pre (l0++[t]) D=z1x D [zo pre t.base zw]:=by unfold z0h;rw [z1y]
 rw [e]
 obtain ⟨h1,k,h2,h3⟩:=h.2 l0 t rfl
 obtain ⟨-,-,-,-,h5⟩:=zn0 hc.ok (zo pre t.base zw)
 obtain ⟨f1,f2,f3,f4⟩:=hc.segs.front
 have hold:∀ s ∈ l0,z06 (z1x D [zo pre t.base zw]).2.fs (zo pre s.base zw)=some (s.file,s.file.length):=λs hs=>by
  rcases h5 (zo pre s.base zw) with h6|⟨h6,-,-⟩
  ·rw [h6];exact h1 s hs
  ·exact absurd h6 (z7g (f1.mem s hs).1 f2 (by have:=(f4 s hs).2;omega))
 constructor
 ·refine ⟨h.1,λl0' t' e'=>?_⟩
  obtain ⟨rfl,rfl⟩:=zc9 e'
  refine ⟨hold,?_⟩
  rcases h5 (zo pre t.base zw) with h6|⟨-,-,h6⟩
  ·rw [h6];exact ⟨k,h2,h3⟩
  ·rw [h6,h2]
   exact ⟨t.file.length,rfl,λj h7 h8 h9=>zes _ _⟩
 ·intro h0
  have hnew:z06 (z1x D [zo pre t.base zw]).2.fs (zo pre t.base zw)=some (t.file,t.file.length):=by
   obtain ⟨-,-,-,-,-,h7⟩:=zrp hc.ok h0
   rw [h7,h2];simp
  refine ⟨⟨Nat.le_refl _,λl0' t' e'=>?_⟩,λs hs=>?_⟩
  ·obtain ⟨rfl,rfl⟩:=zc9 e'
   exact ⟨hold,t.file.length,hnew,λj _ _ _=>zes _ _⟩
  ·rcases List.mem_append.1 hs with hs|hs
   ·exact hold s hs
   ·simp only [List.mem_cons,List.not_mem_nil,or_false] at hs
    subst hs;exact hnew
theorem z8w.begin {pre:ByteArray} {l:List SegA} {s:SegA} {D:DiskA} {n:Nat} (h:z8w pre l D n) (hc:Cpl pre l D) (hsegs:z0e 0 (l++[s])) (hall:∀ t ∈ l,z06 D.fs (zo pre t.base zw)=some (t.file,t.file.length)) (ha:(z09 D (zo pre s.base zw) s.file).1=0):z8w pre (l++[s]) (z09 D (zo pre s.base zw) s.file).2 n:=by
 obtain ⟨-,-,-,-,-,-,h7⟩:=za5 hc.ok ha
 obtain ⟨f1,f2,f3,f4⟩:=hsegs.front
 have hn:=h.1
 have hnone:z06 D.fs (zo pre s.base zw)=none:=by
  cases hq:z06 D.fs (zo pre s.base zw) with
  | none=>rfl
  | some q =>
   obtain ⟨t,ht,e⟩:=hc.only _ (by rw [hq];rfl) (z4r pre s.base zw)
   exact absurd e (z7g f2 (f1.mem t ht).1 (by have:=(f4 t ht).2;omega))
 refine ⟨by rw [z34,List.length_append];omega,λl0' t' e'=>?_⟩
 obtain ⟨rfl,rfl⟩:=zc9 e'
 refine ⟨λt ht=>?_,0,?_,λj j1 j2 j3=>?_⟩
 ·rw [h7,if_neg (z7g (f1.mem t ht).1 f2 (by have:=(f4 t ht).2;omega))]
  exact hall t ht
 ·rw [h7,if_pos rfl,hnone]
  rfl
 ·omega
theorem z8w.app {pre:ByteArray} {seg:Int} {l:List SegA} {D:DiskA} {bs:List BatM} {n:Nat} (hp:z1w pre=true) (h:z8w pre l D n) (hc:Cpl pre l D):z8w pre (z0j pre seg l D bs).2.1 (z0j pre seg l D bs).2.2 n:=by
 have hsegs:=zai (seg:=seg) (bs:=bs) hc.segs
 unfold z0j
 unfold z14 at hsegs
 split
 ·exact h
 rename_i hb
 rw [if_neg hb] at hsegs
 split
 ·exact h
 rename_i hpl
 rw [if_neg hpl] at hsegs
 simp only at hsegs
 split
 ·rename_i hr
  have hne:l≠[]:=by rintro rfl;cases hr
  obtain ⟨l0,t,rfl⟩:=z3a hne
  rw [zbm]
  split
  ·rename_i he
   simp only
   rw [z92 he];exact h
  ·rename_i he
   have he:=Decidable.not_not.1 he
   simp only
   rw [z43]
   obtain ⟨h1,k,h2,h3⟩:=h.2 l0 t rfl
   obtain ⟨-,-,-,-,-,-,h7⟩:=za5 hc.ok he
   obtain ⟨f1,f2,f3,f4⟩:=hc.segs.front
   have hn:=h.1
   rw [z34,List.length_append] at hn
   refine ⟨by rw [z34,List.length_append];simp only [SegA.add,List.length_append];omega,λl0' t' e'=>?_⟩
   obtain ⟨rfl,rfl⟩:=zc9 e'
   refine ⟨λs hs=>?_,k,?_,λj j1 j2 j3=>?_⟩
   ·rw [h7,if_neg (z7g (f1.mem s hs).1 f2 (by have:=(f4 s hs).2;omega))]
    exact h1 s hs
   ·show z06 _ (zo pre t.base zw)=_
    rw [h7,if_pos rfl,h2,z77]
    rfl
   ·have hj:j<=t.bs.length:=by omega
    have e:(t.add (zy (zm (l0++[t])) bs).2).cut j=t.cut j:=by
     unfold SegA.cut SegA.add
     simp only
     rw [List.take_append_of_le_length hj]
    rw [e]
    exact h3 j j1 hj j3
 ·rename_i hr
  obtain ⟨hs1,hs2⟩:=h.sync hc
  split
  ·exact hs1
  rename_i hse
  have hse:=Decidable.not_not.1 hse
  split
  ·rename_i he
   simp only
   rw [z92 he];exact hs1
  ·rename_i he
   have he:=Decidable.not_not.1 he
   rw [if_neg hr] at hsegs
   simp only
   obtain ⟨hs3,hs4⟩:=hs2 hse
   rw [<- zg8] at he ⊢
   exact hs1.begin (s:=SegA.add ⟨zm l,0,[]⟩ (zy (zm l) bs).2) (z5i hc).1 hsegs hs4 he
structure CutP (pre:ByteArray) (l0:List SegA) (t:SegA) (k:Nat) (D:DiskA):Prop where
 ok:okA D
 segs:z0e 0 (l0++[t])
 old:∀ s ∈ l0,z06 D.fs (zo pre s.base zw)=some (s.file,s.file.length)
 last:z06 D.fs (zo pre t.base zw)=some (t.file.take k,k)
 le:k<=t.file.length
 only:∀ n,(z06 D.fs n).isSome=true->(bl (z16 pre)).isPrefixOf (bl n)=true->∃ s ∈ l0++[t],n=zo pre s.base zw
theorem CutP.fs {pre:ByteArray} {l0:List SegA} {t:SegA} {k:Nat} {D D':DiskA} (h:CutP pre l0 t k D) (hok:okA D') (e:D'.fs=D.fs):CutP pre l0 t k D' :=
 ⟨hok,h.segs,by rw [e];exact h.old,by rw [e];exact h.last,h.le,by rw [e];exact h.only⟩
theorem zzh {pre:ByteArray} {l:List SegA} {D:DiskA} (hok:okA D) (hsegs:z0e 0 l) (hex:∀ s ∈ l,(z06 D.fs (zo pre s.base zw)).isSome=true) (only:∀ n,(z06 D.fs n).isSome=true->(bl (z16 pre)).isPrefixOf (bl n)=true->∃ s ∈ l,n=zo pre s.base zw):z12 (z16 pre) D.fs=l.map λs=>zo pre s.base zw:=by
 refine zdo (zdf hok _) (zax pre hsegs) λn=>?_
 rw [zjk]
 constructor
 ·rintro ⟨h1,h2⟩
  obtain ⟨s,hs,rfl⟩:=only n h1 h2
  exact List.mem_map.2 ⟨s,hs,rfl⟩
 ·intro hn
  obtain ⟨s,hs,rfl⟩:=List.mem_map.1 hn
  exact ⟨hex s hs,z4r pre s.base zw⟩
theorem zis {l1 l:List SegA} {s:SegA} (hok:z0e 0 (l1++s::l)):¬ s.base<zm l1:=by
 have hs:SegOk s:=(hok.mem s (by simp)).1
 have:=hs.base
 by_cases h0:l1=[]
 ·subst h0;show ¬ s.base<0;omega
 ·obtain ⟨l0,t,rfl⟩:=z3a h0
  rw [z3f]
  have h1:=hok.skip l0.length (l0.length+1) (by simp) (by omega)
  have e1:(l0++[t]++s::l)[l0.length]'(by simp)=t:=by simp
  have e2:(l0++[t]++s::l)[l0.length+1]'(by simp)=s:=by
   rw [List.getElem_append_right (by simp)];simp
  rw [e1,e2] at h1
  omega
theorem zjo {pre:ByteArray} {D:DiskA} {rest:List Int}:∀ {l l1:List SegA},z0e 0 (l1++l)->(∀ s ∈ l,∃ k,z06 D.fs (zo pre s.base zw)=some (s.file,k))->z28 pre (l.map SegA.base++rest) l1 D=z28 pre rest (l1++l) D
 | [],l1,_,_=>by simp
 | s::l,l1,hok,hh=>by
  rw [List.map_cons,List.cons_append]
  have hok2:z0e 0 ((l1++[s])++l):=by rwa [List.append_assoc]
  have hs:SegOk s:=(hok.mem s (by simp)).1
  obtain ⟨k,hk⟩:=hh s (List.mem_cons_self ..)
  have hsc:z1r pre l1 D s.base=((true,0),l1++[s],D):=by
   unfold z1r
   rw [hk]
   simp only
   rw [zjx hs]
   simp only
   rw [if_pos trivial]
  have e:z28 pre (s.base::(l.map SegA.base++rest)) l1 D=z28 pre (l.map SegA.base++rest) (l1++[s]) D:=by
   rw [z28]
   rw [if_neg (zis hok),hsc,if_neg (by simp),if_pos rfl]
  rw [e,zjo hok2 λt ht=>hh t (List.mem_cons_of_mem _ ht),List.append_assoc]
  rfl
theorem zfg {g:FileA->FileA} (hg:∀ f,(g f).b.length<=f.b.length):∀ fs:List FileA,used (fs.map g)<=used fs
 | []=>Nat.le_refl _
 | f::fs=>by
  have:=zfg hg fs
  have:=hg f
  rw [List.map_cons,z1j,z1j]
  omega
theorem zyl (A:DiskA) (n:ByteArray) (k:Int):used (cutA' A n k).2.fs<=used A.fs:=by
 unfold cutA'
 split
 ·exact Nat.le_refl _
 split
 ·exact Nat.le_refl _
 split
 ·exact Nat.le_refl _
 ·show used (z2j _).fs<=_
  rw [z3l]
  refine zfg (λf=>?_) _
  unfold z1u
  split
  ·show (f.b.take _).length<=_;rw [List.length_take];omega
  ·exact Nat.le_refl _
theorem zyk {D:DiskA} (h:Calm D) (n:ByteArray) (k:Int):Calm (cutA' D n k).2:=by
 unfold cutA'
 split
 ·exact h
 split
 ·exact h
 split
 ·exact h
 ·show Calm (z2j _)
  rw [za6 (by exact h.left)]
  exact ⟨h.gone,h.left⟩
theorem zx9 {t:SegA} (ht:SegOk t) (j:Nat):(t.cut j).reach<=t.reach:=by
 unfold SegA.reach SegA.cut
 simp only
 have h:z0f (t.bs.take j)<=max (max t.base t.fin) (z0f t.bs):=by
  by_cases h0:t.bs.take j=[]
  ·rw [h0];have:=ht.base;show (0:Int)<=_;omega
  ·obtain ⟨l,b,hb⟩:=z3a h0
   rw [hb,z3w]
   have hm:b ∈ t.bs:=List.mem_of_mem_take (by rw [hb];simp)
   have:=ht.bs.le_next hm
   omega
 omega
structure OpnP (pre:ByteArray) (l:List SegA) (n:Nat) (D:DiskA) (l1:List SegA) (D3:DiskA):Prop where
 cpl:Cpl pre l1 D3
 room:D3.room=D.room
 used:used D3.fs<=used D.fs
 len:D3.fs.length<=D.fs.length
 calm:Calm D->Calm D3
 sure:n<=(z04 l1).length
 le:(z04 l1).length<=(z04 l).length
 part:z04 l1=(z04 l).take (z04 l1).length
 next:zm l1<=zm l
theorem z0e.cutLast {n:Int} {l0:List SegA} {t:SegA} (h:z0e n (l0++[t])) (j:Nat):z0e n (l0++[t.cut j]):=by
 obtain ⟨h1,h2,h3,h4⟩:=h.front
 exact h1.snoc (h2.cut j) h3 h4
theorem CutP.opened {pre:ByteArray} {l0:List SegA} {t:SegA} {k n:Nat} {D:DiskA} (h:CutP pre l0 t k D) (hg:D.gone=false) (hn0:n<=(z04 (l0++[t])).length) (hn:∀ j,1<=j->j<=t.bs.length->(z04 l0).length+j<=n->(t.cut j).file.length<=k) :
  ∃ l1 D3,z4n pre D=(0,l1,D3)/\OpnP pre (l0++[t]) n D l1 D3:=by
 have hex:∀ s ∈ l0++[t],(z06 D.fs (zo pre s.base zw)).isSome=true:=λs hs=>by
  rcases List.mem_append.1 hs with hs|hs
  ·rw [h.old s hs];rfl
  ·simp only [List.mem_cons,List.not_mem_nil,or_false] at hs
   subst hs;rw [h.last];rfl
 have hnm:=zzh h.ok h.segs hex h.only
 obtain ⟨f1,f2,f3,f4⟩:=h.segs.front
 have hstart:z4n pre D=z28 pre [t.base] l0 D:=by
  unfold z4n
  rw [hnm,zbs pre D λs hs=>(h.segs.mem s hs).1,if_neg (by simp)]
  simp only
  rw [List.map_append]
  have:=zjo (pre:=pre) (D:=D) (rest:=[t].map SegA.base) (l:=l0) (l1:=[]) f1 λs hs=>⟨_,h.old s hs⟩
  rw [this]
  rfl
 rw [hstart]
 rw [z34,List.length_append] at hn0
 have hne:∀ s ∈ l0,zo pre s.base zw≠zo pre t.base zw:=λs hs=>z7g (f1.mem s hs).1 f2 (by have:=(f4 s hs).2;omega)
 have hb:=zis (l:=[]) h.segs
 have hisS:(z06 D.fs (zo pre t.base zw)).isSome=true:=by rw [h.last];rfl
 rcases z00e f2 k with ⟨c1,c2⟩|⟨j,c1,c2,c3,c4⟩
 ·have hsc:z1r pre l0 D t.base=((false,(z18 D (zo pre t.base zw)).1),l0,(z18 D (zo pre t.base zw)).2):=by
   unfold z1r
   rw [h.last]
   simp only
   rw [c2]
  have hr:(z18 D (zo pre t.base zw)).1=0:=by
   rcases zxc hisS with ⟨r1,-⟩|⟨-,r2,-⟩
   ·exact r1
   ·rw [hg] at r2;cases r2
  refine ⟨l0,(z18 D (zo pre t.base zw)).2,?_,?_⟩
  ·rw [z28,if_neg hb,hsc,hr]
   rfl
  ·obtain ⟨-,r1,r2,r3,r4,-,r6⟩:=z074 h.ok hr
   have hnl:n<=(z04 l0).length:=by
    apply Nat.le_of_not_lt
    intro hlt
    have h1:=hn 1 (Nat.le_refl _) (by omega) (by omega)
    rw [z2q] at h1
    have:(shL (t.cut 1).base (t.cut 1).fin).length=(shL t.base t.fin).length:=rfl
    omega
   refine ⟨⟨r1,f1,λs hs=>⟨s.file.length,?_⟩,λm hm hp=>?_⟩,r2,r3,r4,λhc=>z008 hc _,hnl,?_,?_,?_⟩
   ·rw [r6,if_neg (hne s hs)];exact h.old s hs
   ·rw [r6] at hm
    by_cases hmt:m=zo pre t.base zw
    ·rw [if_pos hmt] at hm;cases hm
    ·rw [if_neg hmt] at hm
     obtain ⟨s,hs,rfl⟩:=h.only m hm hp
     rcases List.mem_append.1 hs with hs|hs
     ·exact ⟨s,hs,rfl⟩
     ·simp only [List.mem_cons,List.not_mem_nil,or_false] at hs
      subst hs;exact absurd rfl hmt
   ·rw [z34,List.length_append];omega
   ·rw [z34,List.take_left]
   ·rw [z3f]
    have:=(z5t f2).1
    omega
 ·have hprefix:z04 (l0++[t.cut j])=(z04 (l0++[t])).take (z04 (l0++[t.cut j])).length/\(z04 (l0++[t.cut j])).length=(z04 l0).length+j:=by
   have e:(t.cut j).bs=t.bs.take j:=rfl
   rw [z34,z34,e,List.length_append,List.length_take,Nat.min_eq_left c1,List.take_append,List.take_of_length_le (Nat.le_add_right _ _),Nat.add_sub_cancel_left]
   exact ⟨rfl,rfl⟩
  have hnl:n<=(z04 (l0++[t.cut j])).length:=by
   rw [hprefix.2]
   apply Nat.le_of_not_lt
   intro hlt
   have h1:=hn (n-(z04 l0).length) (by omega) (by omega) (by omega)
   have h2:=c4 (n-(z04 l0).length) (by omega) h1
   omega
  have hle:(z04 (l0++[t.cut j])).length<=(z04 (l0++[t])).length:=by rw [hprefix.2,z34,List.length_append];omega
  have hnx:zm (l0++[t.cut j])<=zm (l0++[t]):=by rw [z3f,z3f];exact zx9 f2 j
  have hkl:(t.file.take k).length=k:=by rw [List.length_take,Nat.min_eq_left h.le]
  have hraw:=(zmq c3).2.2.1
  by_cases hk:(t.cut j).file.length=k
  ·have hsc:z1r pre l0 D t.base=((true,0),l0++[t.cut j],D):=by
    unfold z1r
    rw [h.last]
    simp only
    rw [c3]
    simp only
    rw [if_pos (by rw [hkl];exact hk)]
   refine ⟨l0++[t.cut j],D,?_,?_⟩
   ·rw [z28,if_neg hb,hsc,if_neg (by simp),if_pos rfl]
    rfl
   ·refine ⟨⟨h.ok,h.segs.cutLast j,λs hs=>?_,λm hm hp=>?_⟩,rfl,Nat.le_refl _,Nat.le_refl _,id,hnl,hle,hprefix.1,hnx⟩
    ·rcases List.mem_append.1 hs with hs|hs
     ·exact ⟨_,h.old s hs⟩
     ·simp only [List.mem_cons,List.not_mem_nil,or_false] at hs
      subst hs
      refine ⟨k,?_⟩
      show z06 D.fs (zo pre t.base zw)=_
      rw [h.last,<- hraw,hk,List.take_take,Nat.min_self]
    ·obtain ⟨s,hs,rfl⟩:=h.only m hm hp
     rcases List.mem_append.1 hs with hs|hs
     ·exact ⟨s,by simp [hs],rfl⟩
     ·simp only [List.mem_cons,List.not_mem_nil,or_false] at hs
      subst hs;exact ⟨s.cut j,by simp,rfl⟩
  ·have hsc:z1r pre l0 D t.base=((false,(cutA' D (zo pre t.base zw) ((t.cut j).file.length:Nat)).1),l0++[t.cut j],(cutA' D (zo pre t.base zw) ((t.cut j).file.length:Nat)).2):=by
    unfold z1r
    rw [h.last]
    simp only
    rw [c3]
    simp only
    rw [if_neg (by rw [hkl];exact hk)]
   have hr:(cutA' D (zo pre t.base zw) ((t.cut j).file.length:Nat)).1=0:=by
    rcases zw4 (A:=D) (k:=((t.cut j).file.length:Nat)) h.last (by rw [hkl];omega) with ⟨r1,-⟩|⟨-,r2,-⟩
    ·exact r1
    ·rw [hg] at r2;cases r2
   refine ⟨l0++[t.cut j],(cutA' D (zo pre t.base zw) ((t.cut j).file.length:Nat)).2,?_,?_⟩
   ·rw [z28,if_neg hb,hsc,hr]
    rfl
   ·obtain ⟨-,r1,r2,r3,r4⟩:=z067 h.ok hr
    refine ⟨⟨r1,h.segs.cutLast j,λs hs=>?_,λm hm hp=>?_⟩,r2,zyl _ _ _,by omega,λhc=>zyk hc _ _,hnl,hle,hprefix.1,hnx⟩
    ·rcases List.mem_append.1 hs with hs|hs
     ·rw [r4,if_neg (hne s hs)];exact ⟨_,h.old s hs⟩
     ·simp only [List.mem_cons,List.not_mem_nil,or_false] at hs
      subst hs
      refine ⟨min k (t.cut j).file.length,?_⟩
      show z06 _ (zo pre t.base zw)=_
      rw [r4,if_pos rfl,h.last]
      show some ((t.file.take k).take _,_)=_
      rw [Int.toNat_natCast,hraw]
    ·rw [r4] at hm
     have hm2:(z06 D.fs m).isSome=true:=by
      by_cases hmt:m=zo pre t.base zw
      ·rw [hmt];exact hisS
      ·rw [if_neg hmt] at hm;exact hm
     obtain ⟨s,hs,rfl⟩:=h.only m hm2 hp
     rcases List.mem_append.1 hs with hs|hs
     ·exact ⟨s,by simp [hs],rfl⟩
     ·simp only [List.mem_cons,List.not_mem_nil,or_false] at hs
      subst hs;exact ⟨s.cut j,by simp,rfl⟩
def CrP (pre:ByteArray) (l:List SegA) (n:Nat) (D:DiskA):Prop:=(l=[]/\n=0/\Cpl pre [] D)\/∃ l0 t k,l=l0++[t]/\n<=(z04 l).length/\CutP pre l0 t k D/\∀ j,1<=j->j<=t.bs.length->(z04 l0).length+j<=n->(t.cut j).file.length<=k
theorem CrP.ok {pre:ByteArray} {l:List SegA} {D:DiskA} {n:Nat} (h:CrP pre l n D):okA D:=by
 rcases h with ⟨h1,h2,h3⟩|⟨l0,t,k,h1,h2,h3,h4⟩
 ·exact h3.ok
 ·exact h3.ok
theorem CrP.opened {pre:ByteArray} {l:List SegA} {D:DiskA} {n:Nat} (h:CrP pre l n D) (hg:D.gone=false):∃ l1 D3,z4n pre D=(0,l1,D3)/\OpnP pre l n D l1 D3:=by
 rcases h with ⟨rfl,rfl,h3⟩|⟨l0,t,k,rfl,h2,h3,h4⟩
 ·exact ⟨[],D,h3.opened,h3,rfl,Nat.le_refl _,Nat.le_refl _,id,Nat.zero_le _,Nat.le_refl _,rfl,Int.le_refl _⟩
 ·exact h3.opened hg h2 h4
theorem zb0:∀ {n:Int} {l:List SegA},0<=n->z0e n l->z1n n (z04 l)
 | _,[],_,_=>trivial
 | n,s::l,hn,⟨h1,h2,h3⟩=>by
  have e1:z04 (s::l)=s.bs++z04 l:=by simp [z04]
  have hr:=z5t h2
  have hb:=h2.base
  rw [e1]
  refine z1n.append hn (h2.bs.mono h1) ((zb0 (by omega) h3).mono ?_)
  omega
section
variable {w:World} {l r:List HP} {lg d:Nat} {D:DiskA} {A:LogA}
theorem z061 (b:BatM) (x:Sl) {r1:List HP} [hf:Fo l lgP lg A r1] [hf2:Fo r1 dk A.d D r] (hlen:A.l.length<=1000000) (hok:z0e 0 A.l) (hfl:∀ s ∈ A.l,s.file.length<=500000000)
  (hx:FocR r x 7 ([b].flatMap z00)) (hb:FocR r b.x 4 (b.rs.flatMap zv)) (hs:Sat w l) :
  Ret P F.a118 #[.pointer (some ⟨lg,0,none⟩),x.v] w λvs w'=>vs=[.int .i64 (z0j A.pre A.seg A.l D [b]).1.1,.int .i64 (z0j A.pre A.seg A.l D [b]).1.2] /\
   Sat w' (lgP lg (A.set (z0j A.pre A.seg A.l D [b]).2.1)::dk A.d (z0j A.pre A.seg A.l D [b]).2.2::r) :=
 zwq x [b] hlen hok hfl (by show 1<=900;omega) hx (λc hc=>by
  simp only [List.mem_cons,List.not_mem_nil,or_false] at hc
  subst hc
  exact hb) hs
theorem nil_append (x:Sl) (hs:Sat w l):Ret P F.a118 #[.pointer none,x.v] w λvs w'=>vs=[.int .i64 0,.int .i64 1]/\Sat w' l :=
 zfi _ x <| by
  delta ztt AC AD AG AH AJ AP AQ AS AU AV Aa Ab Ac Ae Af Ag Ah Ai Al An Ao Ar Au Aw Az Bb Bc Bd Be Bf Bi
  refine z0t ?_ (by rfl)
  exact ⟨rfl,rfl,hs⟩
end
def InP (pool:List BatM) (R:RefM):Prop:=∀ b ∈ R.bs,∃ c ∈ pool,b.x=c.x/\b.rs=c.rs
structure Grw (pre:ByteArray) (D:DiskA) (l':List SegA) (D':DiskA):Prop where
 cpl:Cpl pre l' D'
 fr:Fr pre D D'
 calm:Calm D'
 used:used D'.fs<=used D.fs+705
 len:D'.fs.length<=D.fs.length+1
theorem InP.rd {pool:List BatM} {R:RefM} {l:List HP} (h:InP pool R):∀ b ∈ R.bs,FocR (z1l pool::l) b.x 4 (b.rs.flatMap zv):=λb hb=>by
 obtain ⟨c,hc,e1,e2⟩:=h b hb
 rw [e1,e2]
 exact zb2 hc
theorem InP.more {pool:List BatM} {R:RefM} (h:InP pool R) (x:BatM):InP (pool++[x]) R:=λb hb=>by
 obtain ⟨c,hc,e⟩:=h b hb
 exact ⟨c,List.mem_append_left _ hc,e⟩
theorem InP.app {pool:List BatM} {R R':RefM} {b0:BatM} {z:Sl} (h:InP pool R) (hR:∀ b ∈ R'.bs,b ∈ R.bs\/(b.x=z/\b.rs=(z0i b0).rs)):InP (pool++[(z0i b0).at z]) R':=λb hb=>by
 rcases hR b hb with h1|⟨h1,h2⟩
 ·exact h.more _ b h1
 ·exact ⟨(z0i b0).at z,by simp,h1,h2⟩
abbrev qP:ByteArray:=ByteArray.mk #[113]
abbrev qqP:ByteArray:=ByteArray.mk #[113,113]
theorem ze3:z1w qP=true:=by kernel_rfl
theorem zx8:z1w qqP=true:=by kernel_rfl
theorem z073:qP≠qqP:=λh=>by have:=congrArg ByteArray.size h;cases this
structure ApP (s:Int) (k:Nat) (D:DiskA) (R S:RefM) (pool:List BatM):Prop where
 rs:R.seg=s
 ss:S.seg=s
 c1:Cpl qP R.l D
 c2:Cpl qqP S.l D
 calm:Calm D
 room:D.room=1048576
 used:used D.fs<=705*k
 len:D.fs.length<=k
 in1:InP pool R
 in2:InP pool S
theorem ApP.left {s:Int} {k:Nat} {D D':DiskA} {R R' S:RefM} {pool:List BatM} {b0:BatM} {z:Sl} (h:ApP s k D R S pool) (hg:Grw qP D R'.l D') (h1:R'.seg=R.seg) (hR:∀ b ∈ R'.bs,b ∈ R.bs\/(b.x=z/\b.rs=(z0i b0).rs)):ApP s (k+1) D' R' S (pool++[(z0i b0).at z]) :=
 ⟨h1.trans h.rs,h.ss,hg.cpl,h.c2.frame hg.cpl.ok ze3 zx8 z073 hg.fr,hg.calm,hg.fr.room.trans h.room,by have:=hg.used;have:=h.used;omega,by have:=hg.len;have:=h.len;omega,h.in1.app hR,h.in2.more _⟩
theorem ApP.right {s:Int} {k:Nat} {D D':DiskA} {R S S':RefM} {pool:List BatM} {b0:BatM} {z:Sl} (h:ApP s k D R S pool) (hg:Grw qqP D S'.l D') (h1:S'.seg=S.seg) (hR:∀ b ∈ S'.bs,b ∈ S.bs\/(b.x=z/\b.rs=(z0i b0).rs)):ApP s (k+1) D' R S' (pool++[(z0i b0).at z]) :=
 ⟨h.rs,h1.trans h.ss,h.c1.frame hg.cpl.ok zx8 ze3 z073.symm hg.fr,hg.cpl,hg.calm,hg.fr.room.trans h.room,by have:=hg.used;have:=h.used;omega,by have:=hg.len;have:=h.len;omega,h.in1.more _,h.in2.app hR⟩
theorem ApP.free {s:Int} {k:Nat} {D:DiskA} {R S:RefM} {pool:List BatM} (h:ApP s k D R S pool) (hk:k<=100):705<=D.free:=by
 have:=h.used
 have:=h.room
 unfold DiskA.free
 omega
def zsf (b:Bool):List Value:=[.bool b]
instance:Enc1 zsf .bool (λb=>b):=⟨λ_=>rfl⟩
instance:EncN zsf 1:=⟨λ_=>rfl,by decide,by simp [zsf,Value.oneCell']⟩
section
variable {w:World} {l r:List HP} {lg a:Nat} {A:LogA} {D:DiskA} {R:RefM}
theorem zze {r1:List HP} [hf:Fo l lgP lg A r1] [hf2:Fo r1 dk A.d D r] (hlen:A.l.length<=1000000000) (hok:z0e 0 A.l) (hs:Sat w l) :
  Ret P F.a124 #[.pointer (some ⟨lg,0,none⟩)] w λvs w'=>vs=[.int .i64 (z0h A.pre A.l D).1]/\Sat w' (lgP lg A::dk A.d (z0h A.pre A.l D).2::r):=by
 have hs:=hs.perm (hf.perm.trans (.cons _ hf2.perm))
 clear hf hf2
 obtain ⟨M,rfl,hs⟩:=z83 hs
 have hll:M.l.length=M.SM.length:=List.length_map ..
 have hMl:M.A.l=M.l:=rfl
 rw [hMl] at hlen hok
 have hs:Sat w (lgQ lg M::dk M.d D::r):=hs
 refine (zqw (lg:=lg) (M:=M) (D:=D) (by omega) hok hs).mono λvs w' h=>?_
 obtain ⟨h1,h2⟩:=h
 exact ⟨h1,z4l M h2⟩
structure FilI (s:Int) (k:Nat) (D:DiskA) (l:List SegA) (R:RefM) (pool:List BatM) (n:Nat) (C:Prop):Prop where
 cpl:Cpl qP l D
 syn:z8w qP l D n
 rseg:R.seg=4194304
 segs:z0e 0 R.l
 srl:R.SR.length<=k
 brl:R.bs.length<=k
 all:R.bs.map BatM.p=z04 l
 next:zm R.l=zm l
 rep:l=z9t s (z04 l)
 room:D.room=1048576
 used:used D.fs<=705*k
 len:D.fs.length<=k
 in1:InP pool R
 calm:C->Calm D
structure FilE (s:Int) (D:DiskA) (l:List SegA) (outs pool:List BatM) (n:Nat) (C:Prop):Prop where
 cpl:Cpl qP l D
 syn:z8w qP l D n
 told:outs.map BatM.p=z04 l\/(D.gone=true/\∃ b,outs.map BatM.p=z04 l++[b])
 rep:l=z9t s (z04 l)
 room:D.room=1048576
 used:used D.fs<=14805
 len:D.fs.length<=21
 num:outs.length<=21
 in1:∀ b ∈ outs,∃ c ∈ pool,b.x=c.x/\b.rs=c.rs
 calm:C->Calm D/\outs.map BatM.p=z04 l
theorem FilI.free {s:Int} {k n:Nat} {l:List SegA} {pool:List BatM} {C:Prop} (h:FilI s k D l R pool n C) (hk:k<=100):705<=D.free:=by
 have:=h.used
 have:=h.room
 unfold DiskA.free
 omega
theorem FilI.done {s:Int} {k n:Nat} {l:List SegA} {pool:List BatM} {C:Prop} (h:FilI s k D l R pool n C) (hk:k<=20):FilE s D l R.bs pool n C :=
 ⟨h.cpl,h.syn,.inl h.all,h.rep,h.room,by have:=h.used;omega,by have:=h.len;omega,by have:=h.brl;omega,h.in1,λc=>⟨h.calm c,h.all⟩⟩
theorem FilI.step {s:Int} {k n:Nat} {l:List SegA} {pool:List BatM} {C:Prop} {R':RefM} {b0:BatM} {z z':Sl} (h:FilI s k D l R pool n C) (hk:k<=100)
  (h1:(z0j qP s l D [(z0i b0).at z]).1=(z14 s l [(z0i b0).at z]).1) (h2:(z0j qP s l D [(z0i b0).at z]).2.1=(z14 s l [(z0i b0).at z]).2)
  (r1:R'.seg=R.seg) (r2:R'.l=(z14 R.seg R.l [(z0i b0).at z']).2) (r3:R'.SR.length<=R.SR.length+1) (r4:R'.bs.length<=R.bs.length+1) (r5:∀ b ∈ R'.bs,b ∈ R.bs\/(b.x=z'/\b.rs=(z0i b0).rs)) :
  FilI s (k+1) (z0j qP s l D [(z0i b0).at z]).2.2 (z0j qP s l D [(z0i b0).at z]).2.1 R' (pool++[(z0i b0).at z']) n C:=by
 have hst:=z82 s [(z0i b0).at z] ze3 h.cpl
 have hsy:=h.syn.app (seg:=s) (bs:=[(z0i b0).at z]) ze3 h.cpl
 have hsum:=z00i (seg:=s) (l:=l) (bs:=[(z0i b0).at z])
 have hsm:=znj b0 z (zm l)
 have hsl:=zih (zm l) 0
 have hR:R'.bs.map BatM.p=z04 R'.l:=by rw [zge]
 have hRR:R.bs.map BatM.p=z04 R.l:=by rw [zge]
 have hrall:z04 R.l=z04 l:=hRR.symm.trans h.all
 have er:z14 R.seg R.l [(z0i b0).at z']=z14 R.seg R.l [(z0i b0).at z]:=ztb _ _ _ _ _
 rw [er] at r2
 have hsegR:z0e 0 R'.l:=by rw [r2];exact zai h.segs
 have hallN:z04 R'.l=z04 (z14 s l [(z0i b0).at z]).2/\zm R'.l=zm (z14 s l [(z0i b0).at z]).2/\(z14 s l [(z0i b0).at z]).2=z9t s (z04 (z14 s l [(z0i b0).at z]).2):=by
  by_cases hp:(zy (zm l) [(z0i b0).at z]).1=0
  ·obtain ⟨g1,g2⟩:=zc5 (seg:=s) h.cpl.segs (by simp) hp
   obtain ⟨g3,g4⟩:=zc5 (seg:=R.seg) (bs:=[(z0i b0).at z]) h.segs (by simp) (by rw [h.next];exact hp)
   rw [h.next] at g3 g4
   rw [r2]
   refine ⟨by rw [g1,g3,hrall],by rw [g2,g4],?_⟩
   rw [g1,zjq _ _ hp]
   show _=z9t s (z04 l++[(((z0i b0).at z).to (zm l)).p])
   rw [znm,<- h.rep,z054]
  ·obtain ⟨g1,-⟩:=zg3 (seg:=s) (l:=l) (bs:=[(z0i b0).at z]) (.inr hp)
   obtain ⟨g3,-⟩:=zg3 (seg:=R.seg) (l:=R.l) (bs:=[(z0i b0).at z]) (.inr (by rw [h.next];exact hp))
   rw [r2,g1,g3]
   exact ⟨hrall,h.next,h.rep⟩
 rw [h2] at hst hsy ⊢
 have hu:=hst.2.2.1
 have hl:=hst.2.2.2.1
 have hll:(z14 s l [(z0i b0).at z]).2.length<=l.length+1:=by
  unfold z14
  split
  ·simp
  split
  ·simp
  ·simp only
   split
   ·rename_i hr
    have hne:l≠[]:=by rintro rfl;cases hr
    obtain ⟨l0,t,rfl⟩:=z3a hne
    rw [z43];simp
   ·simp
 have hlen2:(z0j qP s l D [(z0i b0).at z]).2.2.fs.length<=D.fs.length+1:=by
  unfold z0j
  split
  ·simp only;omega
  split
  ·simp only;omega
  split
  ·split <;> exact z7n.1
  ·obtain ⟨-,-,-,s4,-⟩:=z5i h.cpl
   split
   ·simp only;omega
   split
   ·simp only
    have:=(z7n (A:=(z0h qP l D).2) (n:=zo qP (zm l) zw) (bs:=shL (zm l) 0++(zy (zm l) [(z0i b0).at z]).2.flatMap frL)).1
    omega
   ·simp only
    have:=(z7n (A:=(z0h qP l D).2) (n:=zo qP (zm l) zw) (bs:=shL (zm l) 0++(zy (zm l) [(z0i b0).at z]).2.flatMap frL)).1
    omega
 exact ⟨hst.1,hsy,r1.trans h.rseg,hsegR,by have:=h.srl;omega,by have:=h.brl;omega,by rw [hR];exact hallN.1,hallN.2.1,hallN.2.2,hst.2.1.room.trans h.room,by have:=h.used;omega,by have:=h.len;omega,h.in1.app r5,λc=>hst.2.2.2.2 (h.calm c)⟩
theorem FilI.fail {s:Int} {k n:Nat} {l:List SegA} {pool:List BatM} {C:Prop} {R':RefM} {b0:BatM} {z z':Sl} (h:FilI s k D l R pool n C) (hk:k<20)
  (h1:(z0j qP s l D [(z0i b0).at z]).2.1=l) (h2:(z0j qP s l D [(z0i b0).at z]).2.2.gone=true)
  (r2:R'.l=(z14 R.seg R.l [(z0i b0).at z']).2) (r4:R'.bs.length<=R.bs.length+1) (r5:∀ b ∈ R'.bs,b ∈ R.bs\/(b.x=z'/\b.rs=(z0i b0).rs)) :
  FilE s (z0j qP s l D [(z0i b0).at z]).2.2 l R'.bs (pool++[(z0i b0).at z']) n C:=by
 have hst:=z82 s [(z0i b0).at z] ze3 h.cpl
 have hsy:=h.syn.app (seg:=s) (bs:=[(z0i b0).at z]) ze3 h.cpl
 rw [h1] at hst hsy
 have hR:R'.bs.map BatM.p=z04 R'.l:=by rw [zge]
 have hRR:R.bs.map BatM.p=z04 R.l:=by rw [zge]
 have hrall:z04 R.l=z04 l:=hRR.symm.trans h.all
 have hu:=hst.2.2.1
 have hl:=hst.2.2.2.1
 refine ⟨hst.1,hsy,?_,h.rep,hst.2.1.room.trans h.room,by have:=h.used;omega,by have:=h.len;omega,by have:=h.brl;omega,h.in1.app r5,λc=>?_⟩
 ·by_cases hp:(zy (zm R.l) [(z0i b0).at z']).1=0
  ·obtain ⟨g3,-⟩:=zc5 (seg:=R.seg) (bs:=[(z0i b0).at z']) h.segs (by simp) hp
   refine .inr ⟨h2,?_⟩
   rw [hR,r2,g3,zjq _ _ hp,hrall]
   exact ⟨_,rfl⟩
  ·obtain ⟨g3,-⟩:=zg3 (seg:=R.seg) (l:=R.l) (bs:=[(z0i b0).at z']) (.inr hp)
   refine .inl ?_
   rw [hR,r2,g3,hrall]
 ·have:=(hst.2.2.2.2 (h.calm c)).gone
  rw [this] at h2;cases h2
set_option maxHeartbeats 1000000 in
end
abbrev cP (b:BatM) (k:Nat) (q:Int) (z:Sl):Array Value:=#[.int .i64 (b.base+(k:Int)),.int .i64 b.pid,.int .i64 b.epoch,.int .i64 q,.int .i64 b.kind,.int .i64 b.time,.slice z.a z.len z.cap]
def InB (pool bs:List BatM):Prop:=∀ b ∈ bs,∃ c ∈ pool,b.x=c.x/\b.rs=c.rs
theorem InB.rd {pool bs:List BatM} {l:List HP} (h:InB pool bs):∀ b ∈ bs,FocR (z1l pool::l) b.x 4 (b.rs.flatMap zv):=λb hb=>by
 obtain ⟨c,hc,e1,e2⟩:=h b hb
 rw [e1,e2]
 exact zb2 hc
theorem InB.more {pool bs:List BatM} (h:InB pool bs) (q:List BatM):InB (pool++q) bs:=λb hb=>by
 obtain ⟨c,hc,e⟩:=h b hb
 exact ⟨c,List.mem_append_left _ hc,e⟩
theorem InB.app {pool a b:List BatM} (h1:InB pool a) (h2:InB pool b):InB pool (a++b):=λx hx=>by
 rcases List.mem_append.1 hx with hx|hx
 ·exact h1 x hx
 ·exact h2 x hx
section
variable {w:World} {l r:List HP} {lg:Nat} {A:LogA}
theorem zzc [hf:Fo l lgP lg A r] (hlen:A.l.length<=1000000000) (hs:Sat w l):Ret P F.a120 #[.pointer (some ⟨lg,0,none⟩)] w λvs w'=>vs=[.int .i64 (zm A.l)]/\Sat w' (lgP lg A::r):=by
 have hs:=hs.perm hf.perm
 clear hf
 obtain ⟨M,hM,hsn⟩:=z83 hs
 clear hs
 subst hM
 have hll:M.l.length=M.SM.length:=List.length_map ..
 have hMl:M.A.l=M.l:=rfl
 rw [hMl] at hlen
 refine (zbe (lg:=lg) (M:=M) (by omega) hsn).mono λvs w' h=>?_
 obtain ⟨h1,h2⟩:=h
 exact ⟨h1,z4l M h2⟩
set_option maxHeartbeats 1000000 in
end
structure PartA where
 L:LogA
 most:Int
 T:TabA
 V:ViewA
def paP (p:Nat) (A:PartA):HP:=HP.ex λM:Nat × Nat × Nat=>HP.star (pt p (.cells #[.pointer (some ⟨M.1,0,none⟩),.pointer (some ⟨A.L.d,0,none⟩),.string A.L.pre,.int .i64 A.most,.pointer (some ⟨M.2.1,0,none⟩),.pointer (some ⟨M.2.2,0,none⟩)] T.a34))
 (HP.star (lgP M.1 A.L) (HP.star (tb M.2.1 A.T) (vw M.2.2 A.V)))
def z5d (A:PartA):Int:=if A.V.op.length=0 then zm A.L.l else max (z5c A.V) (z13 A.L.l)
section
variable {w:World} {l r r1 r2 r3 r4 l':List HP} {p lg t v:Nat} {A:PartA} {D:DiskA}
theorem z5a (hs:Sat w (paP p A::l)):∃ lg t v:Nat,Sat w (pt p (.cells #[.pointer (some ⟨lg,0,none⟩),.pointer (some ⟨A.L.d,0,none⟩),.string A.L.pre,.int .i64 A.most,.pointer (some ⟨t,0,none⟩),.pointer (some ⟨v,0,none⟩)] T.a34)::lgP lg A.L::tb t A.T::vw v A.V::l):=by
 obtain ⟨⟨lg,t,v⟩,hs⟩:=hs.ex
 have hs:=hs.star
 have hs:=(hs.pick [1]).star
 have hs:=(hs.pick [1]).star
 exact ⟨lg,t,v,hs.pick [3,2,0]⟩
theorem z0a4 (lg t v:Nat) (hs:Sat w (pt p (.cells #[.pointer (some ⟨lg,0,none⟩),.pointer (some ⟨A.L.d,0,none⟩),.string A.L.pre,.int .i64 A.most,.pointer (some ⟨t,0,none⟩),.pointer (some ⟨v,0,none⟩)] T.a34)::lgP lg A.L::tb t A.T::vw v A.V::l)):Sat w (paP p A::l):=by
 have h1:=(hs.pick [2,2]).star_mk
 have h2:=(h1.pick [2,0]).star_mk
 exact .ex_mk (lg,t,v) ((h2.pick [1]).star_mk)
theorem z2r (A:PartA) (hs:Sat w l) [h1:FocB l p (.cells [.pointer (some ⟨lg,0,none⟩),.pointer (some ⟨A.L.d,0,none⟩),.string A.L.pre,.int .i64 A.most,.pointer (some ⟨t,0,none⟩),.pointer (some ⟨v,0,none⟩)].toArray T.a34) r1] [h2:Fo r1 lgP lg A.L r2] [h3:Fo r2 tb t A.T r3] [h4:Fo r3 vw v A.V r4] [h5:Sub r4 l']:Sat w (paP p A::l'):=by
 have hs:=hs.perm (h1.perm.trans (.cons _ (h2.perm.trans (.cons _ (h3.perm.trans (.cons _ h4.perm))))))
 have hs:Sat w (paP p A::r4):=z0a4 lg t v hs
 exact hs.sub
theorem zr8 [hf:Fo l paP p A r] (hlen:A.L.l.length<=1000000000) (hs:Sat w l):Ret P F.a89 #[.pointer (some ⟨p,0,none⟩)] w λvs w'=>vs=[.int .i64 (zm A.L.l)]/\Sat w' (paP p A::r) :=
 zvj _ <| by
  delta z09j AA AQ Aa Ae Ag Ai Al Az
  obtain ⟨lg,t,v,hs⟩:=z5a (hs.perm hf.perm)
  refine z03 ?_ (by simp)
  refine zh ?_
  refine zb hs ?_
  refine z8 (zzc (lg:=lg) (A:=A.L) hlen hs) λ_ w' hs=>?_
  obtain ⟨rfl,hs⟩:=hs
  refine zd ?_
  refine wp_lt ?_
  exact ⟨rfl,rfl,z2r A hs⟩
theorem zm9 [hf:Fo l paP p A r] (hs:Sat w l):Ret P F.a88 #[.pointer (some ⟨p,0,none⟩)] w λvs w'=>vs=[.int .i64 (z13 A.L.l)]/\Sat w' (paP p A::r) :=
 zvi _ <| by
  delta z09i AA AQ Aa Ae Ag Ai Al Az
  obtain ⟨lg,t,v,hs⟩:=z5a (hs.perm hf.perm)
  refine z03 ?_ (by simp)
  refine zh ?_
  refine zb hs ?_
  obtain ⟨M,hM,hsl⟩:=z83 (hs.pick [1])
  refine z8 (zhv (lg:=lg) hsl) λ_ w' hs=>?_
  obtain ⟨rfl,hs⟩:=hs
  refine zd ?_
  refine wp_lt ?_
  have hMl:M.l=A.L.l:=congrArg LogA.l hM
  have hs:=z4l M hs
  rw [hM] at hs
  rw [hMl]
  exact ⟨rfl,rfl,z2r A hs⟩
def zgd (A:PartA):Prop:=∀ {w:World} {l r:List HP} {p:Nat},Fo l paP p A r->A.L.l.length<=1000000000->Sat w l->Ret P F.a91 #[.pointer (some ⟨p,0,none⟩)] w λvs w'=>vs=[.int .i64 (z5d A)]/\Sat w' (paP p A::r)
end
end Go.Dec
