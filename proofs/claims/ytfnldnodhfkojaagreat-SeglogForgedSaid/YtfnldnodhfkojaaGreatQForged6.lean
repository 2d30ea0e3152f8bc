/- What the claim of this folder leans on: our own texts, joined, without what it does not use. -/
import Derived.Test.YtfnldnodhfkojaaGreatRows
import Derived.WalkKit
import Derived.ProofKit
import Derived.OpenShut
import Derived.RowKit3
import Derived.OrdersHeld
import Derived.Scope
import Derived.KernelRfl
import Derived.Laws.Sem
import Derived.Laws.StructEq
import Derived.Deep.AppendSrc
import Derived.Laws.BytesArg
import Derived.Laws.RangeString
import Derived.Maps.RangeRun
import Derived.Lib.ConvBytes
import Derived.Lib.SlBytesConst
import Derived.ChangeSlices
import Derived.ChangeMaps5
import Derived.ChangeSame
import Derived.Deep.Slices
import Derived.Deep.Fields
import Derived.Test.YtfnldnodhfkojaaGreatProg
import Derived.Laws.MakeOwn
import Derived.Sort.MapsRangeIn
import Derived.Sort.KeysCollected
import Derived.RangeFuncNested
import Derived.RangeFuncBound
import Derived.RangeFuncCalls
import Derived.RangeFuncLeaves
import Derived.RangeFuncBox
import Derived.OwnWalkIn
import Derived.TacticsInMore
import Derived.RegionIn
import Derived.LoopNIn
import Derived.LoopIn
import Derived.Maps.AppendAt
import Derived.Shelf.Abstract
import Derived.Shelf.Sort.Plain
import Derived.Shelf.Slices.In.SortNone
import Derived.Test.YtfnldnodhfkojaaGreatQForged1
import Derived.Test.YtfnldnodhfkojaaGreatQForged2
import Derived.Test.YtfnldnodhfkojaaGreatQForged3
import Derived.Test.YtfnldnodhfkojaaGreatQForged4
import Derived.Test.YtfnldnodhfkojaaGreatQForged5
set_option linter.unusedVariables false
set_option linter.unusedSimpArgs false
namespace Go.Dec
instance:EncF z03 0 .str (λr=>r.key):=⟨λ_=>rfl⟩
def zpu (rs:List RecM):ByteArray:=match rs.getLast? with
 | none=>⟨#[]⟩
 | some x=>x.key
theorem zn2 (time:Int) (rs:List RecM) (r:RecM):z1r time ⟨#[]⟩ (rs++[r])=z1r time ⟨#[]⟩ rs++z3l time (zpu rs) r:=zbo time rs ⟨#[]⟩ r
section
variable {w:World} {l r:List HP}
theorem zox (t:ByteArray) (ht:t.size<=1000000000) (hs:Sat w l):Ret P F.a116 #[.string t] w λvs w'=>∃ z:Sl,vs=[z.v]/\Sat w' (slc T.a38 1 z ((uI (t.size:Nat)++bl t).flatMap zg)::l) :=
 zmq t <| by
  unfold zy5
  refine za (z6v ((t.size:Nat):Int) (by omega) hs) λ_ w' hs=>?_
  obtain ⟨x,rfl,hs⟩:=hs
  refine ze ?_
  have hl:=hs.slen x
  have hul:=z1c ((t.size:Nat):Int)
  refine zte (t0:=t) (xs:=uI (t.size:Nat)) hs (λz w' hs=>?_) (by omega)
  exact ⟨rfl,z,rfl,hs⟩
theorem zyg (b:Bool) (hs:Sat w l):Ret P F.a106 #[.bool b] w λvs w'=>∃ z:Sl,vs=[z.v]/\Sat w' (slc T.a38 1 z ([z4z b].flatMap zg)::l) :=
 zll b <| by
  unfold zx2
  refine zk (λh=>?_) λh=>?_
  ·subst h
   refine z1f hs (enc:=zg) (1:UInt8) λz w' hs=>?_
   exact ⟨rfl,z,rfl,hs⟩
  ·have h:b=false:=by simpa using h
   subst h
   refine z1f hs (enc:=zg) (0:UInt8) λz w' hs=>?_
   exact ⟨rfl,z,rfl,hs⟩
set_option maxHeartbeats 1000000 in
theorem za1 (b:BatM) [hb:FocR l b.x 4 (b.rs.flatMap z03)] (hs:Sat w l) :
  Ret P F.a124 #[.agg (zw b).toArray] w λvs w'=>(z0c b≠0/\vs=[.slice none 0 0,.int .i64 (z0c b)]/\Sat w' l)\/(z0c b=0/\∃ z:Sl,vs=[z.v,.int .i64 0]/\Sat w' (slc T.a38 1 z ((z1p b).flatMap zg)::l)) :=
 zn8 b.base b.pid b.epoch b.seq b.kind b.time b.x <| by
  unfold zxz
  have hlx:=hs.slen b.x (xs:=b.rs) (enc:=z03)
  refine z0b hs λa0 w' hs=>?_
  refine z02 hs ?_
  refine za (zks b hs) λ_ w' hs=>?_
  obtain ⟨rfl,hs⟩:=hs
  refine ze ?_
  refine wp_lt ?_
  refine zk (λh=>?_) λh=>?_
  ·refine wp_lt ?_
   exact ⟨rfl,.inl ⟨h,rfl,hs.tail⟩⟩
  have hv:z0c b=0:=Decidable.not_not.1 h
  obtain ⟨-,-,⟨hk,hba,hpi,hep,hsq,htm⟩,hfit,-⟩:=z1e b hv
  obtain ⟨h64,hrs⟩:=z2p hv
  have ek:IntKind.wrap .u8 b.kind=(((UInt8.ofNat b.kind.toNat).toNat:Nat):Int):=by
   rw [wu8 (by omega) (by omega),UInt8.toNat_ofNat'];omega
  have hul1:=z1c b.base
  have hul2:=z1c b.pid
  have hul3:=z1c b.epoch
  have hul4:=z1c b.seq
  have hul5:=z1c b.time
  refine zd hs ?_
  rw [ek]
  refine z8x hs (enc:=zg) [1,UInt8.ofNat b.kind.toNat] λz1 w' hs=>?_
  refine zd hs ?_
  refine za (z6v b.base (by omega) hs) λ_ w' hs=>?_
  obtain ⟨z2,rfl,hs⟩:=hs
  refine ze ?_
  refine wp_app' (xs:=[1,UInt8.ofNat b.kind.toNat]) (ys:=uI b.base) (enc:=zg) hs (λz3 w' hs=>?_) (by simp only [List.length_cons,List.length_nil];omega)
  refine zd hs ?_
  refine za (z6v b.pid (by omega) hs) λ_ w' hs=>?_
  obtain ⟨z4,rfl,hs⟩:=hs
  refine ze ?_
  refine wp_app' (xs:=[1,UInt8.ofNat b.kind.toNat]++uI b.base) (ys:=uI b.pid) (enc:=zg) hs (λz5 w' hs=>?_) (by simp only [List.length_append,List.length_cons,List.length_nil];omega)
  have hhd:[1,UInt8.ofNat b.kind.toNat]++uI b.base++uI b.pid=hdL b:=by unfold hdL;simp
  rw [hhd] at hs
  replace hs:Sat w' (slc T.a38 1 z5 ((hdL b).flatMap zg)::pt a0 (.cells (cB b) T.a1)::l):=hs.sub
  have hdl:(hdL b).length<=22:=by rw [<- hhd];simp only [List.length_append,List.length_cons,List.length_nil];omega
  refine zd hs ?_
  refine zx (λq w'=>∃ z:Sl,q=(z,())/\Sat w' (slc T.a38 1 z ((hdL b++if b.pid>0 then uI b.epoch else []).flatMap zg)::pt a0 (.cells (cB b) T.a1)::l)) ?_ ?_
  ·refine zk (λh2=>?_) λh2=>?_
   ·refine zd hs ?_
    refine za (z6v b.epoch (by omega) hs) λ_ w' hs=>?_
    obtain ⟨z6,rfl,hs⟩:=hs
    refine ze ?_
    refine wp_app' (xs:=hdL b) (ys:=uI b.epoch) (enc:=zg) hs λz7 w' hs=>?_
    refine zj ⟨z7,rfl,?_⟩
    rw [if_pos h2]
    exact hs.sub
   ·refine zj ⟨z5,rfl,?_⟩
    rw [if_neg h2,List.append_nil]
    exact hs
  clear hs
  rintro _ w ⟨z8,rfl,hs⟩
  refine zt ?_
  refine zx (λq w'=>q=(decide (b.pid>0/\z0y b=false),())/\Sat w' (slc T.a38 1 z8 ((hdL b++if b.pid>0 then uI b.epoch else []).flatMap zg)::pt a0 (.cells (cB b) T.a1)::l)) ?_ ?_
  ·refine zd hs ?_
   refine z02 hs ?_
   refine zk (λh2=>?_) λh2=>?_
   ·refine za (z7b b hs) λ_ w' hs=>?_
    obtain ⟨rfl,hs⟩:=hs
    refine ze ?_
    refine zj ⟨?_,hs⟩
    have e:decide (b.pid>0/\z0y b=false)=!z0y b:=by
     rw [Bool.eq_iff_iff,decide_eq_true_iff]
     simp [h2]
    rw [e]
   ·exact zj ⟨by rw [decide_eq_false λh=>h2 h.1],hs⟩
  clear hs
  rintro _ w ⟨rfl,hs⟩
  refine zt ?_
  have hml:(hdL b++z4u b).length<=42:=by
   unfold z4u
   rw [List.length_append]
   split
   ·split
    ·simp only [List.length_append,List.length_nil];omega
    ·simp only [List.length_append];omega
   ·simp only [List.length_nil];omega
  refine zx (λq w'=>∃ z:Sl,q=(z,())/\Sat w' (slc T.a38 1 z ((hdL b++z4u b).flatMap zg)::pt a0 (.cells (cB b) T.a1)::l)) ?_ ?_
  ·refine zk (λh2=>?_) λh2=>?_
   ·have h2:b.pid>0/\z0y b=false:=by simpa using h2
    refine zd hs ?_
    refine za (z6v b.seq (by omega) hs) λ_ w' hs=>?_
    obtain ⟨z6,rfl,hs⟩:=hs
    refine ze ?_
    rw [if_pos h2.1] at hs
    refine wp_app' (xs:=hdL b++uI b.epoch) (ys:=uI b.seq) (enc:=zg) hs (λz7 w' hs=>?_) (by rw [List.length_append];omega)
    refine zj ⟨z7,rfl,?_⟩
    have e:hdL b++z4u b=hdL b++uI b.epoch++uI b.seq:=by unfold z4u;rw [if_pos h2.1,h2.2,if_neg (by simp),List.append_assoc]
    rw [e]
    exact hs.sub
   ·have h2:¬ (b.pid>0/\z0y b=false):=by simpa using h2
    refine zj ⟨z8,rfl,?_⟩
    have e:z4u b=if b.pid>0 then uI b.epoch else []:=by
     unfold z4u
     split
     ·rename_i h3
      have hm:z0y b=true:=by
       cases hm:z0y b with
       | true=>rfl
       | false=>exact absurd ⟨h3,hm⟩ h2
      rw [hm,if_pos rfl,List.append_nil]
     ·rfl
    rw [e]
    exact hs
  clear hs
  rintro _ w ⟨z9,rfl,hs⟩
  refine zt ?_
  refine zd hs ?_
  refine za (z6v b.time (by omega) hs) λ_ w' hs=>?_
  obtain ⟨z3,rfl,hs⟩:=hs
  refine ze ?_
  refine wp_app' (xs:=hdL b++z4u b) (ys:=uI b.time) (enc:=zg) hs (λz4 w' hs=>?_) (by omega)
  refine z02 hs ?_
  refine za (z7b b hs) λ_ w' hs=>?_
  obtain ⟨rfl,hs⟩:=hs
  refine ze ?_
  refine zk (λh3=>?_) λh3=>?_
  ·refine ⟨rfl,.inr ⟨hv,z4,rfl,?_⟩⟩
   rw [zdo,h3,if_pos rfl,List.append_nil]
   exact hs.sub
  have h3:z0y b=false:=by simpa using h3
  have hcl:=z1c ((b.rs.length:Nat):Int)
  refine zd hs ?_
  rw [hlx]
  refine za (z6v ((b.rs.length:Nat):Int) (by omega) hs) λ_ w' hs=>?_
  obtain ⟨z5,rfl,hs⟩:=hs
  refine ze ?_
  generalize hX:hdL b++z4u b++uI b.time=X at hs
  have hXl:X.length<=60:=by rw [<- hX,List.length_append];omega
  refine wp_app' (xs:=X) (ys:=uI (b.rs.length:Nat)) (enc:=zg) hs (λz6 w' hs=>?_) (by omega)
  refine zd hs ?_
  generalize hY:X++uI ((b.rs.length:Nat):Int)=Y at hs
  have hYl:Y.length<=80:=by rw [<- hY];simp only [List.length_append];omega
  have hfin:z1p b=Y++z1r b.time ⟨#[]⟩ b.rs:=by
   rw [zdo,hX,h3,if_neg (by simp),<- hY,List.append_assoc]
  refine zx (λq w'=>∃ z:Sl,q=(z,())/\Sat w' (slc T.a38 1 z ((z1p b).flatMap zg)::l)) ?_ ?_
  rotate_left
  ·rintro _ w' ⟨z,rfl,hs⟩
   exact ⟨rfl,.inr ⟨hv,z,rfl,hs⟩⟩
  have hrec:=znv hv
  refine z0e (λm v w=>∃ (i:Nat) (z:Sl),v=(z,((i:Int),()))/\i<=b.rs.length/\b.rs.length-i=m/\Sat w (slc T.a38 1 z ((Y++z1r b.time ⟨#[]⟩ (b.rs.take i)).flatMap zg)::pt a0 (.cells (cB b) T.a1)::l)) b.rs.length ⟨0,z6,rfl,by omega,rfl,by
   rw [List.take_zero]
   show Sat _ (slc T.a38 1 z6 ((Y++[]).flatMap zg)::_)
   rw [List.append_nil]
   exact hs.sub⟩ ?_
  clear hs
  rintro m _ w ⟨i,z,rfl,hi,hm,hs⟩
  refine zt ?_
  refine zk (λhc=>?_) λhc=>?_
  rotate_left
  ·refine zv (zj ⟨z,rfl,?_⟩)
   have hi2:i=b.rs.length:=by omega
   rw [hi2,List.take_length,<- hfin] at hs
   exact hs.sub
  have hil:i<b.rs.length:=by omega
  obtain ⟨hr1,hr2,hr3,hr4⟩:=z3c (hrs b.rs[i] (List.getElem_mem hil))
  have hsn:=zn2 b.time (b.rs.take i) b.rs[i]
  rw [<- List.take_succ_eq_append_getElem hil] at hsn
  have hln:=hrec (i+1)
  rw [hsn,List.length_append] at hln
  have hah:∃ ahead:ByteArray,zpu (b.rs.take i)=ahead/\ahead.size<=1024/\(i=0->ahead=⟨#[]⟩)/\∀ h:0<i,ahead=(b.rs[i-1]'(by omega)).key:=by
   by_cases h0:i=0
   ·subst h0
    exact ⟨⟨#[]⟩,rfl,by show 0<=1024;omega,λ_=>rfl,λh=>by omega⟩
   ·have e:(b.rs.take i).getLast? = some (b.rs[i-1]'(by omega)):=by
     rw [ziu (by omega),if_neg h0,List.getElem?_eq_getElem (by omega)]
    exact ⟨(b.rs[i-1]'(by omega)).key,by unfold zpu;rw [e],(z3c (hrs _ (List.getElem_mem (by omega)))).1,λh=>absurd h h0,λ_=>rfl⟩
  obtain ⟨ahead,hahe,hahs,hah0,hah1⟩:=hah
  rw [hahe] at hsn hln
  have hal:=z7e (bl ahead) (bl b.rs[i].key)
  rw [z14,z14] at hal
  have hrl:z3l b.time ahead b.rs[i]=(z3b (b.rs[i].time-b.time)++([z4z b.rs[i].gone]++(uI (z07 (bl ahead) (bl b.rs[i].key):Nat)++z40 ahead b.rs[i].key)))++if b.rs[i].gone then [] else uI b.rs[i].value.size++bl b.rs[i].value:=by
   unfold z3l
   simp only [List.append_assoc,List.cons_append,List.nil_append,List.singleton_append]
  generalize hZ:Y++z1r b.time ⟨#[]⟩ (b.rs.take i)=Z at *
  have hZl:Z.length<=200000:=by rw [<- hZ,List.length_append];omega
  have htl1:=zcl (b.rs[i].time-b.time)
  have htl2:=z1c ((z07 (bl ahead) (bl b.rs[i].key):Nat):Int)
  have htl3:(z40 ahead b.rs[i].key).length<=1034:=by
   unfold z40
   have:=z1c (((b.rs[i].key.size-z07 (bl ahead) (bl b.rs[i].key):Nat)):Int)
   rw [List.length_append,List.length_drop,z14]
   omega
  refine zx (λq w'=>∃ z:Sl,q=(z,())/\Sat w' (slc T.a38 1 z ((Z++z3l b.time ahead b.rs[i]).flatMap zg)::pt a0 (.cells (cB b) T.a1)::l)) ?_ ?_
  rotate_left
  ·rintro _ w2 ⟨z',rfl,hs⟩
   rw [wS (i:=i) (by omega)]
   refine z0q (b.rs.length-(i+1)) ⟨i+1,z',rfl,by omega,rfl,?_⟩
   rw [hsn,<- List.append_assoc,hZ]
   exact hs
  refine z23 hs (xs:=b.rs) (enc:=z03) i hil ?_
  refine z05 hs λa1 w' hs=>?_
  refine wp_lt ?_
  refine z09 hs λw' hs=>?_
  refine zx (λq w'=>q=(((z07 (bl ahead) (bl b.rs[i].key):Nat):Int),())/\Sat w' (pt a1 (.cells (cR b.rs[i]) T.a3)::slc T.a38 1 z (Z.flatMap zg)::pt a0 (.cells (cB b) T.a1)::l)) ?_ ?_
  ·refine z0e (λk v w=>∃ j:Nat,v=((j:Int),())/\j<=z07 (bl ahead) (bl b.rs[i].key)/\z07 (bl ahead) (bl b.rs[i].key)-j=k/\Sat w (pt a1 (.cells (cR b.rs[i]) T.a3)::slc T.a38 1 z (Z.flatMap zg)::pt a0 (.cells (cB b) T.a1)::l)) (z07 (bl ahead) (bl b.rs[i].key)) ⟨0,rfl,by omega,rfl,hs⟩ ?_
   clear hs
   rintro k _ w ⟨j,rfl,hj,hk2,hs⟩
   refine zt ?_
   refine z0i hs λw' hs=>?_
   refine zd hs ?_
   refine zd hs ?_
   by_cases h0:i=0
   ·have hg:∀ {c:Bool},¬ ((decide ((i:Int)>0) && c)=true):=λ{c} h=>by rw [h0] at h;simp at h
    have hg2:∀ {c d:Bool},¬ ((decide ((i:Int)>0) && c && d)=true):=λ{c d} h=>by rw [h0] at h;simp at h
    refine zfl (λh=>absurd h hg) ?_
    refine z7z (⟨#[]⟩:ByteArray) hg ?_
    refine z7z (⟨#[]⟩:ByteArray) hg2 ?_
    refine wp_must (λh=>absurd h hg2) ?_
    refine z7z (⟨none,0,0⟩:Sl) hg2 ?_
    refine zfl (λh=>absurd h hg2) ?_
    refine z7z (⟨#[]⟩:ByteArray) hg2 ?_
    refine wp_must (λh=>absurd h hg2) ?_
    refine zm ?_
    refine zgi (λhcc=>?_) λhcc=>?_
    ·have hc3:=hcc
     simp only [Bool.and_eq_true,decide_eq_true_eq] at hc3
     omega
    ·have ha0:=hah0 h0
     have e0:z07 (bl ahead) (bl b.rs[i].key)=0:=by rw [ha0];rfl
     refine zv (zj ⟨?_,hs⟩)
     congr 2
     omega
   ·have hgt:0<i:=by omega
    have hpre:=hah1 hgt
    have ew:IntKind.wrap .i64 ((i:Int)-1)=((i-1:Nat):Int):=by rw [w64 (by omega) (by omega)];omega
    rw [ew]
    refine zej hs (xs:=b.rs) (enc:=z03) ahead (λ_=>⟨i-1,by omega,rfl,hpre.symm⟩) ?_
    refine zd hs ?_
    refine wp_must (λh=>?_) ?_
    ·simp only [Bool.and_eq_true,decide_eq_true_eq] at h;omega
    refine zd hs ?_
    refine zej hs (xs:=b.rs) (enc:=z03) ahead (λ_=>⟨i-1,by omega,rfl,hpre.symm⟩) ?_
    refine wp_must (λh=>?_) ?_
    ·simp only [Bool.and_eq_true,decide_eq_true_eq] at h;omega
    refine zm ?_
    have hbt:∀ (c:ByteArray) (h:j<(bl c).length),bt c (j:Int)=(((bl c)[j]).toNat:Int):=λc h=>by
     unfold bt
     rw [Int.toNat_natCast,List.getD_eq_getElem?_getD,List.getElem?_eq_getElem h];rfl
    have htk:=za5 (bl ahead) (bl b.rs[i].key)
    refine zgi (λhcc=>?_) λhcc=>?_
    ·simp only [Bool.and_eq_true,decide_eq_true_eq,beq_iff_eq] at hcc
     obtain ⟨⟨⟨h1,h2⟩,h3⟩,h4⟩:=hcc
     have l1:j<(bl ahead).length:=by rw [z14];omega
     have l2:j<(bl b.rs[i].key).length:=by rw [z14];omega
     rw [hbt _ l1,hbt _ l2] at h4
     have hne:j≠z07 (bl ahead) (bl b.rs[i].key):=by
      intro he
      have hmax:∀ (x y:List UInt8) (h1:z07 x y<x.length) (h2:z07 x y<y.length),x[z07 x y]≠y[z07 x y]:=by
       intro x
       induction x with
       | nil=>intro y h1;simp at h1
       | cons p x ih =>
        intro y h1 h2
        cases y with
        | nil=>simp at h2
        | cons q y =>
         by_cases hpq:p=q
         ·have e:z07 (p::x) (q::y)=z07 x y+1:=by simp [z07,hpq]
          have l1:z07 x y<x.length:=by rw [e] at h1;simpa using h1
          have l2:z07 x y<y.length:=by rw [e] at h2;simpa using h2
          have:=ih y l1 l2
          intro hh
          apply this
          have e1:(p::x)[z07 (p::x) (q::y)]? = (p::x)[z07 x y+1]? := by rw [e]
          have e2:(q::y)[z07 (p::x) (q::y)]? = (q::y)[z07 x y+1]? := by rw [e]
          rw [List.getElem?_eq_getElem h1,List.getElem?_cons_succ,List.getElem?_eq_getElem l1] at e1
          rw [List.getElem?_eq_getElem h2,List.getElem?_cons_succ,List.getElem?_eq_getElem l2] at e2
          exact (Option.some.inj e1).symm.trans (hh.trans (Option.some.inj e2))
         ·have e:z07 (p::x) (q::y)=0:=by simp [z07,hpq]
          intro hh
          apply hpq
          have e1:(p::x)[z07 (p::x) (q::y)]? = (p::x)[0]? := by rw [e]
          have e2:(q::y)[z07 (p::x) (q::y)]? = (q::y)[0]? := by rw [e]
          rw [List.getElem?_eq_getElem h1] at e1
          rw [List.getElem?_eq_getElem h2] at e2
          have e1:=Option.some.inj e1
          have e2:=Option.some.inj e2
          exact e1.symm.trans (hh.trans e2)
      have hx:=hmax (bl ahead) (bl b.rs[i].key) (by rw [<- he];exact l1) (by rw [<- he];exact l2)
      apply hx
      apply UInt8.toNat_inj.1
      have h5:((bl b.rs[i].key)[j]).toNat=((bl ahead)[j]).toNat:=by omega
      simp only [<- he]
      omega
     refine z1l (y:=((j+1:Nat):Int)) ?_ (by rw [w64 (by omega) (by omega)];omega)
     exact z0q (z07 (bl ahead) (bl b.rs[i].key)-(j+1)) ⟨j+1,rfl,by omega,rfl,hs⟩
    ·have he:j=z07 (bl ahead) (bl b.rs[i].key):=by
      apply Decidable.byContradiction
      intro hne
      have hjl:j<z07 (bl ahead) (bl b.rs[i].key):=by omega
      have l1:j<(bl ahead).length:=by rw [z14];omega
      have l2:j<(bl b.rs[i].key).length:=by rw [z14];omega
      have e1:(bl ahead)[j]? = (bl b.rs[i].key)[j]? := by
       have:=congrArg (λx:List UInt8=>x[j]?) htk
       simp only [List.getElem?_take,if_pos hjl] at this
       exact this
      rw [List.getElem?_eq_getElem l1,List.getElem?_eq_getElem l2] at e1
      have e1:=Option.some.inj e1
      rw [Bool.eq_false_iff] at hcc
      apply hcc
      simp only [Bool.and_eq_true,decide_eq_true_eq,beq_iff_eq]
      refine ⟨⟨⟨by omega,by rw [z14] at l2;omega⟩,by rw [z14] at l1;omega⟩,?_⟩
      rw [hbt _ l1,hbt _ l2,e1]
     refine zv (zj ⟨by rw [<- he],hs⟩)
  clear hs
  rintro _ w ⟨rfl,hs⟩
  refine zt ?_
  refine zd hs ?_
  refine zd hs ?_
  rw [w64 (by omega) (by omega)]
  refine za (zzi (b.rs[i].time-b.time) (by omega) hs) λ_ w' hs=>?_
  obtain ⟨u1_,rfl,hs⟩:=hs
  refine ze ?_
  refine wp_app' (xs:=Z) (ys:=z3b (b.rs[i].time-b.time)) (enc:=zg) hs (λy1 w' hs=>?_) (by omega)
  refine zd hs ?_
  refine za (zyg b.rs[i].gone hs) λ_ w' hs=>?_
  obtain ⟨u2_,rfl,hs⟩:=hs
  refine ze ?_
  refine wp_app' (xs:=Z++z3b (b.rs[i].time-b.time)) (ys:=[z4z b.rs[i].gone]) (enc:=zg) hs (λy2 w' hs=>?_) (by simp only [List.length_append,List.length_cons,List.length_nil];omega)
  refine za (z6v ((z07 (bl ahead) (bl b.rs[i].key):Nat):Int) (by omega) hs) λ_ w' hs=>?_
  obtain ⟨u3_,rfl,hs⟩:=hs
  refine ze ?_
  refine wp_app' (xs:=Z++z3b (b.rs[i].time-b.time)++[z4z b.rs[i].gone]) (ys:=uI ((z07 (bl ahead) (bl b.rs[i].key):Nat):Int)) (enc:=zg) hs (λy3 w' hs=>?_) (by simp only [List.length_append,List.length_cons,List.length_nil];omega)
  refine zd hs ?_
  refine wp_must (by omega) ?_
  have ext:(ByteArray.extract b.rs[i].key (z07 (bl ahead) (bl b.rs[i].key)) b.rs[i].key.size).size=b.rs[i].key.size-z07 (bl ahead) (bl b.rs[i].key):=by rw [ByteArray.size_extract];omega
  have exb:bl (ByteArray.extract b.rs[i].key (z07 (bl ahead) (bl b.rs[i].key)) b.rs[i].key.size)=(bl b.rs[i].key).drop (z07 (bl ahead) (bl b.rs[i].key)):=by
   unfold bl
   rw [ByteArray.data_extract,Array.toList_extract,List.extract_eq_take_drop]
   exact List.take_of_length_le (by rw [List.length_drop];exact Nat.le_refl _)
  rw [Int.toNat_natCast]
  refine za (zox (ByteArray.extract b.rs[i].key (z07 (bl ahead) (bl b.rs[i].key)) b.rs[i].key.size) (by omega) hs) λ_ w' hs=>?_
  obtain ⟨u4_,rfl,hs⟩:=hs
  refine ze ?_
  rw [ext,exb] at hs
  have hs:Sat w' (slc T.a38 1 u4_ ((z40 ahead b.rs[i].key).flatMap zg)::_):=hs
  refine wp_app' (xs:=Z++z3b (b.rs[i].time-b.time)++[z4z b.rs[i].gone]++uI ((z07 (bl ahead) (bl b.rs[i].key):Nat):Int)) (ys:=z40 ahead b.rs[i].key) (enc:=zg) hs (λy4 w' hs=>?_) (by simp only [List.length_append,List.length_cons,List.length_nil];omega)
  refine zd hs ?_
  have hvl:=z1c ((b.rs[i].value.size:Nat):Int)
  have hvs:=z14 b.rs[i].value
  generalize hV:Z++z3b (b.rs[i].time-b.time)++[z4z b.rs[i].gone]++uI ((z07 (bl ahead) (bl b.rs[i].key):Nat):Int)++z40 ahead b.rs[i].key=V at hs
  have hVl:V.length<=300000:=by rw [<- hV];simp only [List.length_append,List.length_cons,List.length_nil];omega
  have hVr:Z++z3l b.time ahead b.rs[i]=V++if b.rs[i].gone then [] else uI b.rs[i].value.size++bl b.rs[i].value:=by
   rw [hrl,<- hV]
   simp only [List.append_assoc]
  rw [hVr]
  refine zx (λq w'=>∃ z:Sl,q=(z,())/\Sat w' (slc T.a38 1 z ((V++if b.rs[i].gone then [] else uI b.rs[i].value.size++bl b.rs[i].value).flatMap zg)::pt a0 (.cells (cB b) T.a1)::l)) ?_ ?_
  rotate_left
  ·rintro _ w2 ⟨z',rfl,hs⟩
   exact zj ⟨z',rfl,hs⟩
  refine zk (λh5=>?_) λh5=>?_
  ·have h5:b.rs[i].gone=false:=by simpa using h5
   refine zd hs ?_
   refine za (zox b.rs[i].value (by omega) hs) λ_ w' hs=>?_
   obtain ⟨u,rfl,hs⟩:=hs
   refine ze ?_
   refine wp_app' (xs:=V) (ys:=uI (b.rs[i].value.size:Nat)++bl b.rs[i].value) (enc:=zg) hs (λz7 w' hs=>?_) (by simp only [List.length_append];omega)
   refine zj ⟨z7,rfl,?_⟩
   rw [if_neg (by rw [h5];simp)]
   exact hs.sub
  ·have h5:b.rs[i].gone=true:=by simpa using h5
   refine zj ⟨y4,rfl,?_⟩
   rw [if_pos h5,List.append_nil]
   exact hs.sub
end
def z1i (s:Lf):Int × Lf:=(if (z08 s).1>2199023255552 then -1 else ((z08 s).1:Int),(z08 s).2)
theorem z58 {n:Int} (h0:0<=n) (hn:n<=2199023255552) (t:List UInt8):z1i (some (uI n++t))=(n,some t):=by
 have h1:=z5s (v:=n.toNat) (by omega) t
 unfold z1i uI
 rw [h1,if_neg (by omega)]
 simp only [Prod.mk.injEq,and_true]
 omega
def dhS (s:Lf):HdS :=
 let k:=z0m s
 let ba:=z1i k.2
 let pi:=z1i ba.2
 let ep:=if pi.1>0 then z1i pi.2 else (0,pi.2)
 let sq:=if pi.1>0/\z1y k.1=false then z1i ep.2 else (0,ep.2)
 ⟨k,ba,pi,ep,sq,z1i sq.2⟩
theorem zv4 {b:BatM} (hv:z0c b=0):∃ s1 s2 s3 s4 s5,dhS (z0m (some (z1p b))).2=⟨(b.kind.toNat,s1),(b.base,s2),(b.pid,s3),(b.epoch,s4),(b.seq,s5),(b.time,some (if z0y b then [] else uI b.rs.length++z1r b.time ⟨#[]⟩ b.rs))⟩:=by
 obtain ⟨-,-,⟨hk,hba,hpi,hep,hsq,htm⟩,hfit,-⟩:=z1e b hv
 unfold z1p
 generalize hY:(if z0y b then [] else uI b.rs.length++z1r b.time ⟨#[]⟩ b.rs)=Y
 have e1:∀ t,z0m (some (UInt8.ofNat b.kind.toNat::t))=(b.kind.toNat,some t):=λt=>by
  show ((UInt8.ofNat b.kind.toNat).toNat,some t)=_
  rw [UInt8.toNat_ofNat']
  congr 1
  omega
 have e2:=z58 (n:=b.base) hba.1 (by omega)
 have e3:=z58 (n:=b.pid) hpi.1 (by omega)
 have e4:=z58 (n:=b.epoch) hep.1 (by omega)
 have e5:=z58 (n:=b.seq) hsq.1 (by omega)
 have e6:=z58 (n:=b.time) htm.1 (by omega)
 show ∃ s1 s2 s3 s4 s5,dhS (some (UInt8.ofNat b.kind.toNat::_))=_
 unfold dhS
 simp only [e1,e2,e3,zb4 hk.1]
 by_cases hp:b.pid>0
 ·rw [if_pos hp,if_pos hp]
  by_cases hm:z0y b=true
  ·have hs0:b.seq=0:=by have:=hfit.2;rw [if_pos hm] at this;exact this.1
   simp only [hm,if_true,Bool.true_eq_false,and_false,if_false,List.append_nil,List.append_assoc,e4,e6]
   exact ⟨_,_,_,_,_,by rw [hs0]⟩
  ·have hm:z0y b=false:=by simpa using hm
   simp only [hm,hp,Bool.false_eq_true,and_self,if_true,if_false,List.append_assoc,e4,e5,e6]
   exact ⟨_,_,_,_,_,rfl⟩
 ·have h0:b.pid=0:=by omega
  have hz:b.kind=0/\b.epoch=0/\b.seq=0:=by
   have:=hfit.1
   refine ⟨?_,?_,?_⟩ <;> (apply Decidable.byContradiction;intro h;apply this;simp [h0,h])
  rw [if_neg hp,if_neg hp,if_neg (λh=>hp h.1)]
  simp only [List.nil_append,e6]
  exact ⟨_,_,_,_,_,by rw [hz.2.1,hz.2.2]⟩
def S1 (s:Lf):Lf:=(z08 s).2
def S2 (s:Lf):Lf:=(z2f (S1 s)).2
def S3 (s:Lf):Lf:=(z1i (S2 s)).2
def S4 (s:Lf):Lf:=(z0x 2000 (S3 s)).2
theorem zvm {time:Int} (ht:0<=time/\time<=1099511627776) {r:RecM} (hr:z28 r=0) (ahead:ByteArray) (hah:ahead.size<=1000000) (t:List UInt8) {s:Lf} (hs:s=some (z3l time ahead r++t)) :
  zag (z08 s).1=r.time-time/\(z2f (S1 s)).1=r.gone/\(z1i (S2 s)).1=(z07 (bl ahead) (bl r.key):Nat)/\z43 ahead (z1i (S2 s)).1 (z0x 2000 (S3 s)).1=r.key/\(z1i (S2 s)).1<=ahead.size /\
   (if r.gone=true then ((⟨#[]⟩:ByteArray),S4 s) else z0x 2000 (S4 s))=(r.value,some t):=by
 obtain ⟨h1,h2,h3,h4⟩:=z3c hr
 have hle:=z7e (bl ahead) (bl r.key)
 rw [z14,z14] at hle
 have hd:(ByteArray.mk ((bl r.key).drop (z07 (bl ahead) (bl r.key))).toArray).size=r.key.size-z07 (bl ahead) (bl r.key):=by
  show ((bl r.key).drop _).length=_
  rw [List.length_drop,z14]
 have e0:z3l time ahead r++t=z2i (zig (r.time-time))++(z4z r.gone::(uI (z07 (bl ahead) (bl r.key):Nat)++(uI ((ByteArray.mk ((bl r.key).drop (z07 (bl ahead) (bl r.key))).toArray).size:Nat)++(bl (ByteArray.mk ((bl r.key).drop (z07 (bl ahead) (bl r.key))).toArray)++((if r.gone then [] else uI r.value.size++bl r.value)++t))))):=by
  rw [hd,z7n]
  unfold z3l z40 z3b
  simp only [List.append_assoc,List.cons_append]
 rw [e0] at hs
 subst hs
 generalize hZ:(if r.gone then [] else uI r.value.size++bl r.value)++t=Z
 have hz:zig (r.time-time)<18446744073709551616:=by unfold zig;split <;> omega
 have e1:=z5s hz
 have e3:=z58 (n:=(z07 (bl ahead) (bl r.key):Nat)) (by omega) (by omega)
 have e4:=z8n (most:=2000) (ByteArray.mk ((bl r.key).drop (z07 (bl ahead) (bl r.key))).toArray) (by rw [hd];omega) (by omega)
 unfold S4 S3 S2 S1
 simp only [e1,zg3,e3,e4,zii,zo0,true_and]
 refine ⟨by omega,?_⟩
 by_cases hg:r.gone=true
 ·rw [if_pos hg] at hZ ⊢
  rw [h4 hg,<- hZ];rfl
 ·rw [if_neg hg] at hZ ⊢
  rw [<- hZ,List.append_assoc]
  exact z8n _ (by omega) (by omega) t
section
variable {w:World} {l r:List HP} {p:Nat} {s:Lf} {x:Sl} {bs:List UInt8}
theorem z75 (hcap:x.len<=x.cap) [hx:FocR r x 1 (bs.flatMap zg)] [hf:Fo l (rdY x bs) p s r] (hs:Sat w l):Ret P F.a132 #[.pointer (some ⟨p,0,none⟩)] w λvs w'=>vs=[.int .i64 (z1i s).1]/\Sat w' (rdY x bs p (z1i s).2::r) :=
 zls _ <| by
  unfold zxv
  refine za (zaj (x:=x) (bs:=bs) (p:=p) (s:=s) hcap hs) λ_ w' hs=>?_
  obtain ⟨rfl,hs⟩:=hs
  refine ze ?_
  refine wp_lt ?_
  unfold z1i
  refine zk (λh=>?_) λh=>?_
  ·rw [if_pos (by omega)]
   exact ⟨rfl,rfl,hs⟩
  ·rw [if_neg (by omega),w64 (by omega) (by omega)]
   refine wp_lt ?_
   exact ⟨rfl,rfl,hs⟩
def zdv (time:Int) (s:Lf) (rs0:List RecM):Prop:=s=some (uI rs0.length++z1r time ⟨#[]⟩ rs0)/\(∀ r ∈ rs0,z28 r=0)/\rs0.length<=64/\0<=time/\time<=1099511627776
set_option maxHeartbeats 1000000 in
theorem zz6 (time:Int) (ht:0<=time/\time<=2199023255552) (hcap:x.len<=x.cap) [hx:FocR r x 1 (bs.flatMap zg)] [hf:Fo l (rdY x bs) p s r] (hs:Sat w l) :
  Ret P F.a131 #[.pointer (some ⟨p,0,none⟩),.int .i64 time] w λvs w'=>∃ (z:Sl) (rs:List RecM) (s':Lf),vs=[z.v]/\(∀ rs0,zdv time s rs0->rs=rs0)/\Sat w' (slc T.a3 4 z (rs.flatMap z03)::rdY x bs p s'::r) :=
 zlx _ time <| by
  unfold zxf
  refine za (z75 (x:=x) (bs:=bs) (p:=p) (s:=s) hcap hs) λ_ w' hs=>?_
  obtain ⟨rfl,hs⟩:=hs
  refine ze ?_
  have htell0:∀ rs0,zdv time s rs0->(z1i s).1=(rs0.length:Nat)/\(z1i s).2=some (z1r time ⟨#[]⟩ rs0):=λrs0 h=>by
   have h64:=h.2.2.1
   have:=z58 (n:=((rs0.length:Nat):Int)) (by omega) (by omega) (z1r time ⟨#[]⟩ rs0)
   rw [h.1,this]
   exact ⟨rfl,rfl⟩
  generalize (z1i s).1=n1 at *
  generalize (z1i s).2=s1 at *
  refine wp_lt ?_
  refine zx (λq w'=>∃ (z:Sl) (rs:List RecM) (s':Lf),q=(z,())/\(∀ rs0,zdv time s rs0->rs=rs0)/\Sat w' (slc T.a3 4 z (rs.flatMap z03)::rdY x bs p s'::r)) ?_ ?_
  rotate_left
  ·rintro _ w2 ⟨z,rs,s',rfl,h1,hs⟩
   exact ⟨rfl,z,rs,s',rfl,h1,hs⟩
  have hs:Sat w' (slc T.a3 4 ⟨none,0,0⟩ (([]:List RecM).flatMap z03)::rdY x bs p s1::r):=hs.slc_nil
  refine z0e (λm v w=>∃ (done:List RecM) (z:Sl) (key:ByteArray) (si:Lf),v=(z,(key,((done.length:Int),())))/\done.length<=65/\65-done.length=m/\key.size<=2000*done.length /\
    (∀ rs0,zdv time s rs0->∃ rest,rs0=done++rest/\si=some (z1r time key rest))/\Sat w (slc T.a3 4 z (done.flatMap z03)::rdY x bs p si::r)) 65 ⟨[],⟨none,0,0⟩,⟨#[]⟩,s1,rfl,by simp,rfl,Nat.le_refl _,λrs0 h=>⟨rs0,rfl,(htell0 rs0 h).2⟩,hs⟩ ?_
  clear hs
  rintro m _ w ⟨done,z,key,si,rfl,hd,hm,hkey,hinv,hs⟩
  refine zt ?_
  obtain ⟨R,⟨hR1,hR2,hR3⟩,hs⟩:=z78 (hs.pick [1])
  refine z0p ?_
  refine zd hs ?_
  have hs:=z33 R hR1 hR2 hR3 hs
  have hs:Sat w (slc T.a3 4 z (done.flatMap z03)::rdY x bs p si::r):=hs.pick [1]
  refine zk (λh=>?_) λh=>?_
  rotate_left
  ·refine zv (zj ⟨z,done,si,rfl,λrs0 h0=>?_,hs⟩)
   obtain ⟨rest,e1,e2⟩:=hinv rs0 h0
   obtain ⟨hn,-⟩:=htell0 rs0 h0
   have hl:=congrArg List.length e1
   rw [List.length_append] at hl
   have h64:=h0.2.2.1
   have he:R.e=0:=by
    rw [e2] at hR1
    unfold stR at hR1
    split at hR1
    ·assumption
    ·cases hR1
   have:rest.length=0:=by
    apply Decidable.byContradiction
    intro h2
    apply h
    exact ⟨⟨by omega,by omega⟩,he⟩
   rw [e1,List.length_eq_zero_iff.1 this,List.append_nil]
  obtain ⟨⟨h1,h65⟩,hE⟩:=h
  have hmore:∀ rs0,zdv time s rs0->∃ r0 rest,rs0=done++r0::rest/\si=some (z3l time key r0++z1r time r0.key rest)/\z28 r0=0:=λrs0 h0=>by
   obtain ⟨rest,e1,e2⟩:=hinv rs0 h0
   obtain ⟨hn,-⟩:=htell0 rs0 h0
   cases rest with
   | nil =>
    rw [List.append_nil] at e1
    rw [e1] at hn
    omega
   | cons r0 rest=>exact ⟨r0,rest,e1,e2,h0.2.1 r0 (by rw [e1];simp)⟩
  have htel:∀ rs0,zdv time s rs0->∃ r0 rest,rs0=done++r0::rest/\zag (z08 si).1=r0.time-time/\(0<=r0.time/\r0.time<=1099511627776)/\(z2f (S1 si)).1=r0.gone/\z43 key (z1i (S2 si)).1 (z0x 2000 (S3 si)).1=r0.key/\0<=(z1i (S2 si)).1/\(z1i (S2 si)).1<=key.size /\
    (if r0.gone=true then ((⟨#[]⟩:ByteArray),S4 si) else z0x 2000 (S4 si))=(r0.value,some (z1r time r0.key rest)):=λrs0 h0=>by
   obtain ⟨r0,rest,e1,e2,e3⟩:=hmore rs0 h0
   obtain ⟨t1,t2,t3,t4,t5,t6⟩:=zvm ⟨h0.2.2.2.1,h0.2.2.2.2⟩ e3 key (by omega) _ e2
   exact ⟨r0,rest,e1,t1,(z3c e3).2.2.1,t2,t4,by rw [t3];omega,t5,t6⟩
  refine za (z031 (x:=x) (bs:=bs) (p:=p) (s:=si) hcap hs) λ_ w' hs=>?_
  obtain ⟨rfl,hs⟩:=hs
  refine ze ?_
  have hzb : -9223372036854775808<=zag (z08 si).1/\zag (z08 si).1<9223372036854775808:=by
   have:=zfa (s:=si)
   unfold zag;split <;> omega
  refine wp_lt ?_
  have hs:Sat w' (rdY x bs p (S1 si)::slc T.a3 4 z (done.flatMap z03)::r):=hs
  refine zk (λhbad=>?_) λhbad=>?_
  ·refine zv (zv ⟨rfl,⟨none,0,0⟩,[],S1 si,rfl,λrs0 h0=>?_,?_⟩)
   ·obtain ⟨r0,rest,-,t1,t2,-⟩:=htel rs0 h0
    have:=h0.2.2.2
    omega
   ·exact (show Sat w' (rdY x bs p (S1 si)::r) from hs.sub).slc_nil
  refine za (zzf (x:=x) (bs:=bs) (p:=p) (s:=S1 si) hcap hs) λ_ w' hs=>?_
  obtain ⟨rfl,hs⟩:=hs
  refine ze ?_
  have hs:Sat w' (rdY x bs p (S2 si)::slc T.a3 4 z (done.flatMap z03)::r):=hs
  refine z05 hs λa11 w' hs=>?_
  rw [w64 (by omega) (by omega)]
  refine z09 hs λw' hs=>?_
  refine za (z75 (x:=x) (bs:=bs) (p:=p) (s:=S2 si) hcap hs) λ_ w' hs=>?_
  obtain ⟨rfl,hs⟩:=hs
  refine ze ?_
  refine wp_lt ?_
  have hs:Sat w' (rdY x bs p (S3 si)::pt a11 (.cells #[.string ⟨#[]⟩,.string ⟨#[]⟩,.bool (z2f (S1 si)).1,.int .i64 (time+zag (z08 si).1)] T.a3)::slc T.a3 4 z (done.flatMap z03)::r):=hs
  refine za (zo5 (x:=x) (bs:=bs) (p:=p) (s:=S3 si) 2000 (by omega) hcap hs) λ_ w' hs=>?_
  obtain ⟨rfl,hs⟩:=hs
  refine ze ?_
  have hs:Sat w' (rdY x bs p (S4 si)::pt a11 (.cells #[.string ⟨#[]⟩,.string ⟨#[]⟩,.bool (z2f (S1 si)).1,.int .i64 (time+zag (z08 si).1)] T.a3)::slc T.a3 4 z (done.flatMap z03)::r):=hs
  refine wp_lt ?_
  have htx:(z0x 2000 (S3 si)).1.size<=2000:=by
   cases h2:(z08 (S3 si)).2 with
   | none=>rw [zg0 h2];exact Nat.zero_le _
   | some t =>
    rw [zbt h2]
    split
    ·rename_i hc
     show (List.take _ t).length<=2000
     rw [List.length_take];omega
    ·exact Nat.zero_le _
  refine zk (λhbad2=>?_) λhbad2=>?_
  ·refine zv (zv ⟨rfl,⟨none,0,0⟩,[],S4 si,rfl,λrs0 h0=>?_,?_⟩)
   ·obtain ⟨r0,rest,-,-,-,-,-,t1,t2,-⟩:=htel rs0 h0
    omega
   ·exact (show Sat w' (rdY x bs p (S4 si)::r) from hs.sub).slc_nil
  have hke:(key.extract 0 (z1i (S2 si)).1.toNat).size<=key.size:=by rw [ByteArray.size_extract];omega
  have hkey2:(key.extract 0 (z1i (S2 si)).1.toNat++(z0x 2000 (S3 si)).1).size<=2000*(done.length+1):=by rw [ByteArray.size_append];omega
  refine wp_must ⟨by omega,by omega⟩ ?_
  refine wp_must (by omega) ?_
  refine wp_lt ?_
  have hkS:z43 key (z1i (S2 si)).1 (z0x 2000 (S3 si)).1=key.extract 0 (z1i (S2 si)).1.toNat++(z0x 2000 (S3 si)).1:=rfl
  rw [<- hkS] at hkey2 ⊢
  generalize z43 key (z1i (S2 si)).1 (z0x 2000 (S3 si)).1=key2 at *
  generalize (z1i (S2 si)).1=k12 at *
  generalize htm:time+zag (z08 si).1=tm at *
  refine z0h hs λw' hs=>?_
  refine zd hs ?_
  generalize (z2f (S1 si)).1=g at *
  refine zx (λ_ w'=>Sat w' (rdY x bs p (if g=true then ((⟨#[]⟩:ByteArray),S4 si) else z0x 2000 (S4 si)).2::pt a11 (.cells #[.string key2,.string (if g=true then ((⟨#[]⟩:ByteArray),S4 si) else z0x 2000 (S4 si)).1,.bool g,.int .i64 tm] T.a3)::slc T.a3 4 z (done.flatMap z03)::r)) ?_ ?_
  ·cases g with
   | true =>
    refine z0j ?_ (by simp)
    exact zj (hs.pick [1])
   | false =>
    refine z1b ?_ (by simp)
    have hs:Sat w' (rdY x bs p (S4 si)::pt a11 (.cells #[.string key2,.string ⟨#[]⟩,.bool false,.int .i64 tm] T.a3)::slc T.a3 4 z (done.flatMap z03)::r):=hs.pick [1]
    refine za (zo5 (x:=x) (bs:=bs) (p:=p) (s:=S4 si) 2000 (by omega) hcap hs) λ_ w' hs=>?_
    obtain ⟨rfl,hs⟩:=hs
    refine ze ?_
    refine z0h hs λw' hs=>?_
    exact zj (hs.pick [1])
  clear hs
  rintro _ w hs
  refine zt ?_
  have hs:Sat w (pt a11 (.cells #[.string key2,.string (if g=true then ((⟨#[]⟩:ByteArray),S4 si) else z0x 2000 (S4 si)).1,.bool g,.int .i64 tm] T.a3)::rdY x bs p (if g=true then ((⟨#[]⟩:ByteArray),S4 si) else z0x 2000 (S4 si)).2::slc T.a3 4 z (done.flatMap z03)::r):=hs.pick [1]
  refine z02 hs ?_
  refine z1f hs (enc:=z03) (⟨key2,(if g=true then ((⟨#[]⟩:ByteArray),S4 si) else z0x 2000 (S4 si)).1,g,tm⟩:RecM) λy2 w' hs=>?_
  refine wp_app' (xs:=done) (ys:=[(⟨key2,(if g=true then ((⟨#[]⟩:ByteArray),S4 si) else z0x 2000 (S4 si)).1,g,tm⟩:RecM)]) (enc:=z03) hs (λz3 w' hs=>?_) (by simp only [List.length_cons,List.length_nil];omega)
  rw [show IntKind.wrap .i64 ((done.length:Int)+1)=((done.length+1:Nat):Int) by rw [w64 (by omega) (by omega)];omega]
  refine wp_lt ?_
  refine z0q (65-(done.length+1)) ⟨done++[(⟨key2,(if g=true then ((⟨#[]⟩:ByteArray),S4 si) else z0x 2000 (S4 si)).1,g,tm⟩:RecM)],z3,key2,(if g=true then ((⟨#[]⟩:ByteArray),S4 si) else z0x 2000 (S4 si)).2,by rw [List.length_append];rfl,by rw [List.length_append];simp;omega,by rw [List.length_append];rfl,by rw [List.length_append];exact hkey2,λrs0 h0=>?_,hs.sub⟩
  obtain ⟨r0,rest,e1,t1,-,t2,t4,-,-,t6⟩:=htel rs0 h0
  refine ⟨rest,?_,?_⟩
  ·rw [e1,List.append_assoc]
   congr 1
   rw [List.singleton_append]
   congr 1
   rw [t2,t6,t4]
   cases r0 with
   | mk k v g0 t0 =>
    simp only [RecM.mk.injEq,true_and]
    simp only at t1
    omega
  ·rw [t2,t6,t4]
end
theorem zw2 (s:Lf) : -1<=(z1i s).1/\(z1i s).1<=2199023255552:=by
 unfold z1i
 simp only
 split <;> omega
section
variable {w:World} {l r:List HP}
set_option maxHeartbeats 1000000 in
theorem ztx (x:Sl) (raw:List UInt8) (hcap:x.len<=x.cap) (hn:raw.length<=1000000000) [hx:FocR l x 1 (raw.flatMap zg)] (hs:Sat w l) :
  Ret P F.a123 #[x.v] w λvs w'=>(z3r raw=none/\vs=[.agg #[.int .i64 0,.int .i64 0,.int .i64 0,.int .i64 0,.int .i64 0,.int .i64 0,.slice none 0 0],.int .i64 6]/\Sat w' l) \/
   (∃ (b:BatM) (z:Sl),z3r raw=some b/\vs=[.agg (zw (b.at z)).toArray,.int .i64 0]/\Sat w' (slc T.a3 4 z (b.rs.flatMap z03)::l)) :=
 znn x <| by
  unfold zxp
  refine z05 hs λa0 w' hs=>?_
  refine z0b hs λa1 w' hs=>?_
  have hs:Sat w' (rdY x raw a1 (some raw)::pt a0 (.cells #[.int .i64 0,.int .i64 0,.int .i64 0,.int .i64 0,.int .i64 0,.int .i64 0,.slice none 0 0] T.a1)::l):=z33 ⟨raw,0,0⟩ rfl rfl ⟨Nat.zero_le _,hn⟩ hs
  refine za (zaw (x:=x) (bs:=raw) (p:=a1) (s:=some raw) hcap hs) λ_ w' hs=>?_
  obtain ⟨rfl,hs⟩:=hs
  refine ze ?_
  have htell:∀ b0,z0c b0=0->raw=z1p b0->∃ s1 s2 s3 s4 s5,dhS (z0m (some raw)).2=⟨(b0.kind.toNat,s1),(b0.base,s2),(b0.pid,s3),(b0.epoch,s4),(b0.seq,s5),(b0.time,some (if z0y b0 then [] else uI b0.rs.length++z1r b0.time ⟨#[]⟩ b0.rs))⟩:=λb0 h1 h2=>by
   rw [h2];exact zv4 h1
  generalize (z0m (some raw)).2=s0 at *
  refine za (zaw (x:=x) (bs:=raw) (p:=a1) (s:=s0) hcap hs) λ_ w' hs=>?_
  obtain ⟨rfl,hs⟩:=hs
  refine ze ?_
  generalize hk:z0m s0=k at *
  refine z05 hs λa4 w' hs=>?_
  refine z09 hs λw' hs=>?_
  refine za (z75 (x:=x) (bs:=raw) (p:=a1) (s:=k.2) hcap hs) λ_ w' hs=>?_
  obtain ⟨rfl,hs⟩:=hs
  refine ze ?_
  generalize hba:z1i k.2=ba at *
  refine z0h hs λw' hs=>?_
  refine za (z75 (x:=x) (bs:=raw) (p:=a1) (s:=ba.2) hcap hs) λ_ w' hs=>?_
  obtain ⟨rfl,hs⟩:=hs
  refine ze ?_
  generalize hpi:z1i ba.2=pi at *
  refine z0h hs λw' hs=>?_
  refine zd hs ?_
  have hs:Sat w' (rdY x raw a1 pi.2::pt a4 (.cells #[.int .i64 ba.1,.int .i64 pi.1,.int .i64 0,.int .i64 0,.int .i64 (k.1:Int),.int .i64 0,.slice none 0 0] T.a1)::pt a0 (.cells #[.int .i64 0,.int .i64 0,.int .i64 0,.int .i64 0,.int .i64 0,.int .i64 0,.slice none 0 0] T.a1)::l):=hs.pick [1]
  generalize hep:(if pi.1>0 then z1i pi.2 else (0,pi.2))=ep at *
  refine zx (λ_ w'=>Sat w' (rdY x raw a1 ep.2::pt a4 (.cells #[.int .i64 ba.1,.int .i64 pi.1,.int .i64 ep.1,.int .i64 0,.int .i64 (k.1:Int),.int .i64 0,.slice none 0 0] T.a1)::pt a0 (.cells #[.int .i64 0,.int .i64 0,.int .i64 0,.int .i64 0,.int .i64 0,.int .i64 0,.slice none 0 0] T.a1)::l)) ?_ ?_
  ·refine zk (λh=>?_) λh=>?_
   ·rw [if_pos h] at hep
    refine za (z75 (x:=x) (bs:=raw) (p:=a1) (s:=pi.2) hcap hs) λ_ w' hs=>?_
    obtain ⟨rfl,hs⟩:=hs
    refine ze ?_
    rw [hep] at hs ⊢
    refine z0h hs λw' hs=>?_
    exact zj (hs.pick [1])
   ·rw [if_neg h] at hep
    rw [<- hep]
    exact zj hs
  clear hs
  rintro _ w hs
  refine zt ?_
  refine zx (λq w'=>q=(decide (pi.1>0/\z1y k.1=false),())/\Sat w' (rdY x raw a1 ep.2::pt a4 (.cells #[.int .i64 ba.1,.int .i64 pi.1,.int .i64 ep.1,.int .i64 0,.int .i64 (k.1:Int),.int .i64 0,.slice none 0 0] T.a1)::pt a0 (.cells #[.int .i64 0,.int .i64 0,.int .i64 0,.int .i64 0,.int .i64 0,.int .i64 0,.slice none 0 0] T.a1)::l)) ?_ ?_
  ·refine zd hs ?_
   refine z02 hs ?_
   refine zk (λh=>?_) λh=>?_
   ·refine za (z7b ⟨ba.1,pi.1,ep.1,0,(k.1:Int),0,⟨none,0,0⟩,[]⟩ hs) λ_ w' hs=>?_
    obtain ⟨rfl,hs⟩:=hs
    refine ze ?_
    refine zj ⟨?_,hs⟩
    refine Prod.ext ?_ rfl
    show (!z1y k.1)=decide (pi.1>0/\z1y k.1=false)
    cases z1y k.1 <;> simp [h]
   ·refine zj ⟨?_,hs⟩
    refine Prod.ext ?_ rfl
    show false=decide _
    rw [decide_eq_false (λh2=>h h2.1)]
  clear hs
  rintro _ w ⟨rfl,hs⟩
  refine zt ?_
  generalize hsq:(if pi.1>0/\z1y k.1=false then z1i ep.2 else (0,ep.2))=sq at *
  refine zx (λ_ w'=>Sat w' (rdY x raw a1 sq.2::pt a4 (.cells #[.int .i64 ba.1,.int .i64 pi.1,.int .i64 ep.1,.int .i64 sq.1,.int .i64 (k.1:Int),.int .i64 0,.slice none 0 0] T.a1)::pt a0 (.cells #[.int .i64 0,.int .i64 0,.int .i64 0,.int .i64 0,.int .i64 0,.int .i64 0,.slice none 0 0] T.a1)::l)) ?_ ?_
  ·refine zk (λh=>?_) λh=>?_
   ·have h:pi.1>0/\z1y k.1=false:=by simpa using h
    rw [if_pos h] at hsq
    refine za (z75 (x:=x) (bs:=raw) (p:=a1) (s:=ep.2) hcap hs) λ_ w' hs=>?_
    obtain ⟨rfl,hs⟩:=hs
    refine ze ?_
    rw [hsq] at hs ⊢
    refine z0h hs λw' hs=>?_
    exact zj (hs.pick [1])
   ·have h:¬ (pi.1>0/\z1y k.1=false):=by simpa using h
    rw [if_neg h] at hsq
    rw [<- hsq]
    exact zj hs
  clear hs
  rintro _ w hs
  refine zt ?_
  refine za (z75 (x:=x) (bs:=raw) (p:=a1) (s:=sq.2) hcap hs) λ_ w' hs=>?_
  obtain ⟨rfl,hs⟩:=hs
  refine ze ?_
  have htmb:=zw2 sq.2
  generalize htm:z1i sq.2=tm at *
  have hH:dhS s0=⟨k,ba,pi,ep,sq,tm⟩:=by
   unfold dhS
   simp only [hk,hba,hpi,hep,hsq,htm]
  rw [hH] at htell
  clear hH
  refine z0h hs λw' hs=>?_
  have hs:Sat w' (rdY x raw a1 tm.2::pt a4 (.cells #[.int .i64 ba.1,.int .i64 pi.1,.int .i64 ep.1,.int .i64 sq.1,.int .i64 (k.1:Int),.int .i64 tm.1,.slice none 0 0] T.a1)::pt a0 (.cells #[.int .i64 0,.int .i64 0,.int .i64 0,.int .i64 0,.int .i64 0,.int .i64 0,.slice none 0 0] T.a1)::l):=hs.pick [1]
  refine zx (λq w'=>q=(decide (tm.2.isSome=true/\0<=tm.1/\z1y k.1=false),())/\Sat w' (rdY x raw a1 tm.2::pt a4 (.cells #[.int .i64 ba.1,.int .i64 pi.1,.int .i64 ep.1,.int .i64 sq.1,.int .i64 (k.1:Int),.int .i64 tm.1,.slice none 0 0] T.a1)::pt a0 (.cells #[.int .i64 0,.int .i64 0,.int .i64 0,.int .i64 0,.int .i64 0,.int .i64 0,.slice none 0 0] T.a1)::l)) ?_ ?_
  ·obtain ⟨R,⟨hR1,hR2,hR3⟩,hs⟩:=z78 hs
   have hse:tm.2.isSome=true↔R.e=0:=by
    rw [<- hR1,zlb,decide_eq_true_eq]
   refine zd hs ?_
   refine zd hs ?_
   refine z02 hs ?_
   have hs:=z33 R hR1 hR2 hR3 hs
   refine zk (λh=>?_) λh=>?_
   ·refine za (z7b ⟨ba.1,pi.1,ep.1,sq.1,(k.1:Int),tm.1,⟨none,0,0⟩,[]⟩ hs) λ_ w' hs=>?_
    obtain ⟨rfl,hs⟩:=hs
    refine ze ?_
    refine zj ⟨?_,hs⟩
    refine Prod.ext ?_ rfl
    show (!z1y k.1)=decide (tm.2.isSome=true/\0<=tm.1/\z1y k.1=false)
    have h1:=hse.2 h.1
    have h2:0<=tm.1:=h.2
    cases z1y k.1 <;> simp [h1,h2]
   ·refine zj ⟨?_,hs⟩
    refine Prod.ext ?_ rfl
    show false=decide _
    rw [decide_eq_false (λh2=>h ⟨hse.1 h2.1,h2.2.1⟩)]
  clear hs
  rintro _ w ⟨rfl,hs⟩
  refine zt ?_
  refine zx (λ_ w'=>∃ (z:Sl) (rs:List RecM) (s':Lf),(∀ b0,z0c b0=0->raw=z1p b0->rs=b0.rs)/\Sat w' (pt a4 (.cells #[.int .i64 ba.1,.int .i64 pi.1,.int .i64 ep.1,.int .i64 sq.1,.int .i64 (k.1:Int),.int .i64 tm.1,.slice z.a z.len z.cap] T.a1)::slc T.a3 4 z (rs.flatMap z03)::pt a0 (.cells #[.int .i64 0,.int .i64 0,.int .i64 0,.int .i64 0,.int .i64 0,.int .i64 0,.slice none 0 0] T.a1)::rdY x raw a1 s'::l)) ?_ ?_
  ·refine zk (λh=>?_) λh=>?_
   ·have h:tm.2.isSome=true/\0<=tm.1/\z1y k.1=false:=by simpa using h
    refine zd hs ?_
    refine za (zz6 (x:=x) (bs:=raw) (p:=a1) (s:=tm.2) tm.1 ⟨h.2.1,htmb.2⟩ hcap hs) λ_ w' hs=>?_
    obtain ⟨z,rs,s',rfl,hrs,hs⟩:=hs
    refine ze ?_
    refine z0h hs λw' hs=>?_
    refine zj ⟨z,rs,s',λb0 h1 h2=>?_,hs.sub⟩
    obtain ⟨s1,s2,s3,s4,s5,hd⟩:=htell b0 h1 h2
    obtain ⟨-,-,⟨hkb,-,-,-,-,htmq⟩,hfit,-⟩:=z1e b0 h1
    obtain ⟨h64,hrf⟩:=z2p h1
    simp only [HdS.mk.injEq] at hd
    obtain ⟨d1,d2,d3,d4,d5,d6⟩:=hd
    have hm:z0y b0=false:=by
     rw [<- zb4 hkb.1]
     rw [d1] at h
     exact h.2.2
    rw [hm,if_neg (by simp)] at d6
    refine hrs b0.rs ⟨by rw [d6],hrf,h64,h.2.1,by rw [d6];exact htmq.2⟩
   ·have h:¬ (tm.2.isSome=true/\0<=tm.1/\z1y k.1=false):=by simpa using h
    have hs2:Sat w (slc T.a3 4 ⟨none,0,0⟩ (([]:List RecM).flatMap z03)::rdY x raw a1 tm.2::pt a4 (.cells #[.int .i64 ba.1,.int .i64 pi.1,.int .i64 ep.1,.int .i64 sq.1,.int .i64 (k.1:Int),.int .i64 tm.1,.slice none 0 0] T.a1)::pt a0 (.cells #[.int .i64 0,.int .i64 0,.int .i64 0,.int .i64 0,.int .i64 0,.int .i64 0,.slice none 0 0] T.a1)::l):=hs.slc_nil
    refine zj ⟨⟨none,0,0⟩,[],tm.2,λb0 h1 h2=>?_,hs2.sub⟩
    obtain ⟨s1,s2,s3,s4,s5,hd⟩:=htell b0 h1 h2
    obtain ⟨-,-,⟨hkb,-,-,-,-,htmq⟩,hfit,-⟩:=z1e b0 h1
    simp only [HdS.mk.injEq] at hd
    obtain ⟨d1,d2,d3,d4,d5,d6⟩:=hd
    have hm:z0y b0=true:=by
     cases hq:z0y b0 with
     | true=>rfl
     | false =>
      exfalso
      apply h
      refine ⟨by rw [d6];rfl,by rw [d6];exact htmq.1,?_⟩
      rw [d1]
      show z1y b0.kind.toNat=false
      rw [zb4 hkb.1,hq]
    have:=hfit.2
    rw [hm,if_pos rfl] at this
    exact (List.length_eq_zero_iff.1 this.2).symm
  clear hs
  rintro _ w ⟨z,rs,s',hrs,hs⟩
  refine zt ?_
  refine z02 hs ?_
  have hX:∀ b0,z3r raw=some b0->(⟨ba.1,pi.1,ep.1,sq.1,(k.1:Int),tm.1,z,rs⟩:BatM).p=b0/\z0c b0=0/\z1p b0=raw:=λb0 h0=>by
   obtain ⟨v1,v2,v3⟩:=zbn h0
   obtain ⟨s1,s2,s3,s4,s5,hd⟩:=htell b0 v1 v2.symm
   obtain ⟨-,-,⟨hkb,-,-,-,-,-⟩,-,-⟩:=z1e b0 v1
   have e:=hrs b0 v1 v2.symm
   simp only [HdS.mk.injEq] at hd
   obtain ⟨d1,d2,d3,d4,d5,d6⟩:=hd
   refine ⟨?_,v1,v2⟩
   rw [<- v3,d1,d2,d3,d4,d5,d6,e]
   unfold BatM.p
   simp only [BatM.mk.injEq,true_and,and_true]
   omega
  have hcapz:=(hs.pick [1]).slc_cap
  have hXx:FocR (pt a4 (.cells #[.int .i64 ba.1,.int .i64 pi.1,.int .i64 ep.1,.int .i64 sq.1,.int .i64 (k.1:Int),.int .i64 tm.1,.slice z.a z.len z.cap] T.a1)::slc T.a3 4 z (rs.flatMap z03)::pt a0 (.cells #[.int .i64 0,.int .i64 0,.int .i64 0,.int .i64 0,.int .i64 0,.int .i64 0,.slice none 0 0] T.a1)::rdY x raw a1 s'::l) (⟨ba.1,pi.1,ep.1,sq.1,(k.1:Int),tm.1,z,rs⟩:BatM).x 4 ((⟨ba.1,pi.1,ep.1,sq.1,(k.1:Int),tm.1,z,rs⟩:BatM).rs.flatMap z03):=by
   show FocR _ z 4 (rs.flatMap z03)
   infer_instance
  refine za (za1 ⟨ba.1,pi.1,ep.1,sq.1,(k.1:Int),tm.1,z,rs⟩ hs) λ_ w' hs=>?_
  rcases hs with ⟨hbad,rfl,hs⟩|⟨hv,z2,rfl,hs⟩
  ·refine ⟨(⟨none,0,0⟩,z0c ⟨ba.1,pi.1,ep.1,sq.1,(k.1:Int),tm.1,z,rs⟩,()),rfl,trivial,z37 _ _ ?_⟩
   refine wp_lt ?_
   refine z7z (⟨#[]⟩:ByteArray) (by simpa using hbad) ?_
   refine z7z (⟨#[]⟩:ByteArray) (by simpa using hbad) ?_
   refine z1b ?_ (.inl hbad)
   refine z09 hs λw' hs=>?_
   refine z02 hs ?_
   refine ⟨rfl,.inl ⟨?_,rfl,hs.sub⟩⟩
   cases hq:z3r raw with
   | none=>rfl
   | some b0 =>
    obtain ⟨e1,e2,-⟩:=hX b0 hq
    exfalso
    apply hbad
    rw [<- zyk,e1];exact e2
  ·refine ⟨(z2,0,()),rfl,trivial,z37 _ _ ?_⟩
   refine wp_lt ?_
   refine z93 (bs:=z1p ⟨ba.1,pi.1,ep.1,sq.1,(k.1:Int),tm.1,z,rs⟩) hs ?_
   refine z93 (bs:=raw) hs ?_
   have hcmp:(⟨(z1p ⟨ba.1,pi.1,ep.1,sq.1,(k.1:Int),tm.1,z,rs⟩).toArray⟩:ByteArray)=⟨raw.toArray⟩↔z1p ⟨ba.1,pi.1,ep.1,sq.1,(k.1:Int),tm.1,z,rs⟩=raw:=by
    constructor
    ·intro e
     have e2:=congrArg bl e
     rwa [z7n,z7n] at e2
    ·intro e;rw [e]
   refine zk (λh=>?_) λh=>?_
   ·have h:¬ z1p ⟨ba.1,pi.1,ep.1,sq.1,(k.1:Int),tm.1,z,rs⟩=raw:=λe=>by
     rcases h with h|h
     ·exact h rfl
     ·exact h (hcmp.2 e)
    refine z09 hs λw' hs=>?_
    refine z02 hs ?_
    refine ⟨rfl,.inl ⟨?_,rfl,hs.sub⟩⟩
    cases hq:z3r raw with
    | none=>rfl
    | some b0 =>
     obtain ⟨e1,-,e3⟩:=hX b0 hq
     exfalso
     apply h
     rw [<- z00y,e1];exact e3
   ·have h:z1p ⟨ba.1,pi.1,ep.1,sq.1,(k.1:Int),tm.1,z,rs⟩=raw:=by
     apply Decidable.byContradiction
     intro e
     exact h (.inr λh2=>e (hcmp.1 h2))
    refine z02 hs ?_
    refine z09 hs λw' hs=>?_
    refine z02 hs ?_
    have hs3:Sat w' (slc T.a3 4 z (rs.flatMap z03)::l):=hs.sub
    refine ⟨rfl,.inr ⟨(⟨ba.1,pi.1,ep.1,sq.1,(k.1:Int),tm.1,z,rs⟩:BatM).p,z,?_,rfl,hs3⟩⟩
    rw [<- h]
    exact zck hv
end
def zj7 (b:BatM) (k:Nat):BatM:=⟨b.base+k,b.pid,b.epoch,if b.pid>0 then b.seq+k else b.seq,b.kind,b.time,b.x,b.rs.drop k⟩
def z17 (off:Int) (b:BatM):Option BatM:=if z0c b≠0\/off>=z4a b then none else if z0y b=true\/off<=b.base then some b else some (zj7 b (off-b.base).toNat)
def rsP (b:BatM):HP:=slc T.a3 4 b.x (b.rs.flatMap z03)
def z0a (bs:List BatM):HP:=HP.all (bs.map rsP)
section
variable {w:World} {l r:List HP}
theorem zzd (b:BatM) [hb:FocR l b.x 4 (b.rs.flatMap z03)] (hlen:b.rs.length<=1000000) (hs:Sat w l):Ret P F.a34 #[.agg (zw b).toArray] w λvs w'=>∃ z:Sl,vs=[.agg (zw (b.at z)).toArray]/\Sat w' (slc T.a3 4 z (b.rs.flatMap z03)::l) :=
 zp1 b.base b.pid b.epoch b.seq b.kind b.time b.x <| by
  unfold z00e
  refine z0b hs λa0 w' hs=>?_
  refine z05 hs λa1 w' hs=>?_
  refine zd hs ?_
  have hs:Sat w' (slc T.a3 4 ⟨none,0,0⟩ (([]:List RecM).flatMap z03)::_):=hs.slc_nil
  refine wp_app' (x:=⟨none,0,0⟩) (xs:=([]:List RecM)) (ys:=b.rs) (enc:=z03) hs (λz w' hs=>?_) (by simp only [List.length_nil];omega)
  rw [List.nil_append] at hs
  refine z0h hs λw' hs=>?_
  refine z02 hs ?_
  refine z09 hs λw' hs=>?_
  refine z02 hs ?_
  refine ⟨rfl,z,rfl,?_⟩
  exact hs.sub
theorem zyz (b:BatM) (k:Nat) (hk:k<=b.rs.length) (hcap:b.x.len<=b.x.cap) (hv:z0c b=0) [hb:FocR l b.x 4 (b.rs.flatMap z03)] (hs:Sat w l):Ret P F.a45 #[.agg (zw b).toArray,.int .i64 (k:Int),.int .i64 (b.x.len:Nat)] w λvs w'=>∃ z:Sl,vs=[.agg (zw ((zj7 b k).at z)).toArray]/\Sat w' (slc T.a3 4 z ((b.rs.drop k).flatMap z03)::l) :=
 zry b.base b.pid b.epoch b.seq b.kind b.time b.x _ _ <| by
  unfold z00m
  have hl:=hs.slen b.x (xs:=b.rs) (enc:=z03)
  obtain ⟨h64,-⟩:=z2p hv
  obtain ⟨-,-,⟨-,hba,hpi,-,hsq,-⟩,-,-⟩:=z1e b hv
  refine z0b hs λa0 w' hs=>?_
  refine z05 hs λa1 w' hs=>?_
  refine z02 hs ?_
  refine z05 hs λa9 w' hs=>?_
  refine z09 hs λw' hs=>?_
  refine zd hs ?_
  refine wp_must (by omega) ?_
  rw [Int.toNat_natCast,Int.toNat_natCast]
  have hf:FocR (pt a9 (.cells #[.int .i64 b.base,.int .i64 b.pid,.int .i64 b.epoch,.int .i64 b.seq,.int .i64 b.kind,.int .i64 b.time,.slice b.x.a b.x.len b.x.cap] T.a1)::pt a1 (.cells #[.int .i64 0,.int .i64 0,.int .i64 0,.int .i64 0,.int .i64 0,.int .i64 0,.slice none 0 0] T.a1)::pt a0 (.cells #[.int .i64 b.base,.int .i64 b.pid,.int .i64 b.epoch,.int .i64 b.seq,.int .i64 b.kind,.int .i64 b.time,.slice b.x.a b.x.len b.x.cap] T.a1)::l) ⟨z1g b.x.a 4 k b.x.cap,b.x.len-k,b.x.cap-k⟩ 4 ((b.rs.drop k).flatMap z03):=FocR.post hcap
  have hs:Sat w' (slc T.a3 4 ⟨none,0,0⟩ (([]:List RecM).flatMap z03)::_):=hs.slc_nil
  refine wp_app' (x:=⟨none,0,0⟩) (y:=⟨z1g b.x.a 4 k b.x.cap,b.x.len-k,b.x.cap-k⟩) (xs:=([]:List RecM)) (ys:=b.rs.drop k) (enc:=z03) hs (λz w' hs=>?_) (by simp only [List.length_nil,List.length_drop];omega)
  rw [List.nil_append] at hs
  refine z0h hs λw' hs=>?_
  refine zd hs ?_
  rw [w64 (by omega) (by omega)]
  refine z0h hs λw' hs=>?_
  refine zd hs ?_
  refine zx (λ_ w'=>Sat w' (pt a9 (.cells [.int .i64 (b.base+k),.int .i64 b.pid,.int .i64 b.epoch,.int .i64 (if b.pid>0 then b.seq+k else b.seq),.int .i64 b.kind,.int .i64 b.time,.slice z.a z.len z.cap].toArray T.a1)::slc T.a3 4 z ((b.rs.drop k).flatMap z03)::pt a1 (.cells #[.int .i64 0,.int .i64 0,.int .i64 0,.int .i64 0,.int .i64 0,.int .i64 0,.slice none 0 0] T.a1)::l)) ?_ ?_
  ·refine zk (λh=>?_) λh=>?_
   ·refine zd hs ?_
    rw [w64 (by omega) (by omega)]
    refine z0h hs λw' hs=>?_
    refine zj ?_
    rw [if_pos h]
    exact hs.sub
   ·refine zj ?_
    rw [if_neg h]
    exact hs.sub
  clear hs
  rintro _ w2 hs
  refine z02 hs ?_
  refine z09 hs λw' hs=>?_
  refine z02 hs ?_
  refine ⟨rfl,z,rfl,?_⟩
  exact hs.sub
theorem zyb (b:BatM) (off:Int) (ho : -9223372036854775808<=off/\off<9223372036854775808) (hcap:b.x.len<=b.x.cap) [hb:FocR l b.x 4 (b.rs.flatMap z03)] (hs:Sat w l):Ret P F.a37 #[.agg (zw b).toArray,.int .i64 off] w λvs w' =>
  (z17 off b=none/\vs=[.agg (zw zs6).toArray,.bool false]/\Sat w' l)\/(∃ (c:BatM) (z:Sl),z17 off b=some c/\vs=[.agg (zw (c.at z)).toArray,.bool true]/\Sat w' (slc T.a3 4 z (c.rs.flatMap z03)::l)) :=
 zrg b.base b.pid b.epoch b.seq b.kind b.time b.x off <| by
  unfold z020
  have hl:=hs.slen b.x (xs:=b.rs) (enc:=z03)
  refine z0b hs λa0 w' hs=>?_
  refine z05 hs λa1 w' hs=>?_
  refine zx (λq w'=>q=(decide (z0c b≠0\/off>=z4a b),())/\Sat w' (pt a1 (.cells #[.int .i64 0,.int .i64 0,.int .i64 0,.int .i64 0,.int .i64 0,.int .i64 0,.slice none 0 0] T.a1)::pt a0 (.cells (cB b) T.a1)::l)) ?_ ?_
  ·refine z02 hs ?_
   refine za (zdq b hs) λ_ w' hs=>?_
   obtain ⟨rfl,hs⟩:=hs
   refine ze ?_
   refine z02 hs ?_
   refine zk (λh=>?_) λh=>?_
   ·exact zj ⟨by rw [decide_eq_true (.inl h)],hs⟩
   ·refine za (zgv b hs) λ_ w' hs=>?_
    obtain ⟨rfl,hs⟩:=hs
    refine ze ?_
    refine wp_lt ?_
    refine zj ⟨?_,hs⟩
    rw [decide_eq_decide.2 (show (z0c b≠0\/off>=z4a b)↔off>=z4a b from ⟨λhh=>hh.resolve_left h,.inr⟩)]
  rintro _ w2 ⟨rfl,hs⟩
  refine zk (λh=>?_) λh=>?_
  ·have h:z0c b≠0\/off>=z4a b:=by simpa using h
   refine z09 hs λw' hs=>?_
   refine z02 hs ?_
   refine ⟨rfl,.inl ⟨by unfold z17;rw [if_pos h],rfl,hs.tail.tail⟩⟩
  have h:¬ (z0c b≠0\/off>=z4a b):=by simpa using h
  have hv:z0c b=0:=Decidable.byContradiction λhh=>h (.inl hh)
  have hno:off<z4a b:=by
   apply Decidable.byContradiction;intro hh;exact h (.inr (by omega))
  have hnx:z4a b=b.base+z0d b:=by unfold z4a;rw [if_neg (by rw [hv];simp)]
  obtain ⟨h64,-⟩:=z2p hv
  obtain ⟨-,-,⟨-,hba,-⟩,-,-⟩:=z1e b hv
  refine z02 hs ?_
  refine za (z7f b hs) λ_ w' hs=>?_
  obtain ⟨rfl,hs⟩:=hs
  refine ze ?_
  refine zd hs ?_
  refine wp_lt ?_
  refine zk (λh2=>?_) λh2=>?_
  ·refine z02 hs ?_
   refine za (zzd b (by omega) hs) λ_ w' hs=>?_
   obtain ⟨z,rfl,hs⟩:=hs
   refine ⟨(b.base,b.pid,b.epoch,b.seq,b.kind,b.time,z,()),rfl,trivial,zbf _ _ _ _ _ _ _ ?_⟩
   refine z09 hs λw' hs=>?_
   refine z02 hs ?_
   refine ⟨rfl,.inr ⟨b,z,by unfold z17;rw [if_neg h,if_pos h2],rfl,hs.sub⟩⟩
  ·have hm:z0y b=false:=by
    cases hm:z0y b with
    | false=>rfl
    | true=>exact absurd (.inl hm) h2
   have hob:¬ off<=b.base:=λhh=>h2 (.inr hh)
   have hsp:z0d b=b.rs.length:=by unfold z0d;rw [hm];simp
   refine z02 hs ?_
   refine zd hs ?_
   refine zd hs ?_
   rw [w64 (by omega) (by omega)]
   have eo:off-b.base=(((off-b.base).toNat:Nat):Int):=by omega
   rw [eo]
   refine za (zyz b (off-b.base).toNat (by omega) hcap hv hs) λ_ w' hs=>?_
   obtain ⟨z,rfl,hs⟩:=hs
   refine ⟨(b.base+(off-b.base).toNat,b.pid,b.epoch,(if b.pid>0 then b.seq+(off-b.base).toNat else b.seq),b.kind,b.time,z,()),rfl,trivial,zbf _ _ _ _ _ _ _ ?_⟩
   refine z09 hs λw' hs=>?_
   refine z02 hs ?_
   refine ⟨rfl,.inr ⟨zj7 b (off-b.base).toNat,z,by unfold z17;rw [if_neg h,if_neg h2],rfl,(show Sat w' (slc T.a3 4 z ((b.rs.drop (off-b.base).toNat).flatMap z03)::l) from hs.sub)⟩⟩
end
def z3e (s:SegA) (k:Nat):Nat:=(shL s.base s.fin).length+((s.bs.take k).flatMap frL).length
def z0o (l:List SegA):List BatM:=l.flatMap SegA.bs
def zdu (l:List SegA) (off most:Int):Int × List BatM:=if most<1 then (2,[]) else if off<z2s l\/off>z01 l then (8,[]) else (0,((z0o l).filterMap (z17 off)).take most.toNat)
def ztn (s:SegA) (o:Option EntA):Int:=match o with
 | none=>((shL s.base s.fin).length:Int)
 | some e=>e.place
theorem zsi (s:SegA):z3e s 0=(shL s.base s.fin).length:=by simp [z3e]
theorem zue (s:SegA):z3e s s.bs.length=s.file.length:=by unfold z3e;rw [List.take_length,z2n]
theorem zhs (s:SegA) {k:Nat} (hk:k<s.bs.length):z3e s (k+1)=z3e s k+(frL s.bs[k]).length:=by
 unfold z3e
 rw [List.take_succ_eq_append_getElem hk,List.flatMap_append,List.length_append]
 simp
 omega
theorem zha (s:SegA) (k:Nat):z3e s k<=s.file.length:=by
 unfold z3e
 rw [z2n]
 have:(s.bs.flatMap frL)=(s.bs.take k).flatMap frL++(s.bs.drop k).flatMap frL:=by rw [<- List.flatMap_append,List.take_append_drop]
 rw [this,List.length_append];omega
theorem ztj (s:SegA) (k:Nat):s.file.drop (z3e s k)=(s.bs.drop k).flatMap frL:=by
 have e:s.file=(shL s.base s.fin++(s.bs.take k).flatMap frL)++(s.bs.drop k).flatMap frL:=by
  unfold SegA.file
  rw [List.append_assoc,<- List.flatMap_append,List.take_append_drop]
 rw [e]
 exact List.drop_left' (by rw [List.length_append];rfl)
theorem zoy {s:SegA} (h:SegOk s) {k:Nat} (hk:k<s.bs.length):z10 (s.file.drop (z3e s k))=some (z1p s.bs[k],(frL s.bs[k]).length)/\z3r (z1p s.bs[k])=some s.bs[k]:=by
 obtain ⟨hv,hp⟩:=h.bs.valid s.bs[k] (List.getElem_mem hk)
 have hl:=z4g hv
 have hf:=z3q hv
 refine ⟨?_,by rw [zck hv,hp]⟩
 rw [ztj,List.drop_eq_getElem_cons hk,List.flatMap_cons,hf.2]
 exact z6n hl.2 _
theorem z25.lt:∀ {n:Int} {bs:List BatM},z25 n bs->∀ (j i:Nat) (hi:i<bs.length) (hj:j<i),n<=(bs[j]'(by omega)).base/\(bs[j]'(by omega)).base+z0d (bs[j]'(by omega))<=bs[i].base
 | n,b::bs,⟨h1,h2,h3,h4⟩,0,i+1,hi,hj=>by
  refine ⟨h3,?_⟩
  simp only [List.getElem_cons_zero,List.getElem_cons_succ]
  have hi:i<bs.length:=by simpa using hi
  obtain ⟨s1,-,-,-,-⟩:=z1e b h1
  cases i with
  | zero =>
   cases bs with
   | nil=>simp at hi
   | cons c cs=>exact h4.2.2.1
  | succ i =>
   have:=(h4.lt 0 (i+1) hi (by omega)).1
   have h5:=(h4.lt 0 (i+1) hi (by omega)).2
   obtain ⟨s2,-,-,-,-⟩:=z1e _ (h4.valid _ (List.getElem_mem (show 0<bs.length by omega))).1
   omega
 | n,b::bs,⟨h1,h2,h3,h4⟩,j+1,i+1,hi,hj=>by
  simp only [List.getElem_cons_succ]
  have hi:i<bs.length:=by simpa using hi
  have:=h4.lt j i hi (by omega)
  obtain ⟨s1,-,-,-,-⟩:=z1e b h1
  exact ⟨by omega,this.2⟩
theorem z25.le_next {n:Int} {bs:List BatM} (h:z25 n bs) {b:BatM} (hb:b ∈ bs):b.base+z0d b<=z0n bs:=by
 obtain ⟨j,hj,rfl⟩:=List.mem_iff_getElem.1 hb
 have hne:bs≠[]:=by rintro rfl;simp at hj
 have e:z0n bs=(bs[bs.length-1]'(by omega)).base+z0d (bs[bs.length-1]'(by omega)):=by
  unfold z0n
  rw [List.getLast?_eq_getElem?,List.getElem?_eq_getElem (by omega)]
 rw [e]
 by_cases hjl:j=bs.length-1
 ·subst hjl;exact Int.le_refl _
 ·have:=(h.lt j (bs.length-1) (by omega) (by omega)).2
  obtain ⟨s1,-,-,-,-⟩:=z1e _ (h.valid _ (List.getElem_mem (show bs.length-1<bs.length by omega))).1
  omega
theorem zgc {off:Int} {b:BatM} (hv:z0c b=0) (h:b.base+z0d b<=off):z17 off b=none:=by
 unfold z17
 rw [if_pos (.inr (by unfold z4a;rw [if_neg (by rw [hv];simp)];exact h))]
theorem zop {off:Int} {b c:BatM} (hp:b.p=b) (h:z17 off b=some c):c.p=c:=by
 have hx:b.x=z7l:=by rw [<- hp];rfl
 unfold z17 at h
 split at h
 ·cases h
 ·split at h
  ·simp only [Option.some.injEq] at h;subst h;exact hp
  ·simp only [Option.some.injEq] at h;subst h;unfold zj7 BatM.p;simp only [hx];rfl
theorem zar {α β:Type} {f:α->Option β} {l:List α} (h:∀ x ∈ l,f x=none):l.filterMap f=[]:=by
 rw [List.filterMap_eq_nil_iff];exact h
theorem zsq {s:SegA} (h:SegOk s) (hl:s.file.length<=4194304) (gap off:Int):∃ k,k<=s.bs.length/\ztn s (z3j (s.idx gap).l off)=((z3e s k:Nat):Int)/\∀ b ∈ s.bs.take k,b.base+z0d b<=off:=by
 have hi:=zjl gap s.bs.length (n:=s.base) (q:=(shL s.base s.fin).length) rfl h.base.1 (by omega) h.bs (by have:=z2n s;omega)
 cases hf:z3j (s.idx gap).l off with
 | none=>exact ⟨0,Nat.zero_le _,by rw [zsi];rfl,by simp⟩
 | some e =>
  unfold z3j at hf
  obtain ⟨a,c,hac,he,-⟩:=zlq hf
  have he:e.offset<=off:=by simpa using he
  obtain ⟨i,hil,hie⟩:=hi.ent e (by show e ∈ (s.idx gap).l;rw [hac];simp)
  refine ⟨i,by omega,?_,λb hb=>?_⟩
  ·show e.place=_
   rw [hie]
   unfold z3e
   simp only
   omega
  ·obtain ⟨j,hj,rfl⟩:=List.mem_iff_getElem.1 hb
   rw [List.length_take] at hj
   rw [List.getElem_take]
   have:=(h.bs.lt j i hil (by omega)).2
   rw [hie] at he
   simp only at he
   omega
theorem z0k.skip:∀ {n:Int} {l:List SegA},z0k n l->∀ (i j:Nat) (hj:j<l.length) (hi:i<j),(l[i]'(by omega)).reach<=l[j].base/\(l[i]'(by omega)).base<l[j].base
 | n,s::l,⟨h1,h2,h3⟩,0,j+1,hj,_=>by
  have hj:j<l.length:=by simpa using hj
  have:=(h3.mem l[j] (List.getElem_mem hj)).2
  simp only [List.getElem_cons_zero,List.getElem_cons_succ]
  omega
 | n,s::l,⟨h1,h2,h3⟩,i+1,j+1,hj,hi=>by
  simp only [List.getElem_cons_succ]
  exact h3.skip i j (by simpa using hj) (by omega)
theorem zur {l:List SegA} (hok:z0k 0 l) {off:Int} {i:Nat} (hi:i<l.length) (hb:l[i].base<=off\/i=0):(z0o l).filterMap (z17 off)=(z0o (l.drop i)).filterMap (z17 off):=by
 have e:z0o l=z0o (l.take i)++z0o (l.drop i):=by unfold z0o;rw [<- List.flatMap_append,List.take_append_drop]
 rw [e,List.filterMap_append,zar (l:=z0o (l.take i)),List.nil_append]
 intro b hb'
 obtain ⟨s,hs,hbs⟩:=List.mem_flatMap.1 hb'
 obtain ⟨j,hj,rfl⟩:=List.mem_iff_getElem.1 hs
 rw [List.length_take] at hj
 rw [List.getElem_take] at hbs
 have h1:=(hok.skip j i hi (by omega)).1
 have hsg:=(hok.mem (l[j]'(by omega)) (List.getElem_mem _)).1
 have h2:=hsg.bs.le_next hbs
 have h3:=(z59 hsg).2.2.1
 refine zgc (hsg.bs.valid b hbs).1 ?_
 rcases hb with hb|hb
 ·omega
 ·omega
theorem zgr {s:SegA} (h:SegOk s):s.bs.length*10<=s.file.length:=by
 have:=z99 h.bs
 rw [z2n];omega
def z0t (pre:ByteArray):List ByteArray->DiskA->Int × List Int × DiskA
 | [],D=>(0,[],D)
 | n::ns,D=>if (z1j pre n z1u).isSome=true/\(z0v D n).1≠0 then ((z0v D n).1,[],(z0v D n).2) else
  ((z0t pre ns (if (z1j pre n z1u).isSome then (z0v D n).2 else D)).1,(match z1j pre n zu with|some b=>[(b:Int)]|none=>[])++(z0t pre ns (if (z1j pre n z1u).isSome then (z0v D n).2 else D)).2.1,(z0t pre ns (if (z1j pre n z1u).isSome then (z0v D n).2 else D)).2.2)
def z2d (pre:ByteArray):List Int->DiskA->Int × DiskA
 | [],D=>(0,D)
 | b::bs,D=>if (z0v D (zi pre b zu)).1≠0 then z0v D (zi pre b zu) else z2d pre bs (z0v D (zi pre b zu)).2
def z1k (pre:ByteArray) (l:List SegA) (D:DiskA) (base:Int):(Bool × Int) × List SegA × DiskA:=match z06 D.fs (zi pre base zu) with
 | none=>((false,3),l,D)
 | some p=>match z2m base p.1 with
  | none=>((false,(z0v D (zi pre base zu)).1),l,(z0v D (zi pre base zu)).2)
  | some q=>if q.2=p.1.length then ((true,0),l++[q.1],D) else ((false,(cutA' D (zi pre base zu) (q.2:Nat)).1),l++[q.1],(cutA' D (zi pre base zu) (q.2:Nat)).2)
def z2a (pre:ByteArray):List Int->List SegA->DiskA->Int × List SegA × DiskA
 | [],l,D=>(0,l,D)
 | b::bs,l,D=>if b<z01 l then (if (z0v D (zi pre b zu)).1≠0 then ((z0v D (zi pre b zu)).1,l,(z0v D (zi pre b zu)).2) else z2a pre bs l (z0v D (zi pre b zu)).2) else
  if (z1k pre l D b).1.2≠0 then ((z1k pre l D b).1.2,(z1k pre l D b).2) else
  if (z1k pre l D b).1.1=true then z2a pre bs (z1k pre l D b).2.1 (z1k pre l D b).2.2 else ((z2d pre bs (z1k pre l D b).2.2).1,(z1k pre l D b).2.1,(z2d pre bs (z1k pre l D b).2.2).2)
def z36 (pre:ByteArray) (D:DiskA):Int × List SegA × DiskA :=
 if (z0t pre (z12 (z13 pre) D.fs) D).1≠0 then ((z0t pre (z12 (z13 pre) D.fs) D).1,[],(z0t pre (z12 (z13 pre) D.fs) D).2.2) else
  z2a pre (z0t pre (z12 (z13 pre) D.fs) D).2.1 [] (z0t pre (z12 (z13 pre) D.fs) D).2.2
theorem zym (pre:ByteArray):pre++ByteArray.mk #[45]=z13 pre:=by
 apply z9j
 rw [zh2]
 unfold bl
 simp
theorem zvs {pre n:ByteArray} {x:List UInt8} {v:Nat} (h:z1j pre n x=some v):v<17592186044416:=by
 unfold z1j at h
 split at h
 ·have:=zgt (k:=0) h (by omega)
  have h2:16 ^ (0+(((bl n).drop ((bl pre).length+1)).take 11).length)<=16 ^ 11:=Nat.pow_le_pow_right (by omega) (by rw [List.length_take];omega)
  omega
 ·cases h
theorem zi1 {pre:ByteArray}:∀ {ns:List ByteArray} {D:DiskA},∀ b ∈ (z0t pre ns D).2.1,0<=b/\b<17592186044416
 | [],D,b,h=>by cases h
 | n::ns,D,b,h=>by
  unfold z0t at h
  split at h
  ·cases h
  ·simp only at h
   rcases List.mem_append.1 h with h|h
   ·cases hb:z1j pre n zu with
    | none=>rw [hb] at h;cases h
    | some v =>
     rw [hb] at h
     simp only [List.mem_cons,List.not_mem_nil,or_false] at h
     have:=zvs hb
     omega
   ·exact zi1 b h
theorem zfy {pre:ByteArray}:∀ {ns:List ByteArray} {D:DiskA},(z0t pre ns D).2.1.length<=ns.length
 | [],D=>Nat.le_refl _
 | n::ns,D=>by
  unfold z0t
  split
  ·exact Nat.zero_le _
  ·simp only [List.length_append,List.length_cons]
   have:=zfy (pre:=pre) (ns:=ns) (D:=if (z1j pre n z1u).isSome then (z0v D n).2 else D)
   split <;> simp <;> omega
section
variable {w:World} {l r:List HP} {lg:Nat} {M:LogM} {A:LogA} {D:DiskA} {gap:Int} {a:Nat} {t:SegM}
def lgR (M:LogM):HP:=HP.star (slc T.a17 1 M.z ((M.SM.map Prod.fst).flatMap z1x)) (HP.all (M.SM.map λt=>z11 M.gap t.1 t.2))
theorem z96 (hs:Sat w (lgQ lg M::l)):okM M.gap M.seg M.pre/\Sat w (pt lg (.cells #[.pointer (some ⟨M.d,0,none⟩),.string M.pre,.int .i64 M.seg,.int .i64 M.gap,.slice M.z.a M.z.len M.z.cap] T.a29)::lgR M::l):=by
 obtain ⟨h,hs⟩:=hs.and
 exact ⟨h,hs.star⟩
theorem z55 (M:LogM) (h:okM M.gap M.seg M.pre) (hs:Sat w (pt lg (.cells #[.pointer (some ⟨M.d,0,none⟩),.string M.pre,.int .i64 M.seg,.int .i64 M.gap,.slice M.z.a M.z.len M.z.cap] T.a29)::lgR M::l)):Sat w (lgQ lg M::l):=.and_mk h (.star_mk hs)
theorem zyp {r1:List HP} [hf:Fo l lgQ lg M r1] [hf2:Fo r1 dk M.d D r] (hs:Sat w l) :
  Ret P F.a61 #[.pointer (some ⟨lg,0,none⟩)] w λvs w' =>
   ((z0t M.pre (z12 (z13 M.pre) D.fs) D).1≠0/\vs=[.slice none 0 0,.int .i64 (z0t M.pre (z12 (z13 M.pre) D.fs) D).1]/\Sat w' (lgQ lg M::dk M.d (z0t M.pre (z12 (z13 M.pre) D.fs) D).2.2::r)) \/
   ((z0t M.pre (z12 (z13 M.pre) D.fs) D).1=0/\∃ z:Sl,vs=[z.v,.int .i64 0]/\Sat w' (slc T.a11 1 z ((z0t M.pre (z12 (z13 M.pre) D.fs) D).2.1.flatMap z2t)::lgQ lg M::dk M.d (z0t M.pre (z12 (z13 M.pre) D.fs) D).2.2::r)) :=
 zrc _ <| by
  unfold z02o
  have hs:=hs.perm (hf.perm.trans (.cons _ hf2.perm))
  clear hf hf2
  obtain ⟨hokm,hs⟩:=z96 hs
  have hsz:=hokm.size
  refine z0i hs λw' hs=>?_
  refine zy ?_
  refine zd hs ?_
  refine zy ?_
  refine zd hs ?_
  refine wp_must (by omega) ?_
  rw [zym]
  obtain ⟨m_,FS_,-,hokD,-⟩:=z2l (hs.pick [2])
  have hok24:∀ n ∈ z12 (z13 M.pre) D.fs,n.size<=24:=λn hn=>by
   unfold z12 at hn
   obtain ⟨f,hf,rfl⟩:=List.mem_map.1 (List.mem_filter.1 hn).1
   exact hokD.names f hf
  have hnl:(z12 (z13 M.pre) D.fs).length<=128:=by
   unfold z12
   exact Nat.le_trans (List.length_filter_le _ _) (by rw [List.length_map];exact hokD.many)
  refine za (zh6 (d:=M.d) (A:=D) (z13 M.pre) hs) λ_ w' hs=>?_
  obtain ⟨x,rfl,hs⟩:=hs
  refine ze ?_
  refine zm ?_
  generalize z12 (z13 M.pre) D.fs=ns at *
  have hl:=hs.slen x (xs:=ns) (enc:=z2o)
  refine zx (λq w'=>∃ z:Sl,q=(z,())/\(z0t M.pre ns D).1=0/\Sat w' (slc T.a11 1 z ((z0t M.pre ns D).2.1.flatMap z2t)::lgQ lg M::dk M.d (z0t M.pre ns D).2.2::r)) ?_ ?_
  rotate_left
  ·rintro _ w2 ⟨z,rfl,h1,hs⟩
   exact ⟨rfl,.inr ⟨h1,z,rfl,hs⟩⟩
  have hs:Sat w' (slc T.a11 1 ⟨none,0,0⟩ (([]:List Int).flatMap z2t)::dk M.d D::pt lg (.cells #[.pointer (some ⟨M.d,0,none⟩),.string M.pre,.int .i64 M.seg,.int .i64 M.gap,.slice M.z.a M.z.len M.z.cap] T.a29)::lgR M::slc T.a32 1 x (ns.flatMap z2o)::r):=by
   have h1:Sat w' (slc T.a11 1 ⟨none,0,0⟩ (([]:List Int).flatMap z2t)::_):=hs.slc_nil
   exact h1.sub
  refine z0e (λm v w=>∃ (i:Nat) (z:Sl) (done:List Int) (D':DiskA),v=(z,((i:Int),()))/\i<=ns.length/\ns.length-i=m/\done.length<=i /\
   ((z0t M.pre ns D).1=(z0t M.pre (ns.drop i) D').1/\(z0t M.pre ns D).2.2=(z0t M.pre (ns.drop i) D').2.2/\((z0t M.pre (ns.drop i) D').1=0->(z0t M.pre ns D).2.1=done++(z0t M.pre (ns.drop i) D').2.1)) /\
   Sat w (slc T.a11 1 z (done.flatMap z2t)::dk M.d D'::pt lg (.cells #[.pointer (some ⟨M.d,0,none⟩),.string M.pre,.int .i64 M.seg,.int .i64 M.gap,.slice M.z.a M.z.len M.z.cap] T.a29)::lgR M::slc T.a32 1 x (ns.flatMap z2o)::r)) ns.length
   ⟨0,⟨none,0,0⟩,[],D,rfl,by omega,rfl,by simp,⟨rfl,rfl,λ_=>rfl⟩,hs⟩ ?_
  clear hs
  rintro m _ w ⟨i,z,done,D',rfl,hi,hm,hdl,⟨hq1,hq2,hq3⟩,hs⟩
  refine zt ?_
  refine zk (λhc=>?_) λhc=>?_
  rotate_left
  ·have e:ns.drop i=[]:=List.drop_eq_nil_of_le (by omega)
   rw [e] at hq1 hq2 hq3
   have hq3:=hq3 rfl
   have e2:(z0t M.pre [] D').2.1=[]:=rfl
   rw [e2,List.append_nil] at hq3
   refine zv (zj ⟨z,rfl,hq1,?_⟩)
   have e3:(z0t M.pre [] D').2.2=D':=rfl
   rw [hq2,hq3,e3]
   have hs:=z55 M hokm (hs.pick [2,2])
   exact hs.sub
  have hil:i<ns.length:=by omega
  have hdrop:ns.drop i=ns[i]::ns.drop (i+1):=List.drop_eq_getElem_cons hil
  rw [hdrop] at hq1 hq2 hq3
  have hn24:=hok24 ns[i] (List.getElem_mem hil)
  refine z24 hs (xs:=ns) (enc:=z2o) i hil ?_
  refine wp_lt ?_
  refine za (znp (lg:=lg) ns[i] (ByteArray.mk #[46,108,111,103]) (by omega) (by decide) M.pre hsz hs) λ_ w' hs=>?_
  obtain ⟨rfl,hs⟩:=hs
  refine ze ?_
  refine wp_lt ?_
  refine wp_lt ?_
  have eb:z1j M.pre ns[i] (bl (ByteArray.mk #[46,108,111,103]))=z1j M.pre ns[i] zu:=rfl
  rw [eb]
  refine zx (λq w'=>∃ z':Sl,q=(z',())/\Sat w' (slc T.a11 1 z' ((done++(match z1j M.pre ns[i] zu with|some b=>[(b:Int)]|none=>[])).flatMap z2t)::dk M.d D'::pt lg (.cells #[.pointer (some ⟨M.d,0,none⟩),.string M.pre,.int .i64 M.seg,.int .i64 M.gap,.slice M.z.a M.z.len M.z.cap] T.a29)::lgR M::slc T.a32 1 x (ns.flatMap z2o)::r)) ?_ ?_
  ·cases hb:z1j M.pre ns[i] zu with
   | none =>
    refine z0j ?_ (by simp)
    refine zj ⟨z,rfl,?_⟩
    rw [List.append_nil]
    exact hs
   | some b =>
    refine z1b ?_ (by rfl)
    refine z6s (xs:=done) (enc:=z2t) (y:=(b:Int)) hs (λz' w' hs=>?_) rfl (by omega)
    exact zj ⟨z',rfl,hs⟩
  rintro _ w2 ⟨z',rfl,hs⟩
  have hdl2:(done++(match z1j M.pre ns[i] zu with|some b=>[(b:Int)]|none=>[])).length<=i+1:=by
   rw [List.length_append]
   split <;> simp <;> omega
  refine za (znp (lg:=lg) ns[i] (ByteArray.mk #[46,110,101,119]) (by omega) (by decide) M.pre hsz hs) λ_ w' hs=>?_
  obtain ⟨rfl,hs⟩:=hs
  refine ze ?_
  refine wp_lt ?_
  refine wp_lt ?_
  have eb2:z1j M.pre ns[i] (bl (ByteArray.mk #[46,110,101,119]))=z1j M.pre ns[i] z1u:=rfl
  rw [eb2]
  have hun:z0t M.pre (ns[i]::ns.drop (i+1)) D'=if (z1j M.pre ns[i] z1u).isSome=true/\(z0v D' ns[i]).1≠0 then ((z0v D' ns[i]).1,[],(z0v D' ns[i]).2) else
   ((z0t M.pre (ns.drop (i+1)) (if (z1j M.pre ns[i] z1u).isSome then (z0v D' ns[i]).2 else D')).1,(match z1j M.pre ns[i] zu with|some b=>[(b:Int)]|none=>[])++(z0t M.pre (ns.drop (i+1)) (if (z1j M.pre ns[i] z1u).isSome then (z0v D' ns[i]).2 else D')).2.1,(z0t M.pre (ns.drop (i+1)) (if (z1j M.pre ns[i] z1u).isSome then (z0v D' ns[i]).2 else D')).2.2):=rfl
  refine zx (λq w'=>¬ ((z1j M.pre ns[i] z1u).isSome=true/\(z0v D' ns[i]).1≠0)/\Sat w' (slc T.a11 1 z' ((done++(match z1j M.pre ns[i] zu with|some b=>[(b:Int)]|none=>[])).flatMap z2t)::dk M.d (if (z1j M.pre ns[i] z1u).isSome then (z0v D' ns[i]).2 else D')::pt lg (.cells #[.pointer (some ⟨M.d,0,none⟩),.string M.pre,.int .i64 M.seg,.int .i64 M.gap,.slice M.z.a M.z.len M.z.cap] T.a29)::lgR M::slc T.a32 1 x (ns.flatMap z2o)::r)) ?_ ?_
  ·refine zk (λh=>?_) λh=>?_
   rotate_left
   ·refine zj ⟨λhh=>h hh.1,?_⟩
    rw [if_neg h]
    exact hs
   refine zy ?_
   refine zd hs ?_
   refine za (zby (d:=M.d) (A:=D') ns[i] hs) λ_ w' hs=>?_
   obtain ⟨rfl,hs⟩:=hs
   refine ze ?_
   refine wp_lt ?_
   refine zk (λh2=>?_) λh2=>?_
   ·refine wp_lt ?_
    rw [if_pos ⟨h,h2⟩] at hun
    rw [hun] at hq1 hq2
    have hs:=z55 M hokm (hs.pick [2,2])
    refine zv (zv (zv ⟨rfl,.inl ⟨by rw [hq1];exact h2,by rw [hq1],?_⟩⟩))
    rw [hq2]
    exact hs.sub
   ·refine zj ⟨λhh=>h2 hh.2,?_⟩
    rw [if_pos h]
    exact hs.sub
  rintro _ w3 ⟨hno,hs⟩
  rw [if_neg hno] at hun
  rw [hun] at hq1 hq2 hq3
  refine zt ?_
  rw [wS (i:=i) (by omega)]
  refine z0q (ns.length-(i+1)) ⟨i+1,z',done++(match z1j M.pre ns[i] zu with|some b=>[(b:Int)]|none=>[]),_,rfl,by omega,rfl,hdl2,⟨hq1,hq2,λh=>?_⟩,hs⟩
  rw [hq3 h,List.append_assoc]
theorem zz8 (x:Sl) (bs:List Int) (hb:∀ b ∈ bs,0<=b/\b<17592186044416) {r1:List HP} [hf:Fo l lgQ lg M r1] [hf2:Fo r1 dk M.d D r] (hx:FocR r x 1 (bs.flatMap z2t)) (hlen:bs.length<=1000000) (hs:Sat w l) :
  Ret P F.a60 #[.pointer (some ⟨lg,0,none⟩),x.v] w λvs w'=>vs=[.int .i64 (z2d M.pre bs D).1]/\Sat w' (lgQ lg M::dk M.d (z2d M.pre bs D).2::r) :=
 zp0 _ x <| by
  unfold z036
  have hs:=hs.perm (hf.perm.trans (.cons _ hf2.perm))
  clear hf hf2
  obtain ⟨hokm,hs⟩:=z96 hs
  have hsz:=hokm.size
  have hl:=hs.slen x (xs:=bs) (enc:=z2t)
  refine zx (λ_ w'=>(z2d M.pre bs D).1=0/\Sat w' (lgQ lg M::dk M.d (z2d M.pre bs D).2::r)) ?_ ?_
  rotate_left
  ·rintro _ w2 ⟨h1,hs⟩
   rw [h1]
   exact ⟨rfl,rfl,hs⟩
  refine z0e (λm v w=>∃ (i:Nat) (D':DiskA),v=((i:Int),())/\i<=bs.length/\bs.length-i=m/\z2d M.pre bs D=z2d M.pre (bs.drop i) D' /\
   Sat w (pt lg (.cells #[.pointer (some ⟨M.d,0,none⟩),.string M.pre,.int .i64 M.seg,.int .i64 M.gap,.slice M.z.a M.z.len M.z.cap] T.a29)::lgR M::dk M.d D'::r)) bs.length ⟨0,D,rfl,by omega,rfl,rfl,hs⟩ ?_
  clear hs
  rintro m _ w ⟨i,D',rfl,hi,hm,hq,hs⟩
  refine zt ?_
  refine zk (λhc=>?_) λhc=>?_
  rotate_left
  ·have e:bs.drop i=[]:=List.drop_eq_nil_of_le (by omega)
   rw [e] at hq
   refine zv (zj ⟨by rw [hq];rfl,?_⟩)
   rw [hq]
   exact z55 M hokm hs
  have hil:i<bs.length:=by omega
  rw [List.drop_eq_getElem_cons hil] at hq
  have hbb:=hb bs[i] (List.getElem_mem hil)
  refine z24 hs (xs:=bs) (enc:=z2t) i hil ?_
  refine wp_lt ?_
  have hun:z2d M.pre (bs[i]::bs.drop (i+1)) D'=if (z0v D' (zi M.pre bs[i] zu)).1≠0 then z0v D' (zi M.pre bs[i] zu) else z2d M.pre (bs.drop (i+1)) (z0v D' (zi M.pre bs[i] zu)).2:=rfl
  refine zx (λv w'=>v=((z0v D' (zi M.pre bs[i] zu)).1,())/\Sat w' (pt lg (.cells #[.pointer (some ⟨M.d,0,none⟩),.string M.pre,.int .i64 M.seg,.int .i64 M.gap,.slice M.z.a M.z.len M.z.cap] T.a29)::lgR M::dk M.d (z0v D' (zi M.pre bs[i] zu)).2::r)) ?_ ?_
  ·refine z0i hs λw' hs=>?_
   refine zy ?_
   refine z2c hs ?_
   refine za (z7r (lg:=lg) bs[i] hbb (ByteArray.mk #[46,108,111,103]) (by decide) M.pre hsz hs) λ_ w' hs=>?_
   obtain ⟨rfl,hs⟩:=hs
   refine ze ?_ (by first|trivial|(repeat (first|exact trivial|exact λ_=>z0w hs|exact λ_=>z15 hs|refine And.intro ?_ ?_)))
   refine zm ?_
   refine za (zby (d:=M.d) (A:=D') (zi M.pre bs[i] (bl (ByteArray.mk #[46,108,111,103]))) hs) λ_ w' hs=>?_
   obtain ⟨rfl,hs⟩:=hs
   refine ze ?_
   refine wp_lt ?_
   refine zm ?_
   have hs:Sat w' (dk M.d (z0v D' (zi M.pre bs[i] zu)).2::_):=hs
   exact zj ⟨rfl,hs.sub⟩
  rintro _ w2 ⟨rfl,hs⟩
  refine zk (λh=>?_) λh=>?_
  ·refine wp_lt ?_
   rw [if_pos h] at hun
   rw [hun] at hq
   rw [hq]
   exact zv (zv ⟨rfl,rfl,z55 M hokm hs⟩)
  ·rw [if_neg h] at hun
   rw [hun] at hq
   rw [wS (i:=i) (by omega)]
   exact z0q (bs.length-(i+1)) ⟨i+1,_,rfl,by omega,rfl,hq,hs⟩
end
theorem zc4 (k:Nat) (n:Int) (raw:List UInt8):z2h (k+1) n raw=match z10 raw with
  | none=>([],0)
  | some (body,m)=>match z3r body with
   | none=>([],0)
   | some b=>if b.base<n then ([],0) else (b::(z2h k (b.base+z0d b) (raw.drop m)).1,m+(z2h k (b.base+z0d b) (raw.drop m)).2):=rfl
theorem zcw {fs:List FileA} {n:ByteArray} {p:List UInt8 × Nat} (h:z06 fs n=some p):p.1.length<=used fs:=z7t (zrq h)
section
variable {w:World} {l r:List HP} {lg:Nat} {M:LogM} {A:LogA} {D:DiskA} {gap:Int} {a:Nat} {t:SegM}
theorem zva (b:BatM) (z:Sl) (hv:z0c b=0) (hp:b.p=b) [hf:Fo l (z11 gap) a t r] [hb:FocR r z 4 (b.rs.flatMap z03)] (hlen:t.s.file.length+(frL b).length<=1000000000) (hs:Sat w l) :
  Ret P F.a78 #[.pointer (some ⟨a,0,none⟩),.agg (zw (b.at z)).toArray,.int .i64 ((frL b).length:Nat)] w λvs w'=>vs=[]/\Sat w' (z11 gap a ⟨t.ix,t.s.add [b]⟩::r):=by
 have hb':FocR r (b.at z).x 4 ((b.at z).rs.flatMap z03):=hb
 have h:=ztp (gap:=gap) (a:=a) (b.at z) hv hlen hs
 have e:t.s.add [b.at z]=t.s.add [b]:=by
  unfold SegA.add
  have:(b.at z).p=b.p:=rfl
  simp only [List.map_cons,List.map_nil,this]
 rw [e] at h
 exact h
set_option maxHeartbeats 1000000 in
theorem z03i (base:Int) (hb:0<=base/\base<17592186044416) {r1:List HP} [hf:Fo l lgQ lg M r1] [hf2:Fo r1 dk M.d D r] (hlen:M.SM.length<=1000000) (hs:Sat w l) :
  Ret P F.a67 #[.pointer (some ⟨lg,0,none⟩),.int .i64 base] w λvs w'=>vs=[.bool (z1k M.pre M.l D base).1.1,.int .i64 (z1k M.pre M.l D base).1.2] /\
   ∃ M':LogM,(M'.d=M.d/\M'.pre=M.pre/\M'.seg=M.seg/\M'.gap=M.gap)/\M'.l=(z1k M.pre M.l D base).2.1/\M'.SM.length<=M.SM.length+1/\Sat w' (lgQ lg M'::dk M.d (z1k M.pre M.l D base).2.2::r) :=
 zpp _ base <| by
  unfold z01c
  have hs:=hs.perm (hf.perm.trans (.cons _ hf2.perm))
  clear hf hf2
  obtain ⟨hokm,hs⟩:=z96 hs
  have hsz:=hokm.size
  obtain ⟨m_,FS_,-,hokD,-⟩:=z2l (hs.pick [2])
  refine za (z7r (lg:=lg) base hb (ByteArray.mk #[46,108,111,103]) (by decide) M.pre hsz hs) λ_ w' hs=>?_
  obtain ⟨rfl,hs⟩:=hs
  refine ze ?_
  have en:zi M.pre base (bl (ByteArray.mk #[46,108,111,103]))=zi M.pre base zu:=rfl
  rw [en]
  generalize hnm:zi M.pre base zu=nm at *
  refine wp_lt ?_
  refine zy ?_
  refine zd hs ?_
  have hsame:∀ {w:World} {D':DiskA},Sat w (pt lg (.cells #[.pointer (some ⟨M.d,0,none⟩),.string M.pre,.int .i64 M.seg,.int .i64 M.gap,.slice M.z.a M.z.len M.z.cap] T.a29)::lgR M::dk M.d D'::r)->∃ M':LogM,(M'.d=M.d/\M'.pre=M.pre/\M'.seg=M.seg/\M'.gap=M.gap)/\M'.l=M.l/\M'.SM.length<=M.SM.length+1/\Sat w (lgQ lg M'::dk M.d D'::r):=λhs=>⟨M,⟨rfl,rfl,rfl,rfl⟩,rfl,by omega,z55 M hokm hs⟩
  unfold z1k
  rw [hnm]
  refine za (zjt (d:=M.d) (A:=D) nm hs) λ_ w' hs=>?_
  rcases hs with ⟨f,hff,hfn,x,rfl,hs⟩|⟨hno,rfl,hs⟩
  rotate_left
  ·refine ze ?_
   refine wp_lt ?_
   refine z1b ?_ (by decide)
   refine wp_lt ?_
   rw [z8o.2 hno]
   exact ⟨rfl,rfl,hsame hs.sub⟩
  refine ze ?_
  refine wp_lt ?_
  refine z0j ?_ (by simp)
  have hfd:z06 D.fs nm=some (f.b,f.kept):=by rw [<- hfn];exact z7h (z2j hokD.sorted) hff
  have hrl:f.b.length<=4194304:=Nat.le_trans (z7t hff) hokD.used
  rw [hfd]
  simp only
  generalize f.b=raw at *
  have hl:=hs.slen x (xs:=raw) (enc:=zg)
  have hcap:=hs.slc_cap
  refine za (zeq x raw hcap (by omega) hs) λ_ w' hs=>?_
  obtain ⟨y,rfl,hs⟩:=hs
  refine ze ?_
  refine wp_lt ?_
  refine wp_lt ?_
  refine zx (λq w'=>∃ v:Int,q=(v,(z2m base raw).isSome,())/\(∀ s,z2m base raw=some s->v=s.1.fin)/\Sat w' (slc T.a38 1 x (raw.flatMap zg)::pt lg (.cells #[.pointer (some ⟨M.d,0,none⟩),.string M.pre,.int .i64 M.seg,.int .i64 M.gap,.slice M.z.a M.z.len M.z.cap] T.a29)::lgR M::dk M.d D::r)) ?_ ?_
  ·cases hfr:z10 raw with
   | none =>
    rw [hfr] at hs
    have e:z2m base raw=none:=by unfold z2m;rw [hfr]
    rw [e]
    refine z0j ?_ (by simp)
    exact zj ⟨0,rfl,(λs h=>by cases h),hs.sub⟩
   | some q =>
    obtain ⟨body,m⟩:=q
    rw [hfr] at hs
    have hs:Sat w' (slc T.a38 1 y (body.flatMap zg)::_):=hs
    obtain ⟨-,-,hbd,-⟩:=z5n hfr
    refine z1b ?_ (by rfl)
    refine za (zuc y body base (by omega) (by omega) hs) λ_ w' hs=>?_
    obtain ⟨v,rfl,hv,hs⟩:=hs
    refine ze ?_
    refine wp_lt ?_
    refine wp_lt ?_
    have e:z2m base raw=match z3p base body with
      | none=>none
      | some fin=>some (⟨base,fin,(z2h raw.length base (raw.drop m)).1⟩,m+(z2h raw.length base (raw.drop m)).2):=by simp only [z2m,hfr];cases z3p base body <;> rfl
    rw [e]
    cases hh:z3p base body with
    | none=>exact zj ⟨v,rfl,(λs h=>by cases h),hs.sub⟩
    | some fin =>
     have:=hv fin hh
     subst this
     exact zj ⟨v,rfl,(λs h=>by simp only [Option.some.injEq] at h;subst h;rfl),hs.sub⟩
  rintro _ w2 ⟨v,rfl,hv,hs⟩
  cases hsc:z2m base raw with
  | none =>
   refine z1b ?_ (by simp)
   refine zy ?_
   refine zd hs ?_
   refine za (zby (d:=M.d) (A:=D) nm hs) λ_ w' hs=>?_
   obtain ⟨rfl,hs⟩:=hs
   refine ze ?_
   refine wp_lt ?_
   exact ⟨rfl,rfl,hsame hs.sub⟩
  | some q =>
   obtain ⟨s,mm⟩:=q
   dsimp only
   have hv:=hv _ hsc
   have hv:v=s.fin:=hv
   subst hv
   obtain ⟨hsok,hsb,hst,hsm,hsml⟩:=z7u hsc
   refine z0j ?_ (by simp)
   obtain ⟨m0,hm0,htk⟩:∃ m0,((z10 raw).getD ([],0)).2=m0/\m0<=raw.length/\m0=(shL s.base s.fin).length/\s.bs=(z2h raw.length base (raw.drop m0)).1/\mm=m0+(z2h raw.length base (raw.drop m0)).2:=by
    unfold z2m at hsc
    cases hfr:z10 raw with
    | none=>rw [hfr] at hsc;cases hsc
    | some q =>
     obtain ⟨body,m⟩:=q
     rw [hfr] at hsc
     simp only at hsc
     cases hh:z3p base body with
     | none=>rw [hh] at hsc;cases hsc
     | some fin =>
      rw [hh] at hsc
      simp only [Option.some.injEq,Prod.mk.injEq] at hsc
      obtain ⟨e1,e2⟩:=hsc
      obtain ⟨f1,f2,f3,f4⟩:=z5n hfr
      obtain ⟨-,-,hb3⟩:=zht hh
      refine ⟨m,rfl,f2,?_,by rw [<- e1],e2.symm⟩
      rw [<- e1]
      show m=(shL base fin).length
      unfold shL
      rw [z71 (by have:=zap base fin;omega),<- hb3,f1]
   obtain ⟨h1,h2,h3,h4⟩:=htk
   rw [hm0]
   have hbase0:=hsok.base
   have hfin0:0<=s.fin/\s.fin<9223372036854775808:=by have:=hsok.fin;omega
   have hs:=z55 M hokm (hs.pick [1,1])
   refine za (zk7 (lg:=lg) base s.fin (by omega) hfin0 hs) λ_ w' hs=>?_
   obtain ⟨a,ix,rfl,hs⟩:=hs
   refine ze ?_
   refine wp_lt ?_
   refine zx (λq w'=>q=((mm:Int),())/\Sat w' (z11 M.gap a ⟨ix,s⟩::lgQ lg M::slc T.a38 1 x (raw.flatMap zg)::dk M.d D::r)) ?_ ?_
   ·refine z0e (λk q w=>∃ (at_:Nat) (n:Int) (done:List BatM),q=((at_:Int),(n,()))/\at_<=raw.length/\raw.length-at_<=k /\
     s.bs=done++(z2h k n (raw.drop at_)).1/\mm=at_+(z2h k n (raw.drop at_)).2/\at_=((⟨base,s.fin,[]⟩:SegA).add done).file.length /\
     Sat w (z11 M.gap a ⟨ix,(⟨base,s.fin,[]⟩:SegA).add done⟩::lgQ lg M::slc T.a38 1 x (raw.flatMap zg)::dk M.d D::r)) raw.length
     ⟨m0,base,[],rfl,h1,by omega,by rw [List.nil_append];exact h3,h4,by rw [zgl,z2n];simp only [List.flatMap_nil,List.length_nil];rw [h2,hsb];omega,by rw [zgl];exact hs⟩ ?_
    clear hs
    rintro k _ w ⟨at_,n,done,rfl,ha1,ha2,ha3,ha4,ha5,hs⟩
    have hend:z2h k n (raw.drop at_)=([],0)->∀ {w:World},Sat w (z11 M.gap a ⟨ix,(⟨base,s.fin,[]⟩:SegA).add done⟩::lgQ lg M::slc T.a38 1 x (raw.flatMap zg)::dk M.d D::r)->at_=mm/\Sat w (z11 M.gap a ⟨ix,s⟩::lgQ lg M::slc T.a38 1 x (raw.flatMap zg)::dk M.d D::r):=by
     intro he w hs
     rw [he] at ha3 ha4
     simp only [List.append_nil] at ha3
     have hpp:done.map BatM.p=done:=by
      rw [List.map_congr_left (g:=id) λb hb=>((hsok.bs.valid b (by rw [ha3];exact hb)).2),List.map_id]
     have es:(⟨base,s.fin,[]⟩:SegA).add done=s:=by
      unfold SegA.add
      rw [hpp,<- ha3,<- hsb]
      rfl
     rw [es] at hs
     exact ⟨ha4.symm,hs⟩
    refine zt ?_
    refine wp_must (by omega) ?_
    rw [Int.toNat_natCast]
    have hxc:FocR (z11 M.gap a ⟨ix,(⟨base,s.fin,[]⟩:SegA).add done⟩::lgQ lg M::slc T.a38 1 x (raw.flatMap zg)::dk M.d D::r) ⟨z1g x.a 1 at_ x.cap,x.len-at_,x.cap-at_⟩ 1 ((raw.drop at_).flatMap zg):=FocR.post hcap
    refine za (zeq ⟨z1g x.a 1 at_ x.cap,x.len-at_,x.cap-at_⟩ (raw.drop at_) (by show x.len-at_<=x.cap-at_;omega) (by rw [List.length_drop];omega) hs) λ_ w' hs=>?_
    obtain ⟨y,rfl,hs⟩:=hs
    refine ze ?_
    refine wp_lt ?_
    refine wp_lt ?_
    cases hfr:z10 (raw.drop at_) with
    | none =>
     rw [hfr] at hs
     refine z1b ?_ (by simp)
     have he:z2h k n (raw.drop at_)=([],0):=by
      cases k with
      | zero=>rfl
      | succ k=>rw [zc4,hfr]
     obtain ⟨e1,hs⟩:=hend he hs.tail
     refine zv (zj ⟨by rw [e1],hs⟩)
    | some q =>
     obtain ⟨body,m⟩:=q
     rw [hfr] at hs
     have hs:Sat w' (slc T.a38 1 y (body.flatMap zg)::_):=hs
     obtain ⟨f1,f2,hbd,f4⟩:=z5n hfr
     rw [List.length_drop] at f2
     dsimp only [Option.getD,Option.isSome]
     refine z0j ?_ (by simp)
     obtain ⟨k,rfl⟩:∃ k',k=k'+1:=⟨k-1,by omega⟩
     rw [zc4,hfr] at ha3 ha4 hend
     refine za (zjb y body (by omega) hs) λ_ w' hs=>?_
     rcases hs with ⟨b,z,hdec,rfl,hs⟩|⟨hdec,rfl,hs⟩
     rotate_left
     ·refine ⟨(0,0,0,0,0,0,z7l,6,()),rfl,trivial,zbz _ _ _ _ _ _ _ _ ?_⟩
      refine z05 hs λc w' hs=>?_
      refine z09 hs λw' hs=>?_
      refine wp_lt ?_
      refine zd hs ?_
      refine z1b ?_ (.inl (by decide))
      obtain ⟨e1,hs⟩:=hend (by simp only [hdec]) hs.tail.tail
      exact zv (zj ⟨by show ((at_:Int),())=_;rw [e1],hs⟩)
     ·obtain ⟨d1,d2,d3⟩:=zbn hdec
      have hfrb:(frL b).length=m:=by rw [(z3q d1).2,d2,f1]
      refine ⟨(b.base,b.pid,b.epoch,b.seq,b.kind,b.time,z,0,()),rfl,trivial,zbz _ _ _ _ _ _ _ _ ?_⟩
      refine z05 hs λc w' hs=>?_
      refine z09 hs λw' hs=>?_
      refine wp_lt ?_
      refine zd hs ?_
      simp only [hdec] at ha3 ha4 hend
      refine zk (λhc=>?_) λhc=>?_
      ·have hc:b.base<n:=by
        rcases hc with hc|hc
        ·exact absurd rfl hc
        ·exact hc
       obtain ⟨e1,hs⟩:=hend (by rw [if_pos hc]) hs.tail.tail.tail
       exact zv (zj ⟨by show ((at_:Int),())=_;rw [e1],hs⟩)
      have hc:¬ b.base<n:=λh=>hc (.inr h)
      rw [if_neg hc] at ha3 ha4
      simp only at ha3 ha4
      refine z02 hs ?_
      have hz:FocR (pt c (.cells #[.int .i64 b.base,.int .i64 b.pid,.int .i64 b.epoch,.int .i64 b.seq,.int .i64 b.kind,.int .i64 b.time,.slice z.a z.len z.cap] T.a1)::slc T.a3 4 z (b.rs.flatMap z03)::slc T.a38 1 y (body.flatMap zg)::lgQ lg M::slc T.a38 1 x (raw.flatMap zg)::dk M.d D::r) z 4 (b.rs.flatMap z03):=inferInstance
      have hs:Sat w' (pt c (.cells #[.int .i64 b.base,.int .i64 b.pid,.int .i64 b.epoch,.int .i64 b.seq,.int .i64 b.kind,.int .i64 b.time,.slice z.a z.len z.cap] T.a1)::slc T.a3 4 z (b.rs.flatMap z03)::slc T.a38 1 y (body.flatMap zg)::z11 M.gap a ⟨ix,(⟨base,s.fin,[]⟩:SegA).add done⟩::lgQ lg M::slc T.a38 1 x (raw.flatMap zg)::dk M.d D::r):=hs
      have hml:((m:Nat):Int)=((frL b).length:Nat):=by rw [hfrb]
      show (Prog.call F.a78 [_,.agg _,.int .i64 ((m:Nat):Int)] _ _).wp P _ _ _
      rw [hml]
      refine za (zva (gap:=M.gap) (a:=a) (t:=⟨ix,(⟨base,s.fin,[]⟩:SegA).add done⟩) b z d1 d3 (by show ((⟨base,s.fin,[]⟩:SegA).add done).file.length+_<=_;rw [<- ha5];omega) hs) λ_ w' hs=>?_
      obtain ⟨rfl,hs⟩:=hs
      refine ze ?_
      have e6:((⟨base,s.fin,[]⟩:SegA).add done).add [b]=(⟨base,s.fin,[]⟩:SegA).add (done++[b]):=add_add _ _ _
      have hs:Sat w' (z11 M.gap a ⟨ix,((⟨base,s.fin,[]⟩:SegA).add done).add [b]⟩::_):=hs
      rw [e6] at hs
      have hs:=z3x hs
      refine zy ?_
      refine zd hs ?_
      refine wp_lt ?_
      rw [w64 (by omega) (by omega)]
      refine wp_lt ?_
      have en2:z0n ((⟨base,s.fin,[]⟩:SegA).add (done++[b])).bs=b.base+z0d b:=by
       show z0n ([]++(done++[b]).map BatM.p)=_
       rw [List.nil_append,List.map_append]
       exact z42 _ _
      rw [show z0n (SegM.s ⟨ix,(⟨base,s.fin,[]⟩:SegA).add (done++[b])⟩).bs=b.base+z0d b from en2]
      have hs:=z2x ⟨ix,(⟨base,s.fin,[]⟩:SegA).add (done++[b])⟩ hs
      have ec:(at_:Int)+((frL b).length:Nat)=((at_+m:Nat):Int):=by rw [hfrb];omega
      rw [ec]
      refine z0q k ⟨at_+m,b.base+z0d b,done++[b],rfl,by omega,by omega,?_,?_,?_,hs.sub⟩
      ·rw [ha3,List.append_assoc,List.drop_drop];rfl
      ·rw [ha4,List.drop_drop];omega
      ·rw [<- e6,z70,List.length_append,<- ha5]
       simp only [List.flatMap_cons,List.flatMap_nil,List.append_nil]
       omega
   clear hs
   rintro _ w3 ⟨rfl,hs⟩
   refine zt ?_
   have hs:=hs.pick [1]
   refine za (zy2 (lg:=lg) a ⟨ix,s⟩ (by omega) hs) λ_ w' hs=>?_
   obtain ⟨z,rfl,hs⟩:=hs
   refine ze ?_
   have hfin2:∀ {w:World} {D':DiskA},Sat w (lgQ lg { M with z:=z,SM:=M.SM++[(a,⟨ix,s⟩)] }::dk M.d D'::r)->∃ M':LogM,(M'.d=M.d/\M'.pre=M.pre/\M'.seg=M.seg/\M'.gap=M.gap)/\M'.l=M.l++[s]/\M'.SM.length<=M.SM.length+1/\Sat w (lgQ lg M'::dk M.d D'::r):=λhs =>
    ⟨{ M with z:=z,SM:=M.SM++[(a,⟨ix,s⟩)] },⟨rfl,rfl,rfl,rfl⟩,by unfold LogM.l;simp,by simp,hs⟩
   refine zk (λhc=>?_) λhc=>?_
   ·have hc:mm=raw.length:=by omega
    rw [if_pos hc]
    exact ⟨rfl,rfl,hfin2 hs.sub⟩
   ·rw [if_neg (show ¬ mm=raw.length by omega)]
    refine zy ?_
    obtain ⟨hokm2,hs⟩:=z96 hs
    refine zd hs ?_
    refine za (z03r (d:=M.d) (A:=D) nm ((mm:Nat):Int) hs) λ_ w' hs=>?_
    obtain ⟨rfl,hs⟩:=hs
    refine ze ?_
    refine wp_lt ?_
    have hs:=z55 { M with z:=z,SM:=M.SM++[(a,⟨ix,s⟩)] } hokm2 (hs.pick [1,1])
    exact ⟨rfl,rfl,hfin2 hs.sub⟩
end
def z5b (a:Nat) (outs:List BatM):HP:=HP.ex λz:Sl=>HP.star (pt a (.cells #[.slice z.a z.len z.cap] T.a18)) (HP.star (slc T.a1 7 z (outs.flatMap zw)) (z0a outs))
section
variable {w:World} {l r r1 r2:List HP} {lg ao:Nat} {M:LogM} {A:LogA} {D:DiskA} {gap:Int} {a:Nat} {t:SegM} {outs:List BatM}
theorem zjs (hs:Sat w (z5b ao outs::l)):∃ z:Sl,Sat w (pt ao (.cells #[.slice z.a z.len z.cap] T.a18)::slc T.a1 7 z (outs.flatMap zw)::z0a outs::l):=by
 obtain ⟨z,hs⟩:=hs.ex
 have hs:=hs.star
 exact ⟨z,((hs.pick [1]).star).pick [2]⟩
theorem zdg {z:Sl} (hs:Sat w (pt ao (.cells #[.slice z.a z.len z.cap] T.a18)::slc T.a1 7 z (outs.flatMap zw)::z0a outs::l)):Sat w (z5b ao outs::l) :=
 .ex_mk z (.star_mk (((hs.pick [1,1]).star_mk).pick [1]))
theorem zl6 {b:BatM} (hs:Sat w (slc T.a3 4 b.x (b.rs.flatMap z03)::z0a outs::l)):Sat w (z0a (outs++[b])::l):=by
 have h1:Sat w (HP.all ((b::outs).map rsP)::l):=by
  have h2:Sat w (rsP b::HP.all (outs.map rsP)::l):=hs
  exact h2.all_put
 exact h1.all_perm ((List.perm_append_comm (l₁:=[b]) (l₂:=outs)).map rsP)
theorem zfe (hs:Sat w l):Sat w (z0a []::l):=hs.all_nil
theorem zh5 {b:BatM} (hb:b ∈ outs):FocR (z0a outs::l) b.x 4 (b.rs.flatMap z03):=⟨λw hs=>by
 obtain ⟨L,hs⟩:=hs.all_mem (f:=rsP) hb
 exact Sat.rd hs⟩
theorem z02z (b:BatM) (off most:Int) (a1 a2:Nat) (ho : -9223372036854775808<=off/\off<9223372036854775808) (hcap:b.x.len<=b.x.cap) (hol:outs.length<=2000000) [hf:Fo l z5b ao outs r] [h1:FocB r a1 (.cells [.int .i64 off].toArray T.a11) r1] [h2:FocB r a2 (.cells [.int .i64 most].toArray T.a10) r2] [hb:FocR r b.x 4 (b.rs.flatMap z03)] (hs:Sat w l) :
  Ret P F.a56 #[.agg (zw b).toArray,.pointer (some ⟨a1,0,none⟩),.pointer (some ⟨ao,0,none⟩),.pointer (some ⟨a2,0,none⟩)] w λvs w'=>∃ outs':List BatM,vs=[.bool (decide ((outs'.length:Int)<most))]/\outs'.map BatM.p=outs.map BatM.p++(z17 off b).toList.map BatM.p/\Sat w' (z5b ao outs'::r) :=
 zr6 b.base b.pid b.epoch b.seq b.kind b.time b.x _ _ _ <| by
  unfold z02g
  obtain ⟨z,hs⟩:=zjs (hs.perm hf.perm)
  have hl:=hs.slen z (xs:=outs) (enc:=zw)
  refine z0b hs λa0 w' hs=>?_
  refine z02 hs ?_
  refine zd hs ?_
  refine za (zyb b off ho hcap hs) λ_ w' hs=>?_
  rcases hs with ⟨hn,rfl,hs⟩|⟨c,zc,hc,rfl,hs⟩
  ·refine ⟨(0,0,0,0,0,0,z7l,false,()),rfl,trivial,zbz _ _ _ _ _ _ _ _ ?_⟩
   refine z05 hs λa3 w' hs=>?_
   refine z09 hs λw' hs=>?_
   refine wp_lt ?_
   refine z5h ?_
   refine z0j ?_ (by simp)
   refine z4m ?_
   refine zd hs ?_
   refine zd hs ?_
   refine wp_lt ?_
   refine ⟨rfl,outs,by rw [hl],by rw [hn];simp,zdg (z:=z) hs.sub⟩
  ·refine ⟨(c.base,c.pid,c.epoch,c.seq,c.kind,c.time,zc,true,()),rfl,trivial,zbz _ _ _ _ _ _ _ _ ?_⟩
   refine z05 hs λa3 w' hs=>?_
   refine z09 hs λw' hs=>?_
   refine wp_lt ?_
   refine z5h ?_
   refine z1b ?_ (by trivial)
   refine zd hs ?_
   refine z02 hs ?_
   refine z6s (xs:=outs) (enc:=zw) (y:=c.at zc) hs (λz' w' hs=>?_) rfl (by omega)
   refine z0h hs λw' hs=>?_
   refine z4m ?_
   refine zd hs ?_
   refine zd hs ?_
   refine wp_lt ?_
   have hs:Sat w' (pt ao (.cells #[.slice z'.a z'.len z'.cap] T.a18)::slc T.a1 7 z' ((outs++[c.at zc]).flatMap zw)::pt a3 _::slc T.a3 4 (c.at zc).x ((c.at zc).rs.flatMap z03)::pt a0 _::z0a outs::r):=hs
   have hl':=hs.slen z' (xs:=outs++[c.at zc]) (enc:=zw)
   refine ⟨rfl,outs++[c.at zc],by rw [hl'],by rw [hc];simp;rfl,?_⟩
   have hs:=zl6 (hs.pick [3,4])
   exact zdg (z:=z') (hs.pick [1,1,0]).sub
theorem zyi (off:Int) (hok:SegOk t.s) (hfl:t.s.file.length<=4194304) [hf:Fo l (z11 gap) a t r] (hs:Sat w l):Ret P F.a76 #[.pointer (some ⟨a,0,none⟩),.int .i64 off] w λvs w'=>vs=[.int .i64 (ztn t.s (z3j (t.s.idx gap).l off))]/\Sat w' (z11 gap a t::r) :=
 zqh _ off <| by
  unfold z02j
  have hi:IdxOk gap (shL t.s.base t.s.fin).length t.s.bs (t.s.idx gap):=zjl gap t.s.bs.length (n:=t.s.base) (q:=(shL t.s.base t.s.fin).length) rfl hok.base.1 (by omega) hok.bs (by have:=z2n t.s;omega)
  have hs:=z3x (hs.perm hf.perm)
  refine zy ?_
  refine zd hs ?_
  refine za (z01e (b:=t.ix) off hi.offs hs) λ_ w' hs=>?_
  obtain ⟨rfl,hs⟩:=hs
  refine ⟨((orE (z3j (t.s.idx gap).l off)).offset,(orE (z3j (t.s.idx gap).l off)).place,(orE (z3j (t.s.idx gap).l off)).before,(z3j (t.s.idx gap).l off).isSome,()),rfl,trivial,zw5 _ _ _ _ ?_⟩
  refine z05 hs λc w' hs=>?_
  refine z09 hs λw' hs=>?_
  refine wp_lt ?_
  cases hfe:z3j (t.s.idx gap).l off with
  | some e =>
   refine z1b ?_ (by rfl)
   rw [hfe] at hs
   refine zd hs ?_
   refine wp_lt ?_
   exact ⟨rfl,rfl,z2x t hs.sub⟩
  | none =>
   refine z0j ?_ (by simp)
   refine z0i hs λw' hs=>?_
   refine zy ?_
   refine zd hs ?_
   refine zy ?_
   refine zd hs ?_
   have hb:=hok.base
   have hfn:0<=t.s.fin/\t.s.fin<9223372036854775808:=by have:=hok.fin;omega
   refine za (zl4 t.s.base t.s.fin (by omega) hfn hs) λ_ w' hs=>?_
   obtain ⟨y,rfl,hs⟩:=hs
   refine ze ?_
   have hl:=hs.slen y (xs:=shL t.s.base t.s.fin) (enc:=zg)
   refine wp_lt ?_
   refine zm ?_
   refine ⟨rfl,?_,z2x t hs.sub⟩
   rw [hl]
   rfl
set_option maxHeartbeats 1000000 in
theorem z02x (off:Int) (most:Nat) (a1 a2:Nat) (ho : -9223372036854775808<=off/\off<9223372036854775808) {i k kp:Nat} (hsi:i<M.SM.length) (hok:SegOk M.SM[i].2.s) (hfile:z06 D.fs (zi M.pre M.SM[i].2.s.base zu)=some (M.SM[i].2.s.file,kp)) (hk:k<=M.SM[i].2.s.bs.length) (hout:outs.length<most) (hol:outs.length+M.SM[i].2.s.bs.length<=2000000)
  (hs:Sat w (z5b ao outs::lgQ lg M::dk M.d D::pt a1 (.cells [.int .i64 off].toArray T.a11)::pt a2 (.cells [.int .i64 (most:Int)].toArray T.a10)::r)) :
  Ret P F.a69 #[.pointer (some ⟨lg,0,none⟩),.pointer (some ⟨M.SM[i].1,0,none⟩),.int .i64 (z3e M.SM[i].2.s k:Nat),.func (.func F.a56) #[] #[.pointer (some ⟨a1,0,none⟩),.pointer (some ⟨ao,0,none⟩),.pointer (some ⟨a2,0,none⟩)]] w λvs w' =>
   ∃ outs':List BatM,vs=[.bool (decide (outs.length+((M.SM[i].2.s.bs.drop k).filterMap (z17 off)).length<most))]/\outs'.map BatM.p=(outs.map BatM.p++(M.SM[i].2.s.bs.drop k).filterMap (z17 off)).take most/\outs'.length<=outs.length+M.SM[i].2.s.bs.length /\
    Sat w' (z5b ao outs'::lgQ lg M::dk M.d D::pt a1 (.cells [.int .i64 off].toArray T.a11)::pt a2 (.cells [.int .i64 (most:Int)].toArray T.a10)::r) :=
 zp2 _ _ _ _ <| by
  unfold z01f
  obtain ⟨m_,FS_,-,hokD,-⟩:=z2l (hs.pick [2])
  obtain ⟨hokm,hs⟩:=z34 (hs.pick [1])
  have hs:=z3x (z8c (hs.pick [2]) hsi)
  generalize hT:M.SM[i]=T0 at *
  obtain ⟨a,t⟩:=T0
  dsimp only at hok hfile hk hol hs ⊢
  have hrl:t.s.file.length<=4194304:=Nat.le_trans (zcw hfile) hokD.used
  have hbl:=zgr hok
  have hb0:=hok.base
  refine zx (λq w'=>∃ x:Sl,q=(x,())/\x.len<=x.cap/\Sat w' (slc T.a38 1 x (t.s.file.flatMap zg)::pt a (.cells #[.pointer (some ⟨t.ix,0,none⟩),.int .i64 t.s.base,.int .i64 t.s.fin,.int .i64 (z0n t.s.bs),.int .i64 (z1t (-1) t.s.bs),.int .i64 (t.s.file.length:Nat)] T.a30)::z2v t.ix (t.s.idx M.gap)::HP.all ((M.SM.eraseIdx i).map λt=>z11 M.gap t.1 t.2)::pt lg (.cells #[.pointer (some ⟨M.d,0,none⟩),.string M.pre,.int .i64 M.seg,.int .i64 M.gap,.slice M.z.a M.z.len M.z.cap] T.a29)::slc T.a17 1 M.z ((M.SM.map Prod.fst).flatMap z1x)::z5b ao outs::dk M.d D::pt a1 (.cells [.int .i64 off].toArray T.a11)::pt a2 (.cells [.int .i64 (most:Int)].toArray T.a10)::r)) ?_ ?_
  ·refine z0i hs λw' hs=>?_
   refine zy ?_
   refine z2c hs ?_
   refine zy ?_
   refine zd hs ?_
   refine za (z7r (lg:=lg) t.s.base (by omega) (ByteArray.mk #[46,108,111,103]) (by decide) M.pre hokm.size hs) λ_ w' hs=>?_
   obtain ⟨rfl,hs⟩:=hs
   refine ze ?_ (by first|trivial|(repeat (first|exact trivial|exact λ_=>z0w hs|exact λ_=>z15 hs|refine And.intro ?_ ?_)))
   refine zm ?_
   have en:zi M.pre t.s.base (bl (ByteArray.mk #[46,108,111,103]))=zi M.pre t.s.base zu:=rfl
   rw [en]
   refine za (zjt (d:=M.d) (A:=D) (zi M.pre t.s.base zu) hs) λ_ w' hs=>?_
   rcases hs with ⟨f,hff,hfn,x,rfl,hs⟩|⟨hno,rfl,hs⟩
   ·refine ze ?_
    refine wp_lt ?_
    refine zm ?_
    have hfd:z06 D.fs f.name=some (f.b,f.kept):=z7h (z2j hokD.sorted) hff
    rw [hfn,hfile] at hfd
    simp only [Option.some.injEq,Prod.mk.injEq] at hfd
    rw [<- hfd.1] at hs
    have hcap:=hs.slc_cap
    exact zj ⟨x,rfl,hcap,hs.sub⟩
   ·rw [z8o.2 hno] at hfile
    cases hfile
  clear hs
  rintro _ w ⟨x,rfl,hcap,hs⟩
  refine zt ?_
  refine wp_lt ?_
  have hl:=hs.slen x (xs:=t.s.file) (enc:=zg)
  have hfin:∀ {w:World} {outs':List BatM},Sat w (slc T.a38 1 x (t.s.file.flatMap zg)::pt a (.cells #[.pointer (some ⟨t.ix,0,none⟩),.int .i64 t.s.base,.int .i64 t.s.fin,.int .i64 (z0n t.s.bs),.int .i64 (z1t (-1) t.s.bs),.int .i64 (t.s.file.length:Nat)] T.a30)::z2v t.ix (t.s.idx M.gap)::HP.all ((M.SM.eraseIdx i).map λt=>z11 M.gap t.1 t.2)::pt lg (.cells #[.pointer (some ⟨M.d,0,none⟩),.string M.pre,.int .i64 M.seg,.int .i64 M.gap,.slice M.z.a M.z.len M.z.cap] T.a29)::slc T.a17 1 M.z ((M.SM.map Prod.fst).flatMap z1x)::z5b ao outs'::dk M.d D::pt a1 (.cells [.int .i64 off].toArray T.a11)::pt a2 (.cells [.int .i64 (most:Int)].toArray T.a10)::r) ->
    Sat w (z5b ao outs'::lgQ lg M::dk M.d D::pt a1 (.cells [.int .i64 off].toArray T.a11)::pt a2 (.cells [.int .i64 (most:Int)].toArray T.a10)::r):=by
   intro w outs' hs
   have h1:Sat w (z11 M.gap M.SM[i].1 M.SM[i].2::HP.all ((M.SM.eraseIdx i).map λt=>z11 M.gap t.1 t.2)::pt lg (.cells #[.pointer (some ⟨M.d,0,none⟩),.string M.pre,.int .i64 M.seg,.int .i64 M.gap,.slice M.z.a M.z.len M.z.cap] T.a29)::slc T.a17 1 M.z ((M.SM.map Prod.fst).flatMap z1x)::z5b ao outs'::dk M.d D::pt a1 (.cells [.int .i64 off].toArray T.a11)::pt a2 (.cells [.int .i64 (most:Int)].toArray T.a10)::r):=by
    rw [hT]
    exact z2x t hs.tail
   have h2:=z6j hsi h1
   exact (z1v M hokm (h2.pick [1,1])).sub
  have hfull:∀ {outs':List BatM} {j:Nat},outs'.map BatM.p=outs.map BatM.p++((t.s.bs.drop k).take j).filterMap (z17 off)->outs'.length=outs.length+(((t.s.bs.drop k).take j).filterMap (z17 off)).length:=λh=>by
   have:=congrArg List.length h
   simpa using this
  refine zx (λ_ w'=>∃ outs':List BatM,outs'.map BatM.p=outs.map BatM.p++(t.s.bs.drop k).filterMap (z17 off)/\outs'.length<most/\outs'.length<=outs.length+t.s.bs.length/\Sat w' (slc T.a38 1 x (t.s.file.flatMap zg)::pt a (.cells #[.pointer (some ⟨t.ix,0,none⟩),.int .i64 t.s.base,.int .i64 t.s.fin,.int .i64 (z0n t.s.bs),.int .i64 (z1t (-1) t.s.bs),.int .i64 (t.s.file.length:Nat)] T.a30)::z2v t.ix (t.s.idx M.gap)::HP.all ((M.SM.eraseIdx i).map λt=>z11 M.gap t.1 t.2)::pt lg (.cells #[.pointer (some ⟨M.d,0,none⟩),.string M.pre,.int .i64 M.seg,.int .i64 M.gap,.slice M.z.a M.z.len M.z.cap] T.a29)::slc T.a17 1 M.z ((M.SM.map Prod.fst).flatMap z1x)::z5b ao outs'::dk M.d D::pt a1 (.cells [.int .i64 off].toArray T.a11)::pt a2 (.cells [.int .i64 (most:Int)].toArray T.a10)::r)) ?_ ?_
  rotate_left
  ·rintro _ w2 ⟨outs',h1,h2,h3,hs⟩
   have h4:=congrArg List.length h1
   simp only [List.length_map,List.length_append] at h4
   refine ⟨rfl,outs',by rw [decide_eq_true (by omega)],?_,h3,hfin hs⟩
   rw [<- h1,List.take_of_length_le]
   rw [List.length_map];omega
  refine z0e (λm v w=>∃ (j:Nat) (outs':List BatM),v=(((z3e t.s (k+j):Nat):Int),())/\k+j<=t.s.bs.length/\t.s.bs.length-(k+j)=m/\outs'.map BatM.p=outs.map BatM.p++((t.s.bs.drop k).take j).filterMap (z17 off)/\outs'.length<most/\outs'.length<=outs.length+j/\Sat w (slc T.a38 1 x (t.s.file.flatMap zg)::pt a (.cells #[.pointer (some ⟨t.ix,0,none⟩),.int .i64 t.s.base,.int .i64 t.s.fin,.int .i64 (z0n t.s.bs),.int .i64 (z1t (-1) t.s.bs),.int .i64 (t.s.file.length:Nat)] T.a30)::z2v t.ix (t.s.idx M.gap)::HP.all ((M.SM.eraseIdx i).map λt=>z11 M.gap t.1 t.2)::pt lg (.cells #[.pointer (some ⟨M.d,0,none⟩),.string M.pre,.int .i64 M.seg,.int .i64 M.gap,.slice M.z.a M.z.len M.z.cap] T.a29)::slc T.a17 1 M.z ((M.SM.map Prod.fst).flatMap z1x)::z5b ao outs'::dk M.d D::pt a1 (.cells [.int .i64 off].toArray T.a11)::pt a2 (.cells [.int .i64 (most:Int)].toArray T.a10)::r)) (t.s.bs.length-k)
   ⟨0,outs,rfl,by omega,by omega,by simp,hout,by omega,hs⟩ ?_
  clear hs
  rintro m _ w ⟨j,outs',rfl,hj,hm,hmap,hlt,hol',hs⟩
  refine zt ?_
  refine z0p ?_
  refine zd hs ?_
  have hple:=zha t.s (k+j)
  refine zk (λhc=>?_) λhc=>?_
  rotate_left
  ·have hend:k+j=t.s.bs.length:=by
    apply Decidable.byContradiction
    intro hne
    have hlt2:k+j<t.s.bs.length:=by omega
    have h1:=zhs t.s hlt2
    have h2:=zha t.s (k+j+1)
    have h3:=z3q (hok.bs.valid _ (List.getElem_mem hlt2)).1
    exact hc ⟨by omega,by omega⟩
   refine zv (zj ⟨outs',?_,hlt,by omega,hs⟩)
   rw [hmap,List.take_of_length_le (by rw [List.length_drop];omega)]
  have hjl:k+j<t.s.bs.length:=by
   apply Decidable.byContradiction
   intro hne
   have he:k+j=t.s.bs.length:=by omega
   have h1:=zue t.s
   rw [he] at hc
   have hc1:((z3e t.s t.s.bs.length:Nat):Int)<(x.len:Nat):=hc.1
   omega
  obtain ⟨hfst,hdec⟩:=zoy hok hjl
  obtain ⟨hvb,hpb⟩:=hok.bs.valid _ (List.getElem_mem hjl)
  have hblen:=z4g hvb
  have hxl:z3e t.s (k+j)<=x.len:=by omega
  refine wp_must (by omega) ?_
  rw [Int.toNat_natCast]
  have hxc:FocR (slc T.a38 1 x (t.s.file.flatMap zg)::pt a (.cells #[.pointer (some ⟨t.ix,0,none⟩),.int .i64 t.s.base,.int .i64 t.s.fin,.int .i64 (z0n t.s.bs),.int .i64 (z1t (-1) t.s.bs),.int .i64 (t.s.file.length:Nat)] T.a30)::z2v t.ix (t.s.idx M.gap)::HP.all ((M.SM.eraseIdx i).map λt=>z11 M.gap t.1 t.2)::pt lg (.cells #[.pointer (some ⟨M.d,0,none⟩),.string M.pre,.int .i64 M.seg,.int .i64 M.gap,.slice M.z.a M.z.len M.z.cap] T.a29)::slc T.a17 1 M.z ((M.SM.map Prod.fst).flatMap z1x)::z5b ao outs'::dk M.d D::pt a1 (.cells [.int .i64 off].toArray T.a11)::pt a2 (.cells [.int .i64 (most:Int)].toArray T.a10)::r) ⟨z1g x.a 1 (z3e t.s (k+j)) x.cap,x.len-z3e t.s (k+j),x.cap-z3e t.s (k+j)⟩ 1 ((t.s.file.drop (z3e t.s (k+j))).flatMap zg):=FocR.post hcap
  refine za (zeq ⟨z1g x.a 1 (z3e t.s (k+j)) x.cap,x.len-z3e t.s (k+j),x.cap-z3e t.s (k+j)⟩ (t.s.file.drop (z3e t.s (k+j))) (by show x.len-_<=x.cap-_;omega) (by rw [List.length_drop];omega) hs) λ_ w' hs=>?_
  obtain ⟨y,rfl,hs⟩:=hs
  rw [hfst] at hs ⊢
  refine ze ?_
  refine wp_lt ?_
  refine wp_lt ?_
  dsimp only [Option.getD,Option.isSome]
  have hs:Sat w' (slc T.a38 1 y ((z1p t.s.bs[k+j]).flatMap zg)::_):=hs
  refine z0j ?_ (by simp)
  refine za (zjb y (z1p t.s.bs[k+j]) (by omega) hs) λ_ w' hs=>?_
  rcases hs with ⟨b,z,hdec2,rfl,hs⟩|⟨hdec2,rfl,hs⟩
  rotate_left
  ·rw [hdec] at hdec2;cases hdec2
  rw [hdec] at hdec2
  simp only [Option.some.injEq] at hdec2
  subst hdec2
  generalize hbb:t.s.bs[k+j]=b at *
  refine ⟨(b.base,b.pid,b.epoch,b.seq,b.kind,b.time,z,0,()),rfl,trivial,zbz _ _ _ _ _ _ _ _ ?_⟩
  refine z05 hs λc w' hs=>?_
  refine z09 hs λw' hs=>?_
  refine wp_lt ?_
  have hzc:z.len<=z.cap:=(hs.pick [1]).slc_cap
  have htk:(t.s.bs.drop k).take (j+1)=(t.s.bs.drop k).take j++[b]:=by
   rw [List.take_succ_eq_append_getElem (by rw [List.length_drop];omega),List.getElem_drop,hbb]
  have hfp:(z17 off b).toList.map BatM.p=(z17 off b).toList:=by
   cases hfb:z17 off b with
   | none=>rfl
   | some c=>simp [zop hpb hfb]
  have hfm:((t.s.bs.drop k).take (j+1)).filterMap (z17 off)=((t.s.bs.drop k).take j).filterMap (z17 off)++(z17 off b).toList:=by
   rw [htk,List.filterMap_append]
   congr 1
  have hpos:=zhs t.s hjl
  rw [hbb] at hpos
  have hple2:=zha t.s (k+j+1)
  refine z5h ?_
  refine z02 hs ?_
  refine z0j ?_ (by simp)
  have hzb:FocR (pt c (.cells #[.int .i64 b.base,.int .i64 b.pid,.int .i64 b.epoch,.int .i64 b.seq,.int .i64 b.kind,.int .i64 b.time,.slice z.a z.len z.cap] T.a1)::slc T.a3 4 z (b.rs.flatMap z03)::slc T.a38 1 y ((z1p b).flatMap zg)::slc T.a38 1 x (t.s.file.flatMap zg)::pt a (.cells #[.pointer (some ⟨t.ix,0,none⟩),.int .i64 t.s.base,.int .i64 t.s.fin,.int .i64 (z0n t.s.bs),.int .i64 (z1t (-1) t.s.bs),.int .i64 (t.s.file.length:Nat)] T.a30)::z2v t.ix (t.s.idx M.gap)::HP.all ((M.SM.eraseIdx i).map λt=>z11 M.gap t.1 t.2)::pt lg (.cells #[.pointer (some ⟨M.d,0,none⟩),.string M.pre,.int .i64 M.seg,.int .i64 M.gap,.slice M.z.a M.z.len M.z.cap] T.a29)::slc T.a17 1 M.z ((M.SM.map Prod.fst).flatMap z1x)::dk M.d D::pt a1 (.cells [.int .i64 off].toArray T.a11)::pt a2 (.cells [.int .i64 (most:Int)].toArray T.a10)::r) (b.at z).x 4 ((b.at z).rs.flatMap z03):=(inferInstance:FocR (pt c (.cells #[.int .i64 b.base,.int .i64 b.pid,.int .i64 b.epoch,.int .i64 b.seq,.int .i64 b.kind,.int .i64 b.time,.slice z.a z.len z.cap] T.a1)::slc T.a3 4 z (b.rs.flatMap z03)::_) z 4 (b.rs.flatMap z03))
  have hs:Sat w' (z5b ao outs'::pt c (.cells #[.int .i64 b.base,.int .i64 b.pid,.int .i64 b.epoch,.int .i64 b.seq,.int .i64 b.kind,.int .i64 b.time,.slice z.a z.len z.cap] T.a1)::slc T.a3 4 z (b.rs.flatMap z03)::slc T.a38 1 y ((z1p b).flatMap zg)::slc T.a38 1 x (t.s.file.flatMap zg)::pt a (.cells #[.pointer (some ⟨t.ix,0,none⟩),.int .i64 t.s.base,.int .i64 t.s.fin,.int .i64 (z0n t.s.bs),.int .i64 (z1t (-1) t.s.bs),.int .i64 (t.s.file.length:Nat)] T.a30)::z2v t.ix (t.s.idx M.gap)::HP.all ((M.SM.eraseIdx i).map λt=>z11 M.gap t.1 t.2)::pt lg (.cells #[.pointer (some ⟨M.d,0,none⟩),.string M.pre,.int .i64 M.seg,.int .i64 M.gap,.slice M.z.a M.z.len M.z.cap] T.a29)::slc T.a17 1 M.z ((M.SM.map Prod.fst).flatMap z1x)::dk M.d D::pt a1 (.cells [.int .i64 off].toArray T.a11)::pt a2 (.cells [.int .i64 (most:Int)].toArray T.a10)::r):=hs.sub
  have htold:=z02z (ao:=ao) (outs:=outs') (b.at z) off (most:Int) a1 a2 ho hzc (by omega) hs
  refine ⟨F.a56,#[],#[.pointer (some ⟨a1,0,none⟩),.pointer (some ⟨ao,0,none⟩),.pointer (some ⟨a2,0,none⟩)],rfl,by kernel_rfl,?_⟩
  refine Calls.mono htold λe w' ⟨vs,he,outs2,hvs,hmap2,hs⟩=>⟨(decide ((outs2.length:Int)<(most:Int)),()),by rw [he,hvs];rfl,trivial,?_⟩
  refine z4m ?_
  have hfe:(z17 off (b.at z)).toList.map BatM.p=(z17 off b).toList:=by
   have hpz:b={ (b.at z) with x:=z7l }:=by rw [<- hpb];rfl
   have e2:z17 off (b.at z)=(z17 off b).map λc=>c.at z:=by
    unfold z17
    have ev:z0c (b.at z)=z0c b:=rfl
    have en:z4a (b.at z)=z4a b:=rfl
    have em:z0y (b.at z)=z0y b:=rfl
    rw [ev,en,em]
    split
    ·rfl
    ·show (if z0y b=true\/off<=b.base then _ else _)=_
     split <;> rfl
   rw [e2]
   cases hfb:z17 off b with
   | none=>rfl
   | some c =>
    have:=zop hpb hfb
    show [(c.at z).p]=[c]
    have e3:(c.at z).p=c.p:=rfl
    rw [e3,this]
  rw [hfe,hmap,List.append_assoc,<- hfm] at hmap2
  have hlen2:=hfull hmap2
  have hfl1:(z17 off b).toList.length<=1:=by cases z17 off b <;> simp
  have hlen1:=hfull hmap
  rw [hfm,List.length_append] at hlen2
  have hback:∀ {w:World},Sat w (z5b ao outs2::pt c (.cells #[.int .i64 b.base,.int .i64 b.pid,.int .i64 b.epoch,.int .i64 b.seq,.int .i64 b.kind,.int .i64 b.time,.slice z.a z.len z.cap] T.a1)::slc T.a3 4 z (b.rs.flatMap z03)::slc T.a38 1 y ((z1p b).flatMap zg)::slc T.a38 1 x (t.s.file.flatMap zg)::pt a (.cells #[.pointer (some ⟨t.ix,0,none⟩),.int .i64 t.s.base,.int .i64 t.s.fin,.int .i64 (z0n t.s.bs),.int .i64 (z1t (-1) t.s.bs),.int .i64 (t.s.file.length:Nat)] T.a30)::z2v t.ix (t.s.idx M.gap)::HP.all ((M.SM.eraseIdx i).map λt=>z11 M.gap t.1 t.2)::pt lg (.cells #[.pointer (some ⟨M.d,0,none⟩),.string M.pre,.int .i64 M.seg,.int .i64 M.gap,.slice M.z.a M.z.len M.z.cap] T.a29)::slc T.a17 1 M.z ((M.SM.map Prod.fst).flatMap z1x)::dk M.d D::pt a1 (.cells [.int .i64 off].toArray T.a11)::pt a2 (.cells [.int .i64 (most:Int)].toArray T.a10)::r) ->
    Sat w (slc T.a38 1 x (t.s.file.flatMap zg)::pt a (.cells #[.pointer (some ⟨t.ix,0,none⟩),.int .i64 t.s.base,.int .i64 t.s.fin,.int .i64 (z0n t.s.bs),.int .i64 (z1t (-1) t.s.bs),.int .i64 (t.s.file.length:Nat)] T.a30)::z2v t.ix (t.s.idx M.gap)::HP.all ((M.SM.eraseIdx i).map λt=>z11 M.gap t.1 t.2)::pt lg (.cells #[.pointer (some ⟨M.d,0,none⟩),.string M.pre,.int .i64 M.seg,.int .i64 M.gap,.slice M.z.a M.z.len M.z.cap] T.a29)::slc T.a17 1 M.z ((M.SM.map Prod.fst).flatMap z1x)::z5b ao outs2::dk M.d D::pt a1 (.cells [.int .i64 off].toArray T.a11)::pt a2 (.cells [.int .i64 (most:Int)].toArray T.a10)::r):=λhs=>hs.sub
  have hs:=hback hs
  refine zk (λh5=>?_) λh5=>?_
  ·have h5:most<=outs2.length:=by
    have:¬ ((outs2.length:Int)<(most:Int)):=by simpa using h5
    omega
   have h6:outs2.length=most:=by omega
   have h7:((t.s.bs.drop k).filterMap (z17 off))=((t.s.bs.drop k).take (j+1)).filterMap (z17 off)++((t.s.bs.drop k).drop (j+1)).filterMap (z17 off):=by
    rw [<- List.filterMap_append,List.take_append_drop]
   have h8:=congrArg List.length hmap2
   simp only [List.length_map,List.length_append] at h8
   refine zv (zv ⟨rfl,outs2,?_,?_,by omega,hfin hs⟩)
   ·rw [decide_eq_false]
    rw [h7,List.length_append]
    omega
   ·rw [h7,<- List.append_assoc,<- hmap2]
    rw [List.take_append_of_le_length (by rw [List.length_map];omega),List.take_of_length_le (by rw [List.length_map];omega)]
  ·have h5:outs2.length<most:=by
    have:((outs2.length:Int)<(most:Int)):=by simpa using h5
    omega
   have ew:IntKind.wrap .i64 (((z3e t.s (k+j):Nat):Int)+((frL b).length:Nat))=((z3e t.s (k+(j+1)):Nat):Int):=by
    rw [show k+(j+1)=k+j+1 by omega,hpos,w64 (by omega) (by omega)];omega
   refine z1l (y:=((z3e t.s (k+(j+1)):Nat):Int)) ?_ ew
   exact z0q (t.s.bs.length-(k+(j+1))) ⟨j+1,outs2,rfl,by omega,rfl,hmap2,h5,by omega,hs⟩
end
def zel (pre:ByteArray) (l:List SegA) (D:DiskA):Prop:=∀ s ∈ l,∃ k,z06 D.fs (zi pre s.base zu)=some (s.file,k)
theorem zhx {l:List SegA} (hok:z0k 0 l):∀ s ∈ l,z2s l<=s.base:=by
 cases l with
 | nil=>intro s hs;cases hs
 | cons a l =>
  intro s hs
  show a.base<=s.base
  rcases List.mem_cons.1 hs with rfl|hs
  ·exact Int.le_refl _
  ·have:=(hok.2.2.mem s hs).2
   omega
theorem zft {l:List SegA} (hok:z0k 0 l):z2s l<=z01 l:=by
 by_cases h:l=[]
 ·subst h;decide
 ·obtain ⟨l0,s,rfl⟩:=z2r h
  have h1:=zhx hok s (by simp)
  have h2:=(z59 (hok.mem s (by simp)).1).1
  unfold z01
  rw [z20]
  simp only
  omega
theorem zy6 {n:Int} {bs:List BatM} (h:z25 n bs):∀ b ∈ bs,n<=b.base:=by
 intro b hb
 obtain ⟨j,hj,rfl⟩:=List.mem_iff_getElem.1 hb
 cases j with
 | zero =>
  cases bs with
  | nil=>simp at hj
  | cons c cs=>exact h.2.2.1
 | succ j =>
  have h1:=h.lt 0 (j+1) hj (by omega)
  obtain ⟨s1,-,-,-,-⟩:=z1e _ (h.valid _ (List.getElem_mem (show 0<bs.length by omega))).1
  omega
theorem zty {off:Int} {b:BatM} (hv:z0c b=0) (h:off<=b.base):z17 off b=some b:=by
 obtain ⟨s1,-,-,-,-⟩:=z1e b hv
 unfold z17
 rw [if_neg,if_pos (.inr h)]
 rintro (hh|hh)
 ·exact hh hv
 ·unfold z4a at hh;rw [if_neg (by rw [hv];simp)] at hh;omega
theorem zji {α:Type} {f:α->Option α} {l:List α} (h:∀ x ∈ l,f x=some x):l.filterMap f=l:=by
 induction l with
 | nil=>rfl
 | cons a l ih=>rw [List.filterMap_cons,h a (List.mem_cons_self ..)];simp only;rw [ih λx hx=>h x (List.mem_cons_of_mem _ hx)]
theorem zuh {l:List SegA} (hok:z0k 0 l) {n:Int} (hn:(z0o l).length<=n) (h1:1<=n):zdu l (z2s l) n=(0,z0o l):=by
 have:=zft hok
 unfold zdu
 rw [if_neg (by omega),if_neg (by omega),zji,List.take_of_length_le (by omega)]
 intro b hb
 obtain ⟨s,hs,hbs⟩:=List.mem_flatMap.1 hb
 have h2:=hok.mem s hs
 exact zty (h2.1.bs.valid b hbs).1 (by have:=zhx hok s hs;have:=zy6 h2.1.bs b hbs;omega)
section
variable {w:World} {l r r1 r2:List HP} {lg ao:Nat} {M:LogM} {A:LogA} {D:DiskA} {gap:Int} {a:Nat} {t:SegM} {outs:List BatM}
theorem zvw (i:Nat) (a0 a1:Nat) (off:Int) (hi:i<M.SM.length)
  (hs:Sat w (pt a0 (.cells [.pointer (some ⟨lg,0,none⟩)].toArray T.a16)::pt a1 (.cells [.int .i64 off].toArray T.a11)::lgQ lg M::r)) :
  Ret P F.a55 #[.int .i64 (i:Int),.pointer (some ⟨a0,0,none⟩),.pointer (some ⟨a1,0,none⟩)] w λvs w'=>vs=[.bool (decide (M.SM[i].2.s.base>off))]/\Sat w' (pt a0 (.cells [.pointer (some ⟨lg,0,none⟩)].toArray T.a16)::pt a1 (.cells [.int .i64 off].toArray T.a11)::lgQ lg M::r) :=
 zrk _ _ _ <| by
  unfold z014
  obtain ⟨hokm,hs⟩:=z34 (hs.pick [2])
  refine z0i hs λw' hs=>?_
  refine zd hs ?_
  refine zy ?_
  refine zd hs ?_
  refine z24 hs (xs:=M.SM.map Prod.fst) (enc:=z1x) i (by rw [List.length_map];exact hi) ?_
  have e0:(M.SM.map Prod.fst)[i]'(by rw [List.length_map];exact hi)=M.SM[i].1:=by simp
  rw [e0]
  refine zy ?_
  have hs:=z3x (z8c (hs.pick [2]) hi)
  refine zd hs ?_
  refine zd hs ?_
  refine wp_lt ?_
  refine zm ?_
  have hs:=z6j hi (z2x M.SM[i].2 hs)
  have hs:=z1v M hokm (hs.pick [1,1])
  exact ⟨rfl,rfl,hs.sub⟩
set_option maxHeartbeats 1000000 in
theorem zyh (off most:Int) (ho : -9223372036854775808<=off/\off<9223372036854775808) (hmo:most<9223372036854775808) {r1:List HP} [hf:Fo l lgP lg A r1] [hf2:Fo r1 dk A.d D r] (hok:z0k 0 A.l) (hhas:zel A.pre A.l D) (hlen:A.l.length<=1000000) (hall:(z0o A.l).length<=1000000) (hs:Sat w l) :
  Ret P F.a54 #[.pointer (some ⟨lg,0,none⟩),.int .i64 off,.int .i64 most] w λvs w'=>∃ (z:Sl) (outs:List BatM),vs=[z.v,.int .i64 (zdu A.l off most).1]/\outs.map BatM.p=(zdu A.l off most).2/\Sat w' (slc T.a1 7 z (outs.flatMap zw)::z0a outs::lgP lg A::dk A.d D::r) :=
 zre _ off most <| by
  clear hmo
  unfold z00b
  have hs:=hs.perm (hf.perm.trans (.cons _ hf2.perm))
  clear hf hf2
  obtain ⟨M,rfl,hs⟩:=z7s hs
  have hMl:M.A.l=M.l:=rfl
  have hMpre:M.A.pre=M.pre:=rfl
  have hMd:M.A.d=M.d:=rfl
  rw [hMl] at hlen hok hhas hall ⊢
  rw [hMpre] at hhas
  rw [hMd] at hs ⊢
  have hll:M.l.length=M.SM.length:=List.length_map ..
  have z5q:∀ (i:Nat) (h:i<M.SM.length),M.SM[i].2.s=M.l[i]'(by omega):=λi h=>by unfold LogM.l;simp
  obtain ⟨m_,FS_,-,hokD,-⟩:=z2l (hs.pick [1])
  refine z0b hs λa0 w' hs=>?_
  refine z0b hs λa1 w' hs=>?_
  refine z0b hs λa2 w' hs=>?_
  refine zd hs ?_
  refine wp_lt ?_
  refine z0j ?_ (by simp)
  refine zd hs ?_
  refine wp_lt ?_
  have hfin0:∀ {w:World} {L:List HP},Sat w (lgQ lg M::dk M.d D::r)->Sat w (slc T.a1 7 ⟨none,0,0⟩ (([]:List BatM).flatMap zw)::z0a []::lgP lg M.A::dk M.d D::r):=λhs=>(zfe (z5k M hs)).slc_nil
  unfold zdu
  refine zk (λh=>?_) λh=>?_
  ·rw [if_pos (show most<1 by omega)]
   have hs:Sat w' (lgQ lg M::dk M.d D::r):=hs.sub
   exact ⟨rfl,⟨none,0,0⟩,[],rfl,rfl,hfin0 (L:=[]) hs⟩
  rw [if_neg (show ¬ most<1 by omega)]
  refine zx (λq w'=>q=(decide (off<z2s M.l\/off>z01 M.l),())/\Sat w' (pt a2 (.cells [.int .i64 most].toArray T.a10)::pt a1 (.cells [.int .i64 off].toArray T.a11)::pt a0 (.cells [.pointer (some ⟨lg,0,none⟩)].toArray T.a16)::lgQ lg M::dk M.d D::r)) ?_ ?_
  ·refine z0i hs λw' hs=>?_
   refine z2c hs ?_
   refine zd hs ?_
   refine za (zgn (lg:=lg) hs) λ_ w' hs=>?_
   obtain ⟨rfl,hs⟩:=hs
   refine ze ?_ (by first|trivial|(repeat (first|exact trivial|exact λ_=>z0w hs|exact λ_=>z15 hs|refine And.intro ?_ ?_)))
   refine z2c hs ?_
   refine zd hs ?_
   refine zk (λh1=>?_) λh1=>?_
   ·refine zm ?_
    exact zj ⟨by rw [decide_eq_true (.inl h1)],hs.sub⟩
   ·refine za (zay (lg:=lg) (by omega) hs) λ_ w' hs=>?_
    obtain ⟨rfl,hs⟩:=hs
    refine ze ?_ (by first|trivial|(repeat (first|exact trivial|exact λ_=>z0w hs|exact λ_=>z15 hs|refine And.intro ?_ ?_)))
    refine wp_lt ?_
    refine zm ?_
    refine zj ⟨?_,hs.sub⟩
    rw [decide_eq_decide.2 (show (off<z2s M.l\/off>z01 M.l)↔off>z01 M.l from ⟨λhh=>hh.resolve_left h1,.inr⟩)]
  rintro _ w2 ⟨rfl,hs⟩
  refine zk (λh1=>?_) λh1=>?_
  ·have h1:off<z2s M.l\/off>z01 M.l:=by simpa using h1
   rw [if_pos h1]
   have hs:Sat w2 (lgQ lg M::dk M.d D::r):=hs.sub
   exact ⟨rfl,⟨none,0,0⟩,[],rfl,rfl,hfin0 (L:=[]) hs⟩
  have h1:¬ (off<z2s M.l\/off>z01 M.l):=by simpa using h1
  rw [if_neg h1]
  obtain ⟨mN,rfl⟩:∃ mN:Nat,most=(mN:Int):=⟨most.toNat,by omega⟩
  rw [Int.toNat_natCast]
  refine z05 hs λao w' hs=>?_
  refine zd hs ?_
  refine zy ?_
  obtain ⟨hokm,hs⟩:=z34 (hs.pick [4])
  refine zd hs ?_
  have hl:=hs.slen M.z (xs:=M.SM.map Prod.fst) (enc:=z1x)
  rw [List.length_map] at hl
  have hs:=z1v M hokm hs
  have hs:Sat w' (pt a0 (.cells [.pointer (some ⟨lg,0,none⟩)].toArray T.a16)::pt a1 (.cells [.int .i64 off].toArray T.a11)::lgQ lg M::pt ao (.cells #[.slice none 0 0] T.a18)::pt a2 (.cells [.int .i64 (mN:Int)].toArray T.a10)::dk M.d D::r):=hs.sub
  rw [hl]
  refine za (zl7 M.SM.length (by omega) F.a55 #[.pointer (some ⟨a0,0,none⟩),.pointer (some ⟨a1,0,none⟩)] (λi=>decide (((M.l.map SegA.base).getD i 0)>off)) (by kernel_rfl) (λi w hi hs=>?_) hs) λ_ w' hs=>?_
  ·have e:(M.l.map SegA.base).getD i 0=M.SM[i].2.s.base:=by
    rw [List.getD_eq_getElem?_getD,List.getElem?_map,List.getElem?_eq_getElem (by omega),z5q i hi];rfl
   simp only [e]
   exact zvw (M:=M) i a0 a1 off hi hs
  obtain ⟨i0,hi0,hs1,hs2,rfl,hs⟩:=hs
  refine ze ?_
  refine z1l (y:=(i0:Int)-1) ?_ (by rw [w64 (by omega) (by omega)])
  refine z1l (y:=((i0-1:Nat):Int)) ?_ (by split <;> omega)
  have hskip:i0-1<M.SM.length->(z0o M.l).filterMap (z17 off)=(z0o (M.l.drop (i0-1))).filterMap (z17 off):=λhlt=>by
   refine zur hok (i:=i0-1) (by omega) ?_
   by_cases h0:i0=0
   ·right;omega
   ·left
    have h2:=hs1 (by omega)
    rw [List.getD_eq_getElem?_getD,List.getElem?_map,List.getElem?_eq_getElem (by omega)] at h2
    have h2:decide ((M.l[i0-1]'(by omega)).base>off)=false:=h2
    simpa using h2
  have hs:Sat w' (z5b ao []::lgQ lg M::dk M.d D::pt a1 (.cells [.int .i64 off].toArray T.a11)::pt a2 (.cells [.int .i64 (mN:Int)].toArray T.a10)::pt a0 (.cells [.pointer (some ⟨lg,0,none⟩)].toArray T.a16)::r):=by
   have h3:Sat w' (slc T.a1 7 ⟨none,0,0⟩ (([]:List BatM).flatMap zw)::z0a []::_):=(zfe hs).slc_nil
   have h4:Sat w' (pt ao (.cells #[.slice none 0 0] T.a18)::slc T.a1 7 ⟨none,0,0⟩ (([]:List BatM).flatMap zw)::z0a []::lgQ lg M::dk M.d D::pt a1 (.cells [.int .i64 off].toArray T.a11)::pt a2 (.cells [.int .i64 (mN:Int)].toArray T.a10)::pt a0 (.cells [.pointer (some ⟨lg,0,none⟩)].toArray T.a16)::r):=h3.sub
   exact zdg (z:=⟨none,0,0⟩) h4
  refine zx (λ_ w'=>∃ outs:List BatM,outs.map BatM.p=((z0o M.l).filterMap (z17 off)).take mN/\Sat w' (z5b ao outs::lgQ lg M::dk M.d D::pt a1 (.cells [.int .i64 off].toArray T.a11)::pt a2 (.cells [.int .i64 (mN:Int)].toArray T.a10)::pt a0 (.cells [.pointer (some ⟨lg,0,none⟩)].toArray T.a16)::r)) ?_ ?_
  rotate_left
  ·rintro _ w3 ⟨outs,h4,hs⟩
   obtain ⟨z,hs⟩:=zjs hs
   refine zd hs ?_
   refine ⟨rfl,z,outs,rfl,h4,?_⟩
   have hs:Sat w3 (lgQ lg M::slc T.a1 7 z (outs.flatMap zw)::z0a outs::dk M.d D::r):=hs.sub
   have hs:=z5k M hs
   exact hs.sub
  have hpre:∀ (j:Nat),i0-1<=j->j<=M.l.length->(z0o ((M.l.drop (i0-1)).take (j-(i0-1)))).length<=1000000:=λj h1 h2=>by
   refine Nat.le_trans ?_ hall
   have:∀ (a b:List SegA),a.Sublist b->(z0o a).length<=(z0o b).length:=λa b h=>by
    induction h with
    | slnil=>exact Nat.le_refl _
    | cons x _ ih=>unfold z0o at *;rw [List.flatMap_cons,List.length_append];omega
    | cons_cons x _ ih=>unfold z0o at *;rw [List.flatMap_cons,List.flatMap_cons,List.length_append,List.length_append];omega
   exact this _ _ ((List.take_sublist _ _).trans (List.drop_sublist _ _))
  refine z0e (λm v w=>∃ (j:Nat) (outs:List BatM),v=((j:Int),())/\i0-1<=j/\(j<=M.SM.length\/j=i0-1)/\M.SM.length-j=m/\outs.map BatM.p=(z0o ((M.l.drop (i0-1)).take (j-(i0-1)))).filterMap (z17 off)/\outs.length<mN /\
   Sat w (z5b ao outs::lgQ lg M::dk M.d D::pt a1 (.cells [.int .i64 off].toArray T.a11)::pt a2 (.cells [.int .i64 (mN:Int)].toArray T.a10)::pt a0 (.cells [.pointer (some ⟨lg,0,none⟩)].toArray T.a16)::r)) (M.SM.length-(i0-1))
   ⟨i0-1,[],rfl,Nat.le_refl _,.inr rfl,rfl,by simp [z0o],by show 0<mN;omega,hs⟩ ?_
  clear hs
  rintro m _ w ⟨j,outs,rfl,hj1,hj2,hm,hmap,hlt,hs⟩
  refine zt ?_
  refine zd hs ?_
  refine zy ?_
  obtain ⟨hokm,hs⟩:=z34 (hs.pick [1])
  refine zd hs ?_
  refine zk (λhc=>?_) λhc=>?_
  rotate_left
  ·have hs:=z1v M hokm hs
   refine zv (zj ⟨outs,?_,hs.sub⟩)
   by_cases hlt2:i0-1<M.SM.length
   ·have hje:j=M.SM.length:=by omega
    rw [hskip hlt2,hmap,hje]
    rw [List.take_of_length_le (l:=M.l.drop (i0-1)) (by rw [List.length_drop];omega)] at hmap ⊢
    have:=congrArg List.length hmap
    rw [List.length_map] at this
    rw [List.take_of_length_le (by omega)]
   ·have h0:M.l=[]:=List.length_eq_zero_iff.1 (by omega)
    rw [hmap,h0]
    simp [z0o]
  have hjl:j<M.SM.length:=by omega
  refine zd hs ?_
  refine zy ?_
  refine zd hs ?_
  refine z24 hs (xs:=M.SM.map Prod.fst) (enc:=z1x) j (by rw [List.length_map];exact hjl) ?_
  have e0:(M.SM.map Prod.fst)[j]'(by rw [List.length_map];exact hjl)=M.SM[j].1:=by simp
  rw [e0]
  have hmem:M.SM[j].2.s ∈ M.l:=List.mem_map.2 ⟨_,List.getElem_mem hjl,rfl⟩
  have hsok:=(hok.mem _ hmem).1
  obtain ⟨kp,hfile⟩:=hhas _ hmem
  have hrl:M.SM[j].2.s.file.length<=4194304:=Nat.le_trans (zcw hfile) hokD.used
  have hbl:=zgr hsok
  obtain ⟨k,hk,hpl,hskp⟩:=zsq hsok hrl M.gap off
  have hlt2:i0-1<M.SM.length:=by omega
  have hstep:(M.l.drop (i0-1)).take (j+1-(i0-1))=(M.l.drop (i0-1)).take (j-(i0-1))++[M.SM[j].2.s]:=by
   rw [show j+1-(i0-1)=(j-(i0-1))+1 by omega,List.take_succ_eq_append_getElem (by rw [List.length_drop];omega),List.getElem_drop,z5q j hjl]
   congr 3
   omega
  have hnone:(M.SM[j].2.s.bs).filterMap (z17 off)=(M.SM[j].2.s.bs.drop k).filterMap (z17 off):=by
   have e:M.SM[j].2.s.bs=M.SM[j].2.s.bs.take k++M.SM[j].2.s.bs.drop k:=(List.take_append_drop _ _).symm
   calc (M.SM[j].2.s.bs).filterMap (z17 off)=(M.SM[j].2.s.bs.take k++M.SM[j].2.s.bs.drop k).filterMap (z17 off):=by rw [<- e]
    _=(M.SM[j].2.s.bs.drop k).filterMap (z17 off):=by
     rw [List.filterMap_append,zar (l:=M.SM[j].2.s.bs.take k),List.nil_append]
     intro b hb
     exact zgc (hsok.bs.valid b (List.mem_of_mem_take hb)).1 (hskp b hb)
  have hall2:(z0o ((M.l.drop (i0-1)).take (j+1-(i0-1)))).filterMap (z17 off)=(z0o ((M.l.drop (i0-1)).take (j-(i0-1)))).filterMap (z17 off)++(M.SM[j].2.s.bs.drop k).filterMap (z17 off):=by
   rw [hstep]
   unfold z0o
   rw [List.flatMap_append,List.filterMap_append,<- hnone]
   simp
  have hol:outs.length<=1000000:=by
   have:=congrArg List.length hmap
   rw [List.length_map] at this
   rw [this]
   exact Nat.le_trans (List.length_filterMap_le _ _) (hpre j hj1 (by omega))
  refine zx (λq w'=>∃ outs':List BatM,q=(decide (outs.length+((M.SM[j].2.s.bs.drop k).filterMap (z17 off)).length<mN),())/\outs'.map BatM.p=(outs.map BatM.p++(M.SM[j].2.s.bs.drop k).filterMap (z17 off)).take mN /\
    Sat w' (z5b ao outs'::lgQ lg M::dk M.d D::pt a1 (.cells [.int .i64 off].toArray T.a11)::pt a2 (.cells [.int .i64 (mN:Int)].toArray T.a10)::pt a0 (.cells [.pointer (some ⟨lg,0,none⟩)].toArray T.a16)::r)) ?_ ?_
  ·refine z0i hs λw' hs=>?_
   refine z2c hs ?_
   refine zd hs ?_
   have hs:=z8c (hs.pick [2]) hjl
   refine za (zyi (gap:=M.gap) (a:=M.SM[j].1) (t:=M.SM[j].2) off hsok hrl hs) λ_ w' hs=>?_
   obtain ⟨rfl,hs⟩:=hs
   refine ze ?_ (by first|trivial|(repeat (first|exact trivial|exact λ_=>z0w hs|exact λ_=>z15 hs|refine And.intro ?_ ?_)))
   refine zm ?_
   have hs:=z6j hjl hs
   have hs:=z1v M hokm (hs.pick [1,1])
   have hs:Sat w' (z5b ao outs::lgQ lg M::dk M.d D::pt a1 (.cells [.int .i64 off].toArray T.a11)::pt a2 (.cells [.int .i64 (mN:Int)].toArray T.a10)::pt a0 (.cells [.pointer (some ⟨lg,0,none⟩)].toArray T.a16)::r):=hs.sub
   rw [hpl]
   refine za (z02x off mN a1 a2 ho hjl hsok hfile hk hlt (by omega) hs) λ_ w' hs=>?_
   obtain ⟨outs',rfl,hm2,-,hs⟩:=hs
   refine ze ?_
   refine wp_lt ?_
   refine zm ?_
   exact zj ⟨outs',rfl,hm2,hs⟩
  clear hs
  rintro _ w3 ⟨outs',rfl,hm2,hs⟩
  rw [hmap,<- hall2] at hm2
  have hlm:=congrArg List.length hmap
  rw [List.length_map] at hlm
  refine zk (λh5=>?_) λh5=>?_
  ·have h5:¬ (outs.length+((M.SM[j].2.s.bs.drop k).filterMap (z17 off)).length<mN):=by simpa using h5
   refine zv (zj ⟨outs',?_,hs⟩)
   rw [hm2,hskip hlt2]
   have e:z0o (M.l.drop (i0-1))=z0o ((M.l.drop (i0-1)).take (j+1-(i0-1)))++z0o ((M.l.drop (i0-1)).drop (j+1-(i0-1))):=by
    unfold z0o;rw [<- List.flatMap_append,List.take_append_drop]
   rw [e,List.filterMap_append,List.take_append_of_le_length]
   rw [hall2,List.length_append]
   omega
  ·have h5:(outs.length+((M.SM[j].2.s.bs.drop k).filterMap (z17 off)).length<mN):=by simpa using h5
   refine z1l (y:=((j+1:Nat):Int)) ?_ (by rw [w64 (by omega) (by omega)];omega)
   have hll2:((z0o ((M.l.drop (i0-1)).take (j+1-(i0-1)))).filterMap (z17 off)).length<mN:=by rw [hall2,List.length_append];omega
   rw [List.take_of_length_le (by omega)] at hm2
   have hl3:=congrArg List.length hm2
   rw [List.length_map] at hl3
   exact z0q (M.SM.length-(j+1)) ⟨j+1,outs',rfl,by omega,.inl (by omega),rfl,hm2,by omega,hs⟩
theorem z03h {r1:List HP} [hf:Fo l lgP lg A r1] [hf2:Fo r1 dk A.d D r] (hok:z0k 0 A.l) (hhas:zel A.pre A.l D) (hlen:A.l.length<=1000000) (hall:(z0o A.l).length<=1000000) (hs:Sat w l) :
  Ret P F.a50 #[.pointer (some ⟨lg,0,none⟩)] w λvs w'=>∃ (z:Sl) (outs:List BatM),vs=[z.v]/\outs.map BatM.p=z0o A.l/\Sat w' (slc T.a1 7 z (outs.flatMap zw)::z0a outs::lgP lg A::dk A.d D::r) :=
 zqb _ <| by
  unfold z01x
  have hs:=hs.perm (hf.perm.trans (.cons _ hf2.perm))
  clear hf hf2
  have hfn:=zft hok
  have hnx:=hok.next (Int.le_refl 0)
  have hf0:0<=z2s A.l:=by
   cases hq:A.l with
   | nil=>decide
   | cons s l0=>rw [hq] at hok;have:=hok.1;exact this
  refine z0j ?_ (by simp)
  obtain ⟨M,hM,hs⟩:=z7s hs
  subst hM
  refine za (zgn (lg:=lg) hs) λ_ w' hs=>?_
  obtain ⟨rfl,hs⟩:=hs
  refine ze ?_
  have hs:=z5k M hs
  have hfn:z2s M.l<=z01 M.l:=hfn
  have hnx:0<=z01 M.l/\z01 M.l<=1099511627777:=hnx
  have hf0:0<=z2s M.l:=hf0
  refine za (zyh (lg:=lg) (A:=M.A) (D:=D) (z2s M.l) 1099511627776 (by omega) (by omega) hok hhas hlen hall hs) λ_ w' hs=>?_
  obtain ⟨z,outs,rfl,hmap,hs⟩:=hs
  refine ze ?_
  refine wp_lt ?_
  have hra:zdu M.A.l (z2s M.l) 1099511627776=(0,z0o M.A.l):=zuh hok (by omega) (by omega)
  rw [hra] at hmap
  exact ⟨rfl,z,outs,rfl,hmap,hs⟩
end
def zj5 (seg gap:Int):Prop:=(64<=seg/\seg<=4194304)/\(1<=gap/\gap<=4194304)
instance (seg gap:Int):Decidable (zj5 seg gap):=by unfold zj5;infer_instance
section
variable {w:World} {l r:List HP} {lg d:Nat} {M:LogM} {A:LogA} {D:DiskA}
set_option maxHeartbeats 1000000 in
theorem zgo (pre:ByteArray) (seg gap:Int) (hp:z5a pre=true) (hc:zj5 seg gap) (hg:D.gone=false) [hf:Fo l dk d D r] (hs:Sat w l):Ret P F.a70 #[.pointer (some ⟨d,0,none⟩),.string pre,.agg #[.int .i64 seg,.int .i64 gap]] w λvs w' =>
  ((z36 pre D).1≠0/\vs=[.pointer none,.int .i64 (z36 pre D).1]/\Sat w' (dk d (z36 pre D).2.2::r)) \/
  ((z36 pre D).1=0/\∃ lg,vs=[.pointer (some ⟨lg,0,none⟩),.int .i64 0]/\Sat w' (lgP lg ⟨d,pre,seg,gap,(z36 pre D).2.1⟩::dk d (z36 pre D).2.2::r)) :=
 zq5 _ pre seg gap <| by
  unfold z013
  have hs:=hs.perm hf.perm
  obtain ⟨m_,FS_,-,hokD,-⟩:=z2l hs
  refine z0b hs λa0 w' hs=>?_
  refine wp_lt ?_
  refine z0j ?_ (by simp)
  refine zx (λq w'=>q=(false,())/\Sat w' (dk d D::pt a0 (.cells #[.int .i64 seg,.int .i64 gap] T.a28)::r)) ?_ ?_
  ·refine za (zvj pre hs) λ_ w' hs=>?_
   obtain ⟨rfl,hs⟩:=hs
   refine ze ?_
   refine z02 hs ?_
   refine z0j ?_ (by rw [hp];simp)
   refine za (z01l seg gap hs) λ_ w' hs=>?_
   obtain ⟨rfl,hs⟩:=hs
   refine ze ?_
   refine wp_lt ?_
   refine zj ⟨?_,hs.sub⟩
   have:((64<=seg/\seg<=4194304)/\(1<=gap/\gap<=4194304)):=hc
   rw [decide_eq_true this]
   rfl
  rintro _ w2 ⟨rfl,hs⟩
  refine z0j ?_ (by simp)
  refine za (z00k (d:=d) hs) λ_ w' hs=>?_
  obtain ⟨rfl,hs⟩:=hs
  refine ze ?_
  refine wp_lt ?_
  refine z0j ?_ (by rw [hg];simp)
  refine z02 hs ?_
  refine z0b hs λlg w' hs=>?_
  have hokm:okM gap seg pre:=⟨hc.2,hc.1,hp⟩
  have hs:Sat w' (lgQ lg ⟨d,pre,seg,gap,⟨none,0,0⟩,[]⟩::dk d D::r):=by
   refine z1v ⟨d,pre,seg,gap,⟨none,0,0⟩,[]⟩ hokm ?_
   have h1:Sat w' (HP.all (([]:List (Nat × SegM)).map λt=>z11 gap t.1 t.2)::pt lg (.cells #[.pointer (some ⟨d,0,none⟩),.string pre,.int .i64 seg,.int .i64 gap,.slice none 0 0] T.a29)::dk d D::r):=by
    have hs:Sat w' (pt lg (.cells #[.pointer (some ⟨d,0,none⟩),.string pre,.int .i64 seg,.int .i64 gap,.slice none 0 0] T.a29)::dk d D::r):=hs.sub
    exact Sat.all_nil hs
   have h2:Sat w' (slc T.a17 1 ⟨none,0,0⟩ (((([]:List (Nat × SegM))).map Prod.fst).flatMap z1x)::_):=h1.slc_nil
   exact h2.pick [2]
  unfold z36
  refine za (zyp (lg:=lg) (M:=⟨d,pre,seg,gap,⟨none,0,0⟩,[]⟩) (D:=D) hs) λ_ w' hs=>?_
  have hnl:(z0t pre (z12 (z13 pre) D.fs) D).2.1.length<=128:=by
   refine Nat.le_trans zfy ?_
   unfold z12
   exact Nat.le_trans (List.length_filter_le _ _) (by rw [List.length_map];exact hokD.many)
  have hlt:=zi1 (pre:=pre) (ns:=z12 (z13 pre) D.fs) (D:=D)
  rcases hs with ⟨he,rfl,hs⟩|⟨he,x,rfl,hs⟩
  ·have he:(z0t pre (z12 (z13 pre) D.fs) D).1≠0:=he
   refine ze ?_
   refine wp_lt ?_
   refine z1b ?_ he
   refine wp_lt ?_
   rw [if_pos he]
   exact ⟨rfl,.inl ⟨he,rfl,hs.tail⟩⟩
  have he:(z0t pre (z12 (z13 pre) D.fs) D).1=0:=he
  refine ⟨(x,0,()),rfl,trivial,z37 _ _ ?_⟩
  refine wp_lt ?_
  refine z0j ?_ (by simp)
  rw [if_neg (by rw [he];simp)]
  have hs:Sat w' (slc T.a11 1 x ((z0t pre (z12 (z13 pre) D.fs) D).2.1.flatMap z2t)::lgQ lg ⟨d,pre,seg,gap,⟨none,0,0⟩,[]⟩::dk d (z0t pre (z12 (z13 pre) D.fs) D).2.2::r):=hs
  generalize (z0t pre (z12 (z13 pre) D.fs) D).2.2=D1 at *
  generalize (z0t pre (z12 (z13 pre) D.fs) D).2.1=bs at *
  have hl:=hs.slen x (xs:=bs) (enc:=z2t)
  have hcap:=hs.slc_cap
  refine zx (λq w'=>∃ M:LogM,q=((z2a pre bs [] D1).1,())/\(M.d=d/\M.pre=pre/\M.seg=seg/\M.gap=gap)/\M.l=(z2a pre bs [] D1).2.1/\Sat w' (lgQ lg M::dk d (z2a pre bs [] D1).2.2::r)) ?_ ?_
  rotate_left
  ·rintro _ w3 ⟨M,rfl,⟨rfl,rfl,rfl,rfl⟩,h2,hs⟩
   refine zk (λh=>?_) λh=>?_
   ·refine wp_lt ?_
    exact ⟨rfl,.inl ⟨h,rfl,hs.tail⟩⟩
   ·have h:(z2a M.pre bs [] D1).1=0:=Decidable.not_not.1 h
    refine ⟨rfl,.inr ⟨h,lg,rfl,?_⟩⟩
    have:=z5k M hs
    have e:M.A=⟨M.d,M.pre,M.seg,M.gap,(z2a M.pre bs [] D1).2.1⟩:=by rw [<- h2];rfl
    rw [<- e]
    exact this
  refine z0e (λm v w=>∃ (i:Nat) (M:LogM) (D':DiskA),v=((0:Int),((i:Int),()))/\i<=bs.length/\bs.length-i=m/\M.SM.length<=i/\z2a pre bs [] D1=z2a pre (bs.drop i) M.l D'/\(M.d=d/\M.pre=pre/\M.seg=seg/\M.gap=gap) /\
   Sat w (slc T.a11 1 x (bs.flatMap z2t)::lgQ lg M::dk d D'::r)) bs.length ⟨0,⟨d,pre,seg,gap,⟨none,0,0⟩,[]⟩,D1,rfl,by omega,rfl,by simp,rfl,⟨rfl,rfl,rfl,rfl⟩,hs⟩ ?_
  clear hs
  rintro m _ w ⟨i,M,D',rfl,hi,hm,hsm,hq,⟨rfl,rfl,rfl,rfl⟩,hsn⟩
  have hs:=hsn
  refine zt ?_
  refine zk (λhcc=>?_) λhcc=>?_
  rotate_left
  ·have e:bs.drop i=[]:=List.drop_eq_nil_of_le (by omega)
   rw [e] at hq
   have hq:z2a M.pre bs [] D1=(0,M.l,D'):=hq
   rw [hq]
   exact zv (zj ⟨M,rfl,⟨rfl,rfl,rfl,rfl⟩,rfl,hs.sub⟩)
  have hil:i<bs.length:=by omega
  rw [List.drop_eq_getElem_cons hil] at hq
  have hbb:=hlt bs[i] (List.getElem_mem hil)
  have hun:z2a M.pre (bs[i]::bs.drop (i+1)) M.l D'=if bs[i]<z01 M.l then (if (z0v D' (zi M.pre bs[i] zu)).1≠0 then ((z0v D' (zi M.pre bs[i] zu)).1,M.l,(z0v D' (zi M.pre bs[i] zu)).2) else z2a M.pre (bs.drop (i+1)) M.l (z0v D' (zi M.pre bs[i] zu)).2) else
   if (z1k M.pre M.l D' bs[i]).1.2≠0 then ((z1k M.pre M.l D' bs[i]).1.2,(z1k M.pre M.l D' bs[i]).2) else
   if (z1k M.pre M.l D' bs[i]).1.1=true then z2a M.pre (bs.drop (i+1)) (z1k M.pre M.l D' bs[i]).2.1 (z1k M.pre M.l D' bs[i]).2.2 else ((z2d M.pre (bs.drop (i+1)) (z1k M.pre M.l D' bs[i]).2.2).1,(z1k M.pre M.l D' bs[i]).2.1,(z2d M.pre (bs.drop (i+1)) (z1k M.pre M.l D' bs[i]).2.2).2):=rfl
  have ei:IntKind.wrap .i64 ((i:Int)+1)=((i+1:Nat):Int):=by rw [w64 (by omega) (by omega)];omega
  refine zx (λq w'=>∃ (M2:LogM) (D2:DiskA),q=((0:Int),())/\M2.SM.length<=i+1/\z2a M.pre bs [] D1=z2a M.pre (bs.drop (i+1)) M2.l D2/\(M2.d=M.d/\M2.pre=M.pre/\M2.seg=M.seg/\M2.gap=M.gap) /\
   Sat w' (slc T.a11 1 x (bs.flatMap z2t)::lgQ lg M2::dk M.d D2::r)) ?_ ?_
  rotate_left
  ·rintro _ w3 ⟨M2,D2,rfl,h1,h2,h3,hs⟩
   rw [ei]
   exact z0q (bs.length-(i+1)) ⟨i+1,M2,D2,rfl,by omega,rfl,h1,h2,h3,hs⟩
  refine z24 hs (xs:=bs) (enc:=z2t) i hil ?_
  refine wp_lt ?_
  refine wp_lt ?_
  refine za (zay (lg:=lg) (by omega) hs) λ_ w' hs=>?_
  obtain ⟨rfl,hs⟩:=hs
  refine ze ?_
  refine zk (λh1=>?_) λh1=>?_
  ·rw [if_pos h1] at hun
   obtain ⟨hokm,hs⟩:=z96 hs
   refine za (z7r (lg:=lg) bs[i] hbb (ByteArray.mk #[46,108,111,103]) (by decide) M.pre hokm.size hs) λ_ w' hs=>?_
   obtain ⟨rfl,hs⟩:=hs
   refine ze ?_
   refine za (zby (d:=M.d) (A:=D') (zi M.pre bs[i] (bl (ByteArray.mk #[46,108,111,103]))) hs) λ_ w' hs=>?_
   obtain ⟨rfl,hs⟩:=hs
   refine ze ?_
   refine wp_lt ?_
   have en:zi M.pre bs[i] (bl (ByteArray.mk #[46,108,111,103]))=zi M.pre bs[i] zu:=rfl
   rw [en] at hs ⊢
   have hs:=z55 M hokm (hs.pick [1,1])
   refine zk (λh2=>?_) λh2=>?_
   ·rw [if_pos h2] at hun
    rw [hun] at hq
    rw [hq]
    exact zv (zv (zj ⟨M,rfl,⟨rfl,rfl,rfl,rfl⟩,rfl,hs.sub⟩))
   ·rw [if_neg h2] at hun
    rw [hun] at hq
    have h2:=Decidable.not_not.1 h2
    rw [h2]
    exact zj ⟨M,_,rfl,by omega,hq,⟨rfl,rfl,rfl,rfl⟩,hs.sub⟩
  ·rw [if_neg h1] at hun
   refine za (z03i (lg:=lg) (D:=D') bs[i] hbb (by omega) hs) λ_ w' hs=>?_
   obtain ⟨rfl,M2,⟨e1,e2,e3,e4⟩,hMl,hMs,hs⟩:=hs
   refine ze ?_
   refine wp_lt ?_
   refine wp_lt ?_
   have hs:Sat w' (lgQ lg M2::dk M.d (z1k M.pre M.l D' bs[i]).2.2::slc T.a11 1 x (bs.flatMap z2t)::r):=hs
   generalize z1k M.pre M.l D' bs[i]=SC at *
   obtain ⟨⟨b0,e0⟩,l0,D0⟩:=SC
   dsimp only at hun hMl hs ⊢
   refine zk (λh2=>?_) λh2=>?_
   ·obtain ⟨h2a,h2b⟩:=h2
    have h2a:e0=0:=h2a
    have h2b:b0=false:=by simpa using h2b
    rw [if_neg (by rw [h2a];simp),if_neg (by rw [h2b];simp)] at hun
    rw [ei]
    refine wp_must (by omega) ?_
    rw [Int.toNat_natCast]
    rw [<- e1] at hs
    have hx:FocR (slc T.a11 1 x (bs.flatMap z2t)::r) ⟨z1g x.a 1 (i+1) x.cap,x.len-(i+1),x.cap-(i+1)⟩ 1 ((bs.drop (i+1)).flatMap z2t):=FocR.post hcap
    refine za (zz8 (lg:=lg) (M:=M2) (D:=D0) ⟨z1g x.a 1 (i+1) x.cap,x.len-(i+1),x.cap-(i+1)⟩ (bs.drop (i+1)) (λb hb=>hlt b (List.mem_of_mem_drop hb)) hx (by rw [List.length_drop];omega) hs) λ_ w' hs=>?_
    obtain ⟨rfl,hs⟩:=hs
    refine ze ?_
    refine wp_lt ?_
    rw [e2,e1] at hs
    rw [e2]
    rw [hun] at hq
    rw [hq]
    refine zv (zv (zj ⟨M2,rfl,⟨e1,e2,e3,e4⟩,hMl,hs.sub⟩))
   ·refine zk (λh3=>?_) λh3=>?_
    ·rw [if_pos h3] at hun
     rw [hun] at hq
     rw [hq]
     refine zv (zv (zj ⟨M2,rfl,⟨e1,e2,e3,e4⟩,hMl,hs.sub⟩))
    ·have h3:e0=0:=Decidable.not_not.1 h3
     have h4:b0=true:=by
      cases hb0:b0 with
      | true=>rfl
      | false=>exact absurd ⟨h3,by rw [hb0];simp⟩ h2
     rw [if_neg (by rw [h3];simp),if_pos h4,<- hMl] at hun
     rw [hun] at hq
     rw [h3]
     exact zj ⟨M2,D0,rfl,by omega,hq,⟨e1,e2,e3,e4⟩,hs.sub⟩
end
theorem z9u:∀ {bs:List BatM} {n:Int},0<=n->(z00 n bs).1=0->z25 n ((z00 n bs).2.map BatM.p)/\(∀ b ∈ (z00 n bs).2,n<=b.base)
 | [],n,_,_=>⟨trivial,λ_ h=>by cases h⟩
 | b::bs,n,hn,h=>by
  unfold z00 at h ⊢
  by_cases h1:z0c (b.to n)≠0
  ·rw [if_pos h1] at h;exact absurd h h1
  rw [if_neg h1] at h ⊢
  by_cases h2:(z00 (n+z0d b) bs).1≠0
  ·rw [if_pos h2] at h;exact absurd h h2
  rw [if_neg h2]
  have hv:=Decidable.not_not.1 h1
  obtain ⟨s1,-,-,-,-⟩:=z1e _ hv
  have s1:1<=z0d b:=s1
  obtain ⟨i1,i2⟩:=z9u (n:=n+z0d b) (by omega) (Decidable.not_not.1 h2)
  refine ⟨⟨hv,rfl,Int.le_refl _,i1⟩,λc hc=>?_⟩
  rcases List.mem_cons.1 hc with rfl|hc
  ·exact Int.le_refl _
  ·have:=i2 c hc;omega
theorem z25.append:∀ {n:Int} {cs bs:List BatM},0<=n->z25 n cs->z25 (max n (z0n cs)) bs->z25 n (cs++bs)
 | n,[],bs,hn,_,h2=>h2.mono (by show n<=max n 0;omega)
 | n,a::cs,bs,hn,⟨h1,h2,h3,h4⟩,hb=>by
  obtain ⟨s1,-,⟨-,hba,-⟩,-,-⟩:=z1e a h1
  refine ⟨h1,h2,h3,h4.append (by omega) (hb.mono ?_)⟩
  have h5:a.base+z0d a<=z0n (a::cs):=z25.le_next (n:=n) (bs:=a::cs) ⟨h1,h2,h3,h4⟩ (List.mem_cons_self ..)
  have h6:z0n cs<=z0n (a::cs):=by
   cases cs with
   | nil=>show (0:Int)<=_;omega
   | cons c ds=>exact Int.le_refl _
  omega
theorem z0k.mono {m n:Int} {l:List SegA} (h:z0k n l) (hm:m<=n):z0k m l:=by
 cases l with
 | nil=>trivial
 | cons s l=>exact ⟨by have:=h.1;omega,h.2.1,h.2.2⟩
theorem z3a (l:List SegA) (s:SegA):z01 (l++[s])=s.reach:=by unfold z01;rw [z20]
theorem zc1 (l:List SegA) (s:SegA):z5u (l++[s])=s.base:=by unfold z5u;rw [z20]
theorem z39 (l:List SegA) (s:SegA) (bs:List BatM):z5g (l++[s]) bs=l++[s.add bs]:=by unfold z5g;rw [z20];simp
theorem z0k.snoc:∀ {n:Int} {l:List SegA} {s:SegA},z0k n l->SegOk s->n<=s.base->(∀ t ∈ l,t.reach<=s.base/\t.base<s.base)->z0k n (l++[s])
 | n,[],s,_,hs,hn,_=>⟨hn,hs,trivial⟩
 | n,a::l,s,⟨h1,h2,h3⟩,hs,hn,ht=>by
  have:=ht a (List.mem_cons_self ..)
  exact ⟨h1,h2,h3.snoc hs (by omega) λt h=>ht t (List.mem_cons_of_mem _ h)⟩
theorem z0k.front:∀ {n:Int} {l:List SegA} {s:SegA},z0k n (l++[s])->z0k n l/\SegOk s/\n<=s.base/\∀ t ∈ l,t.reach<=s.base/\t.base<s.base
 | n,[],s,h=>⟨trivial,h.2.1,h.1,λ_ h=>by cases h⟩
 | n,a::l,s,⟨h1,h2,h3⟩=>by
  obtain ⟨i1,i2,i3,i4⟩:=h3.front
  have:=(z59 h2).1
  refine ⟨⟨h1,h2,i1⟩,i2,by omega,λt ht=>?_⟩
  rcases List.mem_cons.1 ht with rfl|ht
  ·omega
  ·exact i4 t ht
theorem ztg {s:SegA} (hs:SegOk s) {bs:List BatM} {n:Int} (h:(z00 n bs).1=0) (hn:n=s.reach):SegOk (s.add (z00 n bs).2):=by
 have hr:=z59 hs
 have hb:=hs.base
 refine ⟨hs.base,hs.fin,?_⟩
 subst hn
 have hm:max s.base (z0n s.bs)<=s.reach:=by omega
 exact hs.bs.append hb.1 ((z9u (by omega) h).1.mono hm)
theorem zmz {bs:List BatM} {n:Int} (h:(z00 n bs).1=0) (hb:bs≠[]):0<=n/\n<=1099511627776:=by
 cases bs with
 | nil=>exact absurd rfl hb
 | cons b bs =>
  unfold z00 at h
  by_cases h1:z0c (b.to n)≠0
  ·rw [if_pos h1] at h;exact absurd h h1
  ·obtain ⟨-,-,⟨-,hba,-⟩,-,-⟩:=z1e _ (Decidable.not_not.1 h1)
   exact hba
def z16 (seg:Int) (l:List SegA) (bs:List BatM):(Int × Int) × List SegA :=
 if bs=[] then ((0,3),l) else if (z00 (z01 l) bs).1≠0 then ((0,(z00 (z01 l) bs).1),l) else
 ((z01 l,0),if z3o seg l ((z00 (z01 l) bs).2.flatMap frL).length then z5g l (z00 (z01 l) bs).2 else l++[(⟨z01 l,0,[]⟩:SegA).add (z00 (z01 l) bs).2])
theorem z80 {seg:Int} {l:List SegA} {bs:List BatM} (h:z0k 0 l):z0k 0 (z16 seg l bs).2:=by
 unfold z16
 split
 ·exact h
 rename_i hb
 split
 ·exact h
 rename_i hp
 have hp:=Decidable.not_not.1 hp
 have hv:=zmz hp hb
 simp only
 split
 ·rename_i hr
  have hne:l≠[]:=by rintro rfl;cases hr
  obtain ⟨l0,s,rfl⟩:=z2r hne
  rw [z39]
  obtain ⟨h1,h2,h3,h4⟩:=h.front
  exact h1.snoc (ztg h2 hp (z3a _ _)) h3 h4
 ·rename_i hr
  have hs:SegOk ((⟨z01 l,0,[]⟩:SegA).add (z00 (z01 l) bs).2):=by
   refine ⟨hv,.inl rfl,?_⟩
   show z25 _ ([]++_)
   rw [List.nil_append]
   exact (z9u hv.1 hp).1
  refine h.snoc hs hv.1 λt ht=>?_
  show t.reach<=z01 l/\t.base<z01 l
  have hne:l≠[]:=List.ne_nil_of_mem ht
  obtain ⟨l0,s,rfl⟩:=z2r hne
  obtain ⟨h1,h2,h3,h4⟩:=h.front
  rw [z3a]
  have hsr:=z59 h2
  have hlast:s.base<s.reach:=by
   have hr2:z3o seg (l0++[s]) ((z00 (z01 (l0++[s])) bs).2.flatMap frL).length=false:=by simpa using hr
   unfold z3o at hr2
   rw [z20] at hr2
   simp only [Bool.or_eq_false_iff,decide_eq_false_iff_not] at hr2
   have hbs:s.bs≠[]:=by rintro hbs;rw [hbs] at hr2;exact hr2.1 rfl
   have:=hsr.2.2.2.2 hbs
   omega
  rcases List.mem_append.1 ht with ht|ht
  ·have:=h4 t ht;omega
  ·simp only [List.mem_cons,List.not_mem_nil,or_false] at ht
   subst ht
   exact ⟨Int.le_refl _,hlast⟩
theorem zs8 (pre:ByteArray) (seg:Int) (l:List SegA) (D:DiskA) (bs:List BatM):((z0s pre seg l D bs).1=(z16 seg l bs).1/\(z0s pre seg l D bs).2.1=(z16 seg l bs).2)\/((z0s pre seg l D bs).1.1=0/\(z0s pre seg l D bs).1.2≠0/\(z0s pre seg l D bs).2.1=l/\(z16 seg l bs).1.2=0):=by
 unfold z0s z16
 split
 ·exact .inl ⟨rfl,rfl⟩
 split
 ·exact .inl ⟨rfl,rfl⟩
 split
 ·split
  ·rename_i h;exact .inr ⟨rfl,h,rfl,rfl⟩
  ·exact .inl ⟨rfl,rfl⟩
 ·split
  ·rename_i h;exact .inr ⟨rfl,h,rfl,rfl⟩
  split
  ·rename_i h;exact .inr ⟨rfl,h,rfl,rfl⟩
  ·exact .inl ⟨rfl,rfl⟩
theorem zia {pre:ByteArray} {seg:Int} {l:List SegA} {D:DiskA} {bs:List BatM} (h:z0k 0 l):z0k 0 (z0s pre seg l D bs).2.1:=by
 rcases zs8 pre seg l D bs with ⟨-,h2⟩|⟨-,-,h2,-⟩
 ·rw [h2];exact z80 h
 ·rw [h2];exact h
section
variable {w:World} {l r:List HP} {d:Nat} {D:DiskA}
theorem ztu (n:ByteArray) (p:List UInt8 × Nat) (hfd:z06 D.fs n=some p) [hf:Fo l dk d D r] (hs:Sat w l):Ret P F.a8 #[.pointer (some ⟨d,0,none⟩),.string n] w λvs w'=>∃ z:Sl,vs=[z.v,.int .i64 0]/\Sat w' (slc T.a38 1 z (p.1.flatMap zg)::dk d D::r):=by
 obtain ⟨m_,FS_,-,hokD,-⟩:=z2l (hs.perm hf.perm)
 refine (zjt (d:=d) (A:=D) n hs).mono λvs w' h=>?_
 rcases h with ⟨f,hff,hfn,x,rfl,hs⟩|⟨hno,rfl,hs⟩
 ·have hfd2:z06 D.fs f.name=some (f.b,f.kept):=z7h (z2j hokD.sorted) hff
  rw [hfn,hfd] at hfd2
  simp only [Option.some.injEq] at hfd2
  rw [hfd2]
  exact ⟨x,rfl,hs⟩
 ·rw [z8o.2 hno] at hfd;cases hfd
end
structure SegR where
 base:Int
 fin:Int
 x:Sl
 bs:List BatM
structure RefM where
 seg:Int
 gap:Int
 SR:List SegR
def SegR.p (s:SegR):SegA:=⟨s.base,s.fin,s.bs.map BatM.p⟩
def RefM.l (R:RefM):List SegA:=R.SR.map SegR.p
def RefM.bs (R:RefM):List BatM:=R.SR.flatMap SegR.bs
def z0z (s:SegR):List Value:=[.int .i64 s.base,.int .i64 s.fin,.slice s.x.a s.x.len s.x.cap]
instance:EncA z0z [.int .i64,.int .i64,.slc] (λs=>(s.base,s.fin,s.x,())):=⟨λ_=>rfl⟩
instance:EncN z0z 3:=⟨λ_=>rfl,by decide,by simp [z0z,Value.oneCell']⟩
instance:EncF z0z 0 (.int .i64) (λs=>s.base):=⟨λ_=>rfl⟩
def z2b (s:SegR):HP:=slc T.a1 7 s.x (s.bs.flatMap zw)
def rfQ (a:Nat) (z:Sl) (R:RefM):HP:=HP.star (pt a (.cells #[.int .i64 R.seg,.int .i64 R.gap,.slice z.a z.len z.cap] T.a35)) (HP.star (slc T.a37 3 z (R.SR.flatMap z0z)) (HP.all (R.SR.map z2b)))
def rfP (a:Nat) (R:RefM):HP:=HP.ex λz:Sl=>rfQ a z R
section
variable {w:World} {l r:List HP} {a:Nat} {R:RefM}
theorem z77 (hs:Sat w (rfP a R::l)):∃ z:Sl,Sat w (pt a (.cells #[.int .i64 R.seg,.int .i64 R.gap,.slice z.a z.len z.cap] T.a35)::slc T.a37 3 z (R.SR.flatMap z0z)::HP.all (R.SR.map z2b)::l):=by
 obtain ⟨z,hs⟩:=hs.ex
 have hs:=hs.star
 exact ⟨z,((hs.pick [1]).star).pick [2]⟩
theorem z3v (R:RefM) {z:Sl} (hs:Sat w (pt a (.cells #[.int .i64 R.seg,.int .i64 R.gap,.slice z.a z.len z.cap] T.a35)::slc T.a37 3 z (R.SR.flatMap z0z)::HP.all (R.SR.map z2b)::l)):Sat w (rfP a R::l) :=
 .ex_mk z (.star_mk (((hs.pick [1,1]).star_mk).pick [1]))
theorem z94 {SR:List SegR} {s:SegR} (hm:s ∈ SR) [hf:Foc l (HP.all (SR.map z2b)) r]:FocR l s.x 7 (s.bs.flatMap zw):=⟨λw hs=>by
 obtain ⟨L,hs⟩:=(hs.perm hf.perm).all_mem hm
 exact Sat.rd hs⟩
theorem zao:R.l.length=R.SR.length:=List.length_map ..
theorem z88:z0o R.l=R.bs.map BatM.p:=by
 unfold z0o RefM.l RefM.bs
 rw [List.flatMap_map,List.map_flatMap]
 rfl
theorem zv8 [hf:Fo l rfP a R r] (hs:Sat w l):Ret P F.a137 #[.pointer (some ⟨a,0,none⟩)] w λvs w'=>vs=[.int .i64 (z2s R.l)]/\Sat w' (rfP a R::r) :=
 zn5 _ <| by
  unfold zxj
  obtain ⟨z,hs⟩:=z77 (hs.perm hf.perm)
  have hl:=hs.slen z (xs:=R.SR) (enc:=z0z)
  refine zy ?_
  refine zd hs ?_
  refine zk (λh=>?_) λh=>?_
  ·have h0:R.SR=[]:=List.length_eq_zero_iff.1 (by omega)
   refine ⟨rfl,?_,z3v R hs⟩
   unfold RefM.l;rw [h0];rfl
  have h0:0<R.SR.length:=by omega
  refine zy ?_
  refine zd hs ?_
  refine zgu hs (xs:=R.SR) (enc:=z0z) 0 h0 ?_
  refine wp_lt ?_
  refine ⟨rfl,?_,z3v R hs⟩
  obtain ⟨x,xs,hx⟩:=List.exists_cons_of_length_pos h0
  simp only [RefM.l,hx,List.map_cons,z2s,List.getElem_cons_zero]
  rfl
theorem zz3 (bs:List BatM):z0n (bs.map BatM.p)=z0n bs:=by
 unfold z0n
 rw [z5w]
 cases bs.getLast? <;> rfl
theorem zz7 (s:SegR):s.p.reach=max (max s.base s.fin) (z0n s.bs):=by
 unfold SegA.reach SegR.p
 simp only [zz3]
theorem zkb (s:SegR) [hx:FocR l s.x 7 (s.bs.flatMap zw)] (hv:∀ b ∈ s.bs,z0c b=0) (hbs:∀ b ∈ s.bs,FocR l b.x 4 (b.rs.flatMap z03)) (hb:s.bs.length<=1000000000) (hbf : -9223372036854775808<=s.base/\s.base<9223372036854775808) (hn0:s.bs=[]->0<=s.base) (hs:Sat w l) :
  Ret P F.a141 #[.agg (z0z s).toArray] w λvs w'=>vs=[.int .i64 s.p.reach]/\Sat w' l :=
 zmn s.base s.fin s.x <| by
  unfold zwg
  have hl:=hs.slen s.x (xs:=s.bs) (enc:=zw)
  rw [zz7]
  refine z0b hs λa0 w' hs=>?_
  refine zd hs ?_
  refine wp_lt ?_
  refine zd hs ?_
  refine zx (λq w'=>q=(max s.base s.fin,())/\Sat w' (pt a0 (.cells [.int .i64 s.base,.int .i64 s.fin,.slice s.x.a s.x.len s.x.cap].toArray T.a37)::l)) ?_ ?_
  ·refine zk (λh=>?_) λh=>?_
   ·refine zd hs ?_
    refine wp_lt ?_
    exact zj ⟨by rw [Int.max_def,if_pos (by omega)],hs⟩
   ·have e:max s.base s.fin=s.base:=by omega
    exact zj ⟨by rw [e],hs⟩
  clear hs
  rintro _ w2 ⟨rfl,hs⟩
  refine zd hs ?_
  refine zx (λq w'=>q=(max (max s.base s.fin) (z0n s.bs),())/\Sat w' l) ?_ ?_
  rotate_left
  ·rintro _ w3 ⟨rfl,hs⟩
   refine wp_lt ?_
   exact ⟨rfl,rfl,hs⟩
  refine zk (λh=>?_) λh=>?_
  rotate_left
  ·have h0:s.bs=[]:=List.length_eq_zero_iff.1 (by omega)
   refine zj ⟨?_,hs.tail⟩
   have:=hn0 h0
   rw [h0]
   show (max s.base s.fin,())=(max (max s.base s.fin) 0,())
   congr 1;omega
  have hp:0<s.bs.length:=by omega
  have hil:s.bs.length-1<s.bs.length:=by omega
  have hnx:z0n s.bs=s.bs[s.bs.length-1].base+z0d s.bs[s.bs.length-1]:=by
   unfold z0n
   rw [List.getLast?_eq_getElem?,List.getElem?_eq_getElem hil]
  obtain ⟨s1,s2,⟨-,hba,-⟩,-,s3⟩:=z1e _ (hv _ (List.getElem_mem hil))
  have hR:=hbs _ (List.getElem_mem hil)
  refine zd hs ?_
  refine zd hs ?_
  rw [w64 (by omega) (by omega)]
  refine z23 hs (xs:=s.bs) (enc:=zw) (s.bs.length-1) hil ?_
  generalize s.bs[s.bs.length-1]=b at *
  refine z05 hs λc w' hs=>?_
  refine z09 hs λw' hs=>?_
  refine z0i hs λw' hs=>?_
  refine z2c hs ?_
  refine z02 hs ?_
  refine za (zai b hs) λ_ w' hs=>?_
  obtain ⟨rfl,hs⟩:=hs
  refine ze ?_ (by first|trivial|(repeat (first|exact trivial|exact λ_=>z0w hs|exact λ_=>z15 hs|refine And.intro ?_ ?_)))
  refine zm ?_
  rw [w64 (by omega) (by omega)]
  refine z5h ?_
  refine zk (λh2=>?_) λh2=>?_
  ·refine z0i hs λw' hs=>?_
   refine z2c hs ?_
   refine z02 hs ?_
   refine za (zai b hs) λ_ w' hs=>?_
   obtain ⟨rfl,hs⟩:=hs
   refine ze ?_ (by first|trivial|(repeat (first|exact trivial|exact λ_=>z0w hs|exact λ_=>z15 hs|refine And.intro ?_ ?_)))
   rw [w64 (by omega) (by omega)]
   refine wp_lt ?_
   refine zm ?_
   refine z4m ?_
   refine zj ⟨?_,hs.tail.tail⟩
   rw [hnx,Int.max_def (max s.base s.fin),if_pos (by omega)]
  ·refine z4m ?_
   have e:max (max s.base s.fin) (z0n s.bs)=max s.base s.fin:=by omega
   exact zj ⟨by rw [e],hs.tail.tail⟩
class okR (R:RefM) (l:List HP):Prop where
 segs:z0k 0 R.l
 rd:∀ b ∈ R.bs,FocR l b.x 4 (b.rs.flatMap z03)
 len:R.SR.length<=1000000
 all:R.bs.length<=1000000
theorem okR.valid {L:List HP} (h:okR R L):∀ s ∈ R.SR,SegOk s.p/\(∀ b ∈ s.bs,z0c b=0/\FocR L b.x 4 (b.rs.flatMap z03))/\s.bs.length<=1000000:=λs hs=>by
 have h1:=(h.segs.mem s.p (List.mem_map.2 ⟨s,hs,rfl⟩)).1
 refine ⟨h1,λb hb=>⟨(h1.bs.valid b.p (List.mem_map.2 ⟨b,hb,rfl⟩)).1,h.rd b (List.mem_flatMap.2 ⟨s,hs,hb⟩)⟩,?_⟩
 refine Nat.le_trans ?_ h.all
 obtain ⟨u,v,huv⟩:=List.append_of_mem hs
 unfold RefM.bs
 rw [huv]
 simp only [List.flatMap_append,List.flatMap_cons,List.length_append]
 omega
instance okR.cons {H:HP} {L:List HP} [h:okR R L]:okR R (H::L):=⟨h.segs,λb hb=>by have:=h.rd b hb;infer_instance,h.len,h.all⟩
theorem zov [hf:Fo l rfP a R r] [hok:okR R r] (hs:Sat w l):Ret P F.a138 #[.pointer (some ⟨a,0,none⟩)] w λvs w'=>vs=[.int .i64 (z01 R.l)]/\Sat w' (rfP a R::r) :=
 ze6 _ <| by
  unfold zs0
  obtain ⟨z,hs⟩:=z77 (hs.perm hf.perm)
  have hl:=hs.slen z (xs:=R.SR) (enc:=z0z)
  have hln:=hok.len
  refine zy ?_
  refine zd hs ?_
  refine zk (λh=>?_) λh=>?_
  ·have h0:R.SR=[]:=List.length_eq_zero_iff.1 (by omega)
   refine ⟨rfl,?_,z3v R hs⟩
   unfold RefM.l;rw [h0];rfl
  have hil:R.SR.length-1<R.SR.length:=by omega
  refine z0i hs λw' hs=>?_
  refine zy ?_
  refine zd hs ?_
  refine zy ?_
  refine zd hs ?_
  rw [w64 (by omega) (by omega)]
  refine z23 hs (xs:=R.SR) (enc:=z0z) (R.SR.length-1) hil ?_
  obtain ⟨v1,v2,v3⟩:=hok.valid _ (List.getElem_mem hil)
  have hn:z01 R.l=R.SR[R.SR.length-1].p.reach:=by
   unfold z01 RefM.l
   rw [z5w,List.getLast?_eq_getElem?,List.getElem?_eq_getElem hil]
   rfl
  rw [hn]
  have hR:FocR (HP.all (R.SR.map z2b)::r) R.SR[R.SR.length-1].x 7 (R.SR[R.SR.length-1].bs.flatMap zw):=z94 (List.getElem_mem hil)
  have hb:=v1.base
  have hb:0<=R.SR[R.SR.length-1].base/\R.SR[R.SR.length-1].base<=1099511627776:=hb
  refine za (zkb R.SR[R.SR.length-1] (λb hb=>(v2 b hb).1) (λb hb=>by have:=(v2 b hb).2;infer_instance) (by omega) (by omega) (λ_=>hb.1) hs) λ_ w' hs=>?_
  obtain ⟨rfl,hs⟩:=hs
  refine ze ?_
  refine wp_lt ?_
  refine zm ?_
  exact ⟨rfl,rfl,z3v R hs⟩
theorem z026 [hf:Fo l rfP a R r] [hok:okR R r] (hs:Sat w l):Ret P F.a135 #[.pointer (some ⟨a,0,none⟩)] w λvs w'=>∃ y:Sl,vs=[y.v]/\Sat w' (slc T.a1 7 y (R.bs.flatMap zw)::rfP a R::r) :=
 zmj _ <| by
  unfold zxq
  obtain ⟨z,hs⟩:=z77 (hs.perm hf.perm)
  have hl:=hs.slen z (xs:=R.SR) (enc:=z0z)
  have hln:=hok.len
  refine zy ?_
  refine zd hs ?_
  refine zx (λq w'=>∃ y:Sl,q=(y,())/\Sat w' (slc T.a1 7 y (R.bs.flatMap zw)::rfP a R::r)) ?_ ?_
  rotate_left
  ·rintro _ w2 ⟨y,rfl,hs⟩
   exact ⟨rfl,y,rfl,hs⟩
  refine z0e (λm v w=>∃ (i:Nat) (y:Sl),v=(y,((i:Int),()))/\i<=R.SR.length/\R.SR.length-i=m/\Sat w (slc T.a1 7 y (((R.SR.take i).flatMap SegR.bs).flatMap zw)::pt a (.cells #[.int .i64 R.seg,.int .i64 R.gap,.slice z.a z.len z.cap] T.a35)::slc T.a37 3 z (R.SR.flatMap z0z)::HP.all (R.SR.map z2b)::r)) R.SR.length ⟨0,⟨none,0,0⟩,rfl,by omega,rfl,hs.slc_nil⟩ ?_
  clear hs
  rintro m _ w ⟨i,y,rfl,hi,hm,hs⟩
  refine zt ?_
  refine zk (λhc=>?_) λhc=>?_
  rotate_left
  ·refine zv (zj ⟨y,rfl,?_⟩)
   rw [List.take_of_length_le (by omega)] at hs
   exact (z3v R (hs.pick [1,1,1])).pick [1]
  have hil:i<R.SR.length:=by omega
  refine z23 hs (xs:=R.SR) (enc:=z0z) i hil ?_
  refine z05 hs λc w' hs=>?_
  refine z09 hs λw' hs=>?_
  refine zd hs ?_
  have hR:FocR (HP.all (R.SR.map z2b)::r) R.SR[i].x 7 (R.SR[i].bs.flatMap zw):=z94 (List.getElem_mem hil)
  have hbl:((R.SR.take i).flatMap SegR.bs).length+R.SR[i].bs.length<=1000000:=by
   refine Nat.le_trans ?_ hok.all
   unfold RefM.bs
   have e:R.SR=R.SR.take i++R.SR[i]::R.SR.drop (i+1):=by rw [<- List.drop_eq_getElem_cons hil,List.take_append_drop]
   have:=congrArg (λx:List SegR=>(x.flatMap SegR.bs).length) e
   simp only [List.flatMap_append,List.flatMap_cons,List.length_append] at this
   omega
  refine wp_app' (xs:=(R.SR.take i).flatMap SegR.bs) (ys:=R.SR[i].bs) (enc:=zw) hs λy' w' hs=>?_
  rw [wS (i:=i) (by omega)]
  refine z0q (R.SR.length-(i+1)) ⟨i+1,y',rfl,by omega,rfl,?_⟩
  have e:(R.SR.take (i+1)).flatMap SegR.bs=(R.SR.take i).flatMap SegR.bs++R.SR[i].bs:=by
   rw [List.take_succ_eq_append_getElem hil,List.flatMap_append];simp
  rw [e]
  exact hs.sub
theorem zjq {b c:BatM} (h:b.p=c.p):b.base=c.base/\b.pid=c.pid/\b.epoch=c.epoch/\b.seq=c.seq/\b.kind=c.kind/\b.time=c.time/\b.rs=c.rs:=by
 unfold BatM.p at h
 simp only [BatM.mk.injEq] at h
 exact ⟨h.1,h.2.1,h.2.2.1,h.2.2.2.1,h.2.2.2.2.1,h.2.2.2.2.2.1,h.2.2.2.2.2.2.2⟩
theorem zz4 (b c:BatM) (h:b.p=c.p) [hb:FocR l b.x 4 (b.rs.flatMap z03)] [hc:FocR l c.x 4 (c.rs.flatMap z03)] (hlen:b.rs.length<=1000000000) (hs:Sat w l):Ret P F.a126 #[.agg (zw b).toArray,.agg (zw c).toArray] w λvs w'=>vs=[.bool true]/\Sat w' l :=
 zms b.base b.pid b.epoch b.seq b.kind b.time b.x c.base c.pid c.epoch c.seq c.kind c.time c.x <| by
  unfold zwx
  obtain ⟨e1,e2,e3,e4,e5,e6,e7⟩:=zjq h
  have hl1:=hs.slen b.x (xs:=b.rs) (enc:=z03)
  have hl2:=hs.slen c.x (xs:=c.rs) (enc:=z03)
  rw [<- e7] at hl2
  rw [<- e1,<- e2,<- e3,<- e4,<- e5,<- e6]
  have hc:FocR l c.x 4 (b.rs.flatMap z03):=by rw [e7];exact hc
  refine z0b hs λa0 w' hs=>?_
  refine z0b hs λa1 w' hs=>?_
  refine zd hs ?_
  refine zd hs ?_
  refine z0j ?_ (by omega)
  refine zd hs ?_
  refine zx (λ_ w'=>Sat w' (pt a1 (.cells [.int .i64 b.base,.int .i64 b.pid,.int .i64 b.epoch,.int .i64 b.seq,.int .i64 b.kind,.int .i64 b.time,.slice c.x.a c.x.len c.x.cap].toArray T.a1)::pt a0 (.cells [.int .i64 b.base,.int .i64 b.pid,.int .i64 b.epoch,.int .i64 b.seq,.int .i64 b.kind,.int .i64 b.time,.slice b.x.a b.x.len b.x.cap].toArray T.a1)::l)) ?_ ?_
  ·refine z0e (λm v w=>∃ i:Nat,v=((i:Int),())/\i<=b.rs.length/\b.rs.length-i=m/\Sat w (pt a1 (.cells [.int .i64 b.base,.int .i64 b.pid,.int .i64 b.epoch,.int .i64 b.seq,.int .i64 b.kind,.int .i64 b.time,.slice c.x.a c.x.len c.x.cap].toArray T.a1)::pt a0 (.cells [.int .i64 b.base,.int .i64 b.pid,.int .i64 b.epoch,.int .i64 b.seq,.int .i64 b.kind,.int .i64 b.time,.slice b.x.a b.x.len b.x.cap].toArray T.a1)::l)) b.rs.length ⟨0,rfl,by omega,rfl,hs⟩ ?_
   clear hs
   rintro m _ w ⟨i,rfl,hi,hm,hs⟩
   refine zt ?_
   refine zk (λhcc=>?_) λhcc=>?_
   rotate_left
   ·exact zv (zj hs)
   have hil:i<b.rs.length:=by omega
   refine wp_lt ?_
   refine z0i hs λw' hs=>?_
   refine zd hs ?_
   refine z23 hs (xs:=b.rs) (enc:=z03) i hil ?_
   refine zd hs ?_
   refine z23 hs (xs:=b.rs) (enc:=z03) i hil ?_
   refine zm ?_
   refine z0j ?_ (by simp [zdd])
   rw [wS (i:=i) (by omega)]
   exact z0q (b.rs.length-(i+1)) ⟨i+1,rfl,by omega,rfl,hs⟩
  clear hs
  rintro _ w hs
  refine zt ?_
  refine zd hs ?_
  refine zd hs ?_
  refine zd hs ?_
  refine zd hs ?_
  refine zd hs ?_
  refine zd hs ?_
  refine zd hs ?_
  refine zd hs ?_
  refine zd hs ?_
  refine zd hs ?_
  refine zd hs ?_
  refine zd hs ?_
  refine wp_lt ?_
  refine ⟨rfl,?_,hs.tail.tail⟩
  simp
theorem zrv (x y:Sl) (bs cs:List BatM) (h:bs.map BatM.p=cs.map BatM.p) (hx:FocR l x 7 (bs.flatMap zw)) (hy:FocR l y 7 (cs.flatMap zw)) (hb:∀ b ∈ bs,FocR l b.x 4 (b.rs.flatMap z03)) (hc:∀ b ∈ cs,FocR l b.x 4 (b.rs.flatMap z03)) (hlen:bs.length<=1000000000) (hrl:∀ b ∈ bs,b.rs.length<=1000000000) (hs:Sat w l) :
  Ret P F.a127 #[x.v,y.v] w λvs w'=>vs=[.bool true]/\Sat w' l :=
 zn3 x y <| by
  unfold zy4
  have hl1:=hs.slen x (xs:=bs) (enc:=zw)
  have hl2:=hs.slen y (xs:=cs) (enc:=zw)
  have hll:bs.length=cs.length:=by have:=congrArg List.length h;simpa using this
  refine z0j ?_ (by omega)
  refine zx (λ_ w'=>Sat w' l) ?_ ?_
  rotate_left
  ·rintro _ w2 hs
   exact ⟨rfl,rfl,hs⟩
  refine z0e (λm v w=>∃ i:Nat,v=((i:Int),())/\i<=bs.length/\bs.length-i=m/\Sat w l) bs.length ⟨0,rfl,by omega,rfl,hs⟩ ?_
  clear hs
  rintro m _ w ⟨i,rfl,hi,hm,hs⟩
  refine zt ?_
  refine zk (λhcc=>?_) λhcc=>?_
  rotate_left
  ·exact zv (zj hs)
  have hil:i<bs.length:=by omega
  have hil2:i<cs.length:=by omega
  have hp:bs[i].p=cs[i].p:=by
   have:=List.getElem_of_eq h (i:=i) (by rw [List.length_map];exact hil)
   simpa using this
  have hr1:=hb _ (List.getElem_mem hil)
  have hr2:=hc _ (List.getElem_mem hil2)
  refine wp_lt ?_
  refine z0i hs λw' hs=>?_
  refine z23 hs (xs:=bs) (enc:=zw) i hil ?_
  refine z23 hs (xs:=cs) (enc:=zw) i hil2 ?_
  refine za (zz4 bs[i] cs[i] hp (hrl _ (List.getElem_mem hil)) hs) λ_ w' hs=>?_
  obtain ⟨rfl,hs⟩:=hs
  refine ze ?_
  refine zm ?_
  refine z0j ?_ (by simp)
  rw [wS (i:=i) (by omega)]
  exact z0q (bs.length-(i+1)) ⟨i+1,rfl,by omega,rfl,hs⟩
end
section
variable {w:World} {l r:List HP} {a:Nat} {R:RefM} {z:Sl} {g1 g2:Int}
theorem okR.base {L:List HP} (h:okR R L):∀ s ∈ R.SR,0<=s.base/\s.base<=1099511627776:=λs hs=>(h.valid s hs).1.base
theorem zjn [hb:FocB l a (.cells #[.int .i64 g1,.int .i64 g2,.slice z.a z.len z.cap] T.a35) r] (hz:FocR l z 3 (R.SR.flatMap z0z)) (hx:∀ s ∈ R.SR,FocR l s.x 7 (s.bs.flatMap zw)) [hok:okR R l] (hs:Sat w l) :
  Ret P F.a138 #[.pointer (some ⟨a,0,none⟩)] w λvs w'=>vs=[.int .i64 (z01 R.l)]/\Sat w' l :=
 ze6 _ <| by
  unfold zs0
  have hl:=hs.slen z (xs:=R.SR) (enc:=z0z)
  have hln:=hok.len
  refine zy ?_
  refine zd hs ?_
  refine zk (λh=>?_) λh=>?_
  ·have h0:R.SR=[]:=List.length_eq_zero_iff.1 (by omega)
   refine ⟨rfl,?_,hs⟩
   unfold RefM.l;rw [h0];rfl
  have hil:R.SR.length-1<R.SR.length:=by omega
  refine z0i hs λw' hs=>?_
  refine zy ?_
  refine zd hs ?_
  refine zy ?_
  refine zd hs ?_
  rw [w64 (by omega) (by omega)]
  refine z23 hs (xs:=R.SR) (enc:=z0z) (R.SR.length-1) hil ?_
  obtain ⟨v1,v2,v3⟩:=hok.valid _ (List.getElem_mem hil)
  have hn:z01 R.l=R.SR[R.SR.length-1].p.reach:=by
   unfold z01 RefM.l
   rw [z5w,List.getLast?_eq_getElem?,List.getElem?_eq_getElem hil]
   rfl
  rw [hn]
  have hR:=hx _ (List.getElem_mem hil)
  have hb0:=hok.base _ (List.getElem_mem hil)
  refine za (zkb R.SR[R.SR.length-1] (λb hb=>(v2 b hb).1) (λb hb=>(v2 b hb).2) (by omega) (by omega) (λ_=>hb0.1) hs) λ_ w' hs=>?_
  obtain ⟨rfl,hs⟩:=hs
  refine ze ?_
  refine wp_lt ?_
  refine zm ?_
  exact ⟨rfl,rfl,hs⟩
theorem zra (x:Sl) (bs:List BatM) [hb:FocB l a (.cells #[.int .i64 g1,.int .i64 g2,.slice z.a z.len z.cap] T.a35) r] (hz:FocR l z 3 (R.SR.flatMap z0z)) (hxs:∀ s ∈ R.SR,FocR l s.x 7 (s.bs.flatMap zw)) [hok:okR R l]
  (hbl:bs.length<=100000) (hx:FocR l x 7 (bs.flatMap zw)) (hbs:∀ b ∈ bs,FocR l b.x 4 (b.rs.flatMap z03)) (hs:Sat w l) :
  Ret P F.a139 #[.pointer (some ⟨a,0,none⟩),x.v] w λvs w' =>
   ((z00 (z01 R.l) bs).1≠0/\vs=[.slice none 0 0,.int .i64 (z00 (z01 R.l) bs).1]/\Sat w' l) \/
   ((z00 (z01 R.l) bs).1=0/\∃ z1:Sl,vs=[z1.v,.int .i64 0]/\Sat w' (slc T.a1 7 z1 ((z00 (z01 R.l) bs).2.flatMap zw)::l)) :=
 znk _ x <| by
  unfold zy1
  have hl:=hs.slen x (xs:=bs) (enc:=zw)
  refine za (zjn (a:=a) hz hxs hs) λ_ w' hs=>?_
  obtain ⟨rfl,hs⟩:=hs
  refine ze ?_
  refine wp_lt ?_
  generalize z01 R.l=n0
  refine zx (λq w'=>∃ z1:Sl,(z00 n0 bs).1=0/\q=(z1,())/\Sat w' (slc T.a1 7 z1 ((z00 n0 bs).2.flatMap zw)::l)) ?_ ?_
  rotate_left
  ·rintro _ w2 ⟨z1,h1,rfl,hs⟩
   exact ⟨rfl,.inr ⟨h1,z1,rfl,hs⟩⟩
  have h0:Sat w' (slc T.a1 7 ⟨none,0,0⟩ (([]:List BatM).flatMap zw)::l):=hs.slc_nil
  refine z0e (λm v w=>∃ (i:Nat) (n:Int) (done:List BatM) (z1:Sl),v=(n,z1,(i:Int),())/\i<=bs.length/\bs.length-i=m/\done.length=i /\
   z00 n0 bs=(if (z00 n (bs.drop i)).1≠0 then ((z00 n (bs.drop i)).1,[]) else (0,done++(z00 n (bs.drop i)).2)) /\
   Sat w (slc T.a1 7 z1 (done.flatMap zw)::l)) bs.length
   ⟨0,n0,[],⟨none,0,0⟩,rfl,by omega,rfl,rfl,?_,h0⟩ ?_
  ·rw [List.drop_zero,List.nil_append]
   by_cases h:(z00 n0 bs).1≠0
   ·rw [if_pos h]
    have:∀ {bs:List BatM} {n:Int},(z00 n bs).1≠0->(z00 n bs).2=[]:=by
     intro bs
     induction bs with
     | nil=>intro n h;exact absurd rfl h
     | cons b bs ih =>
      intro n h
      unfold z00 at h ⊢
      split
      ·rfl
      ·split
       ·rfl
       ·rename_i h1 h2
        rw [if_neg h1,if_neg h2] at h
        exact absurd rfl h
    rw [<- this h]
   ·rw [if_neg h]
    have h:=Decidable.not_not.1 h
    rw [<- h]
  clear hs h0
  rintro m _ w ⟨i,n,done,z1,rfl,hi,hm,hdl,hpl,hs⟩
  refine zt ?_
  refine zk (λhc=>?_) λhc=>?_
  rotate_left
  ·have e:bs.drop i=[]:=List.drop_eq_nil_of_le (by omega)
   rw [e] at hpl
   simp only [z00,List.append_nil] at hpl
   have hpl:z00 n0 bs=(0,done):=by rw [hpl];rfl
   refine zv (zj ⟨z1,by rw [hpl],rfl,?_⟩)
   rw [hpl]
   exact hs
  have hil:i<bs.length:=by omega
  have hdrop:bs.drop i=bs[i]::bs.drop (i+1):=List.drop_eq_getElem_cons hil
  rw [hdrop] at hpl
  have hR:=hbs bs[i] (List.getElem_mem hil)
  refine z23 hs (xs:=bs) (enc:=zw) i hil ?_
  refine z05 hs λa w' hs=>?_
  refine z09 hs λw' hs=>?_
  refine z0h hs λw' hs=>?_
  refine z02 hs ?_
  have hRt:FocR l (bs[i].to n).x 4 ((bs[i].to n).rs.flatMap z03):=hR
  refine za (zks (bs[i].to n) hs) λ_ w' hs=>?_
  have hunf:z00 n (bs[i]::bs.drop (i+1))=if z0c (bs[i].to n)≠0 then (z0c (bs[i].to n),[]) else if (z00 (n+z0d bs[i]) (bs.drop (i+1))).1≠0 then ((z00 (n+z0d bs[i]) (bs.drop (i+1))).1,[]) else (0,bs[i].to n::(z00 (n+z0d bs[i]) (bs.drop (i+1))).2):=rfl
  obtain ⟨rfl,hs⟩:=hs
  refine ze ?_
  refine wp_lt ?_
  refine zk (λhv=>?_) λhv=>?_
  ·refine wp_lt ?_
   rw [if_pos hv] at hunf
   have hpl:z00 n0 bs=(z0c (bs[i].to n),[]):=by rw [hpl,hunf,if_pos hv]
   refine zv (zv ⟨rfl,.inl ⟨by rw [hpl];exact hv,by rw [hpl],hs.sub⟩⟩)
  ·have hv:=Decidable.not_not.1 hv
   rw [if_neg (by rw [hv];simp)] at hunf
   obtain ⟨s1,s2,⟨-,hba,-⟩,-,s3⟩:=z1e _ hv
   have s1:1<=z0d bs[i]:=s1
   have s3:n+z0d bs[i]<=_:=s3
   have hba:0<=n/\n<=_:=hba
   refine z02 hs ?_
   refine z1f hs (enc:=zw) (bs[i].to n) λy2 w' hs=>?_
   refine wp_app' (xs:=done) (ys:=[bs[i].to n]) (enc:=zw) hs (λz1' w' hs=>?_) (by simp only [List.length_cons,List.length_nil];omega)
   refine z02 hs ?_
   refine za (zai (bs[i].to n) hs) λ_ w' hs=>?_
   obtain ⟨rfl,hs⟩:=hs
   refine ze ?_
   have e1:z0d (bs[i].to n)=z0d bs[i]:=rfl
   rw [e1,w64 (by omega) (by omega)]
   refine wp_lt ?_
   rw [wS (i:=i) (by omega)]
   refine z0q (bs.length-(i+1)) ⟨i+1,n+z0d bs[i],done++[bs[i].to n],z1',rfl,by omega,rfl,by simp [hdl],?_,hs.sub⟩
   rw [hpl,hunf]
   by_cases h2:(z00 (n+z0d bs[i]) (bs.drop (i+1))).1≠0
   ·rw [if_pos h2,if_pos h2,if_pos h2]
   ·rw [if_neg h2,if_neg h2,if_neg (by simp),List.append_assoc]
    rfl
theorem zon (base fin:Int) (hb:0<=base/\base<9223372036854775808) (hf:0<=fin/\fin<9223372036854775808) (hs:Sat w l):Ret P F.a134 #[.int .i64 base,.int .i64 fin] w λvs w'=>∃ z:Sl,vs=[z.v]/\Sat w' (slc T.a38 1 z ((shL base fin).flatMap zg)::l) :=
 ze3 base fin <| by
  unfold zrs
  have u1_:=z1c base
  have u2_:=z1c fin
  refine z1f hs (enc:=zg) (83:UInt8) λz1 w' hs=>?_
  refine za (z6v base hb hs) λ_ w' hs=>?_
  obtain ⟨z2,rfl,hs⟩:=hs
  refine ze ?_
  refine wp_app' (xs:=[(83:UInt8)]) (ys:=uI base) (enc:=zg) hs (λz3 w' hs=>?_) (by simp only [List.length_cons,List.length_nil];omega)
  refine za (z6v fin hf hs) λ_ w' hs=>?_
  obtain ⟨z4,rfl,hs⟩:=hs
  refine ze ?_
  refine wp_app' (xs:=[(83:UInt8)]++uI base) (ys:=uI fin) (enc:=zg) hs (λz5 w' hs=>?_) (by simp only [List.length_append,List.length_cons,List.length_nil];omega)
  have e:[(83:UInt8)]++uI base++uI fin=shB base fin:=by simp [shB]
  rw [e] at hs
  have:=zap base fin
  refine za (zae z5 (shB base fin) (by omega) hs) λ_ w' hs=>?_
  obtain ⟨z6,rfl,hs⟩:=hs
  refine ze ?_
  have hs:Sat w' (slc T.a38 1 z6 ((shL base fin).flatMap zg)::_):=hs
  exact ⟨rfl,z6,rfl,hs.sub⟩
theorem zo8 (b:BatM) (hv:z0c b=0) [hb:FocR l b.x 4 (b.rs.flatMap z03)] (hs:Sat w l):Ret P F.a143 #[.agg (zw b).toArray] w λvs w'=>vs=[.int .i64 ((frL b).length:Nat)]/\Sat w' l :=
 zne b.base b.pid b.epoch b.seq b.kind b.time b.x <| by
  unfold zy0
  have hbl:=z4g hv
  have hfl:=z3q hv
  refine z0b hs λa0 w' hs=>?_
  refine z02 hs ?_
  refine za (za1 b hs) λ_ w' hs=>?_
  rcases hs with ⟨h,-,-⟩|⟨-,z,rfl,hs⟩
  ·exact absurd hv h
  refine ⟨(z,0,()),rfl,trivial,z37 _ _ ?_⟩
  have hl:=hs.slen z (xs:=z1p b) (enc:=zg)
  refine wp_lt ?_
  rw [hl,w64 (by omega) (by omega)]
  refine wp_lt ?_
  refine ⟨rfl,?_,hs.sub⟩
  rw [hfl.2];rfl
theorem zpi (s:SegR) [hx:FocR l s.x 7 (s.bs.flatMap zw)] (hok:SegOk s.p) (hv:∀ b ∈ s.bs,z0c b=0) (hbs:∀ b ∈ s.bs,FocR l b.x 4 (b.rs.flatMap z03)) (hb:s.bs.length<=1000000) (hs:Sat w l) :
  Ret P F.a142 #[.agg (z0z s).toArray] w λvs w'=>vs=[.int .i64 (s.p.file.length:Nat)]/\Sat w' l :=
 zmc s.base s.fin s.x <| by
  unfold zxk
  have hl:=hs.slen s.x (xs:=s.bs) (enc:=zw)
  have h1:=hok.base
  have h2:=hok.fin
  have h1:0<=s.base/\s.base<=1099511627776:=h1
  have h2:s.fin=0\/(s.base<s.fin/\s.fin<=1099511627776):=h2
  have hsum:=z91 hv
  have hshl:=z7j s.base s.fin
  have hfe:s.p.file.length=(shL s.base s.fin).length+(s.bs.flatMap frL).length:=by
   rw [z2n]
   show (shL s.base s.fin).length+((s.bs.map BatM.p).flatMap frL).length=_
   rw [List.flatMap_map]
   rfl
  rw [hfe]
  refine z0b hs λa0 w' hs=>?_
  refine zd hs ?_
  refine zd hs ?_
  refine za (zon s.base s.fin (by omega) (by omega) hs) λ_ w' hs=>?_
  obtain ⟨y,rfl,hs⟩:=hs
  refine ze ?_
  have hly:=hs.slen y (xs:=shL s.base s.fin) (enc:=zg)
  refine wp_lt ?_
  refine zd hs ?_
  refine zx (λq w'=>q=((((shL s.base s.fin).length+(s.bs.flatMap frL).length:Nat):Int),())/\Sat w' l) ?_ ?_
  rotate_left
  ·rintro _ w2 ⟨rfl,hs⟩
   refine wp_lt ?_
   exact ⟨rfl,rfl,hs⟩
  have hs:Sat w' l:=hs.sub
  refine z0e (λm v w=>∃ i:Nat,v=((((shL s.base s.fin).length+((s.bs.take i).flatMap frL).length:Nat):Int),((i:Int),()))/\i<=s.bs.length/\s.bs.length-i=m/\Sat w l) s.bs.length ⟨0,by rw [hly];rfl,by omega,rfl,hs⟩ ?_
  clear hs
  rintro m _ w ⟨i,rfl,hi,hm,hs⟩
  refine zt ?_
  refine zk (λhc=>?_) λhc=>?_
  rotate_left
  ·refine zv (zj ⟨?_,hs⟩)
   rw [List.take_of_length_le (by omega)]
  have hil:i<s.bs.length:=by omega
  have hR:=hbs _ (List.getElem_mem hil)
  have hvi:=hv _ (List.getElem_mem hil)
  have e1:((s.bs.take (i+1)).flatMap frL).length=((s.bs.take i).flatMap frL).length+(frL s.bs[i]).length:=by
   rw [List.take_succ_eq_append_getElem hil,List.flatMap_append,List.length_append];simp
  have e2:((s.bs.take (i+1)).flatMap frL).length<=(s.bs.flatMap frL).length:=by
   have:s.bs.flatMap frL=(s.bs.take (i+1)).flatMap frL++(s.bs.drop (i+1)).flatMap frL:=by rw [<- List.flatMap_append,List.take_append_drop]
   rw [this,List.length_append];omega
  refine z23 hs (xs:=s.bs) (enc:=zw) i hil ?_
  refine z05 hs λc w' hs=>?_
  refine z09 hs λw' hs=>?_
  refine z02 hs ?_
  refine za (zo8 s.bs[i] hvi hs) λ_ w' hs=>?_
  obtain ⟨rfl,hs⟩:=hs
  refine ze ?_
  rw [w64 (by omega) (by omega)]
  refine wp_lt ?_
  rw [wS (i:=i) (by omega)]
  refine z0q (s.bs.length-(i+1)) ⟨i+1,?_,by omega,rfl,hs.tail⟩
  rw [e1]
  refine Prod.ext ?_ rfl
  show _=(((shL s.base s.fin).length+(((s.bs.take i).flatMap frL).length+(frL s.bs[i]).length):Nat):Int)
  omega
end
instance:EncF z0z 2 .slc (λs=>s.x):=⟨λ_=>rfl⟩
section
variable {P:Program} {w:World} {l r:List HP} {Q:Post} {S:World->Prop} {T t:TypeId} {sz:Nat}
theorem zvb {α:Type} {enc:α->List Value} {xs:List α} {x:Sl} {i i':Int} {j:Nat} {k:Prog} {v:Value} (hs:Sat w l) [hf:FocS l x T sz (xs.flatMap enc) r] [hE:EncN enc sz] [hT:One P t] (n:Nat) (hn:n<xs.length) (y:α)
  (h:∀ w',Sat w' (slc T sz x ((xs.set n y).flatMap enc)::r)->k.wp P tt w' Q) (hi:i=n:=by first|rfl|omega) (hi':i'=i:=by rfl) (hy:enc y=(enc xs[n]).set j v:=by rfl) [hv:Cells v [v]] [ho:Ones [v]] (hj:j<sz:=by decide) :
  (Prog.ex [.adr] (c1 λa=>0<=i/\i<((x.len:Nat):Int)/\x.a=some a) (u1 λa=>.untick (.actU (st t (Addr.add (Addr.add a (Int.toNat i'*sz)) j) v) k))).wp P S w Q:=by
 subst hi hi'
 have hr:=(hs.focS x).rd
 have hl:x.len=xs.length:=hr.len hE.len hE.pos
 obtain ⟨a,ha,he⟩:=hr.el hE.len (by omega)
 refine ⟨(a,()),⟨by omega,by omega,ha⟩,zm ?_⟩
 exact z038 (xs:=xs) (i:=n) (j:=j) (y:=y) hE.len hs ha hn hj (λb o e=>by subst e;rw [z3m,z3m,Int.toNat_natCast,Nat.add_assoc]) hv.ok (by have:=ho.ok v (List.mem_singleton.2 rfl);exact this) hy λw' hs'=>⟨trivial,h w' hs'⟩
end
def SegR.add (s:SegR) (z:Sl) (q:List BatM):SegR:=⟨s.base,s.fin,z,s.bs++q⟩
theorem z012 (s:SegR) (z:Sl) (q:List BatM):(s.add z q).p=s.p.add q:=by simp [SegR.p,SegA.add,SegR.add]
section
variable {w:World} {l r:List HP} {a:Nat} {R:RefM}
theorem zff {SR:List SegR} {s:SegR} (hs:Sat w (z2b s::HP.all (SR.map z2b)::l)):Sat w (HP.all ((SR++[s]).map z2b)::l):=by
 have h1:Sat w (HP.all ((s::SR).map z2b)::l):=hs.all_put
 exact h1.all_perm ((List.perm_append_comm (l₁:=[s]) (l₂:=SR)).map z2b)
theorem zs2 {SR:List SegR} {s:SegR} (hs:Sat w (HP.all ((SR++[s]).map z2b)::l)):Sat w (z2b s::HP.all (SR.map z2b)::l):=by
 have h1:Sat w (HP.all ((s::SR).map z2b)::l):=hs.all_perm ((List.perm_append_comm (l₁:=SR) (l₂:=[s])).map z2b)
 exact h1.all_cons
theorem z03l {seg:Int} {SR0:List SegR} {s:SegR} (h:SegOk s.p) (n:Nat):z3o seg ((SR0++[s]).map SegR.p) n=(decide (s.bs=[]) || decide (((s.p.file.length+n:Nat):Int)<=seg)):=by
 unfold z3o
 rw [List.map_append]
 show (match (SR0.map SegR.p++[s.p]).getLast? with|none=>false|some s=>_)=_
 rw [z20]
 simp only
 congr 1
 rw [Bool.eq_iff_iff]
 simp only [decide_eq_true_eq]
 have h1:=z59 h
 have h2:=h.base
 have h3:=(h.bs.next h2.1).2.1
 show z0n (s.bs.map BatM.p)=0↔_
 have h1':s.bs.map BatM.p≠[]->s.p.base<z0n (s.bs.map BatM.p):=h1.2.2.2.2
 have h3':s.bs.map BatM.p=[]->z0n (s.bs.map BatM.p)=0:=h3
 constructor
 ·intro h
  by_cases h4:s.bs.map BatM.p=[]
  ·exact List.map_eq_nil_iff.1 h4
  ·have:=h1' h4
   omega
 ·intro h
  exact h3' (by rw [h];rfl)
set_option maxHeartbeats 1000000 in
theorem zt3 (x:Sl) (bs:List BatM) [hf:Fo l rfP a R r] [hok:okR R r] (hsl:R.SR.length<=900000) (hal:R.bs.length<=900000) (hseg : -9223372036854775808<=R.seg/\R.seg<9223372036854775808) (hbl:bs.length<=900)
  (hx:FocR r x 7 (bs.flatMap zw)) (hbs:∀ b ∈ bs,FocR r b.x 4 (b.rs.flatMap z03)) (hs:Sat w l) :
  Ret P F.a136 #[.pointer (some ⟨a,0,none⟩),x.v] w λvs w'=>vs=[.int .i64 (z16 R.seg R.l bs).1.1,.int .i64 (z16 R.seg R.l bs).1.2] /\
   ∃ R':RefM,R'.seg=R.seg/\R'.gap=R.gap/\R'.l=(z16 R.seg R.l bs).2/\R'.SR.length<=R.SR.length+1/\R'.bs.length<=R.bs.length+bs.length/\(∀ b ∈ R'.bs,b ∈ R.bs\/∃ c ∈ bs,b.x=c.x/\b.rs=c.rs)/\okR R' r/\Sat w' (rfP a R'::r) :=
 zml _ x <| by
  unfold zxg
  have hs:=hs.perm hf.perm
  clear hf
  have hlxs:=hs.slen x (xs:=bs) (enc:=zw)
  have hsame:∀ {w:World},Sat w (rfP a R::r)->∃ R':RefM,R'.seg=R.seg/\R'.gap=R.gap/\R'.l=R.l/\R'.SR.length<=R.SR.length+1/\R'.bs.length<=R.bs.length+bs.length/\(∀ b ∈ R'.bs,b ∈ R.bs\/∃ c ∈ bs,b.x=c.x/\b.rs=c.rs)/\okR R' r/\Sat w (rfP a R'::r):=λhs=>⟨R,rfl,rfl,rfl,by omega,by omega,λb hb=>.inl hb,hok,hs⟩
  have hnx:=hok.segs.next (Int.le_refl 0)
  have hrseg:=z80 (seg:=R.seg) (bs:=bs) hok.segs
  unfold z16 at hrseg ⊢
  refine zk (λh=>?_) λh=>?_
  ·have:bs=[]:=List.length_eq_zero_iff.1 (by omega)
   rw [if_pos this]
   exact ⟨rfl,rfl,hsame hs⟩
  have hne:bs≠[]:=by rintro rfl;simp at hlxs;omega
  rw [if_neg hne] at hrseg ⊢
  obtain ⟨z,hs⟩:=z77 hs
  refine za (zra (R:=R) (z:=z) (a:=a) x bs inferInstance (λs hs=>z94 hs) (by omega) inferInstance (λb hb=>by have:=hbs b hb;infer_instance) hs) λ_ w' hs=>?_
  rcases hs with ⟨he,rfl,hs⟩|⟨he,z1,rfl,hs⟩
  ·refine ze ?_
   refine wp_lt ?_
   refine z1b ?_ he
   refine wp_lt ?_
   rw [if_pos he]
   exact ⟨rfl,rfl,hsame (z3v R hs)⟩
  refine ⟨(z1,0,()),rfl,trivial,z37 _ _ ?_⟩
  refine wp_lt ?_
  refine z0j ?_ (by simp)
  rw [if_neg (by rw [he];simp)] at hrseg ⊢
  have hplo:=z8d (bs:=bs) (n:=z01 R.l) he
  obtain ⟨hp1,hp2,hp3⟩:=hplo
  have hbl0:0<bs.length:=List.length_pos_iff.2 hne
  generalize hn0:z01 R.l=n0 at *
  generalize hq:(z00 n0 bs).2=q at *
  have hsum:=z91 λb hb=>(hp2 b hb).1
  have hqF:∀ b ∈ q,FocR r b.x 4 (b.rs.flatMap z03):=λb hb=>by
   obtain ⟨-,c,hc,e1,e2⟩:=hp2 b hb
   rw [e1,e2];exact hbs c hc
  have hfsum:∀ i,((q.take i).flatMap frL).length<=(q.flatMap frL).length:=λi=>by
   have:(q.flatMap frL)=(q.take i).flatMap frL++(q.drop i).flatMap frL:=by rw [<- List.flatMap_append,List.take_append_drop]
   rw [this,List.length_append];omega
  have hlq:=hs.slen z1 (xs:=q) (enc:=zw)
  refine zx (λv w'=>v=(((q.flatMap frL).length:Int),())/\Sat w' (slc T.a1 7 z1 (q.flatMap zw)::pt a (.cells #[.int .i64 R.seg,.int .i64 R.gap,.slice z.a z.len z.cap] T.a35)::slc T.a37 3 z (R.SR.flatMap z0z)::HP.all (R.SR.map z2b)::r)) ?_ ?_
  ·refine z0e (λm v w=>∃ i:Nat,v=((((q.take i).flatMap frL).length:Int),((i:Int),()))/\i<=q.length/\q.length-i=m/\Sat w (slc T.a1 7 z1 (q.flatMap zw)::pt a (.cells #[.int .i64 R.seg,.int .i64 R.gap,.slice z.a z.len z.cap] T.a35)::slc T.a37 3 z (R.SR.flatMap z0z)::HP.all (R.SR.map z2b)::r)) q.length ⟨0,rfl,by omega,rfl,hs⟩ ?_
   clear hs
   rintro m _ w ⟨i,rfl,hi,hm,hs⟩
   refine zt ?_
   refine zk (λhc=>?_) λhc=>?_
   rotate_left
   ·refine zv (zj ⟨?_,hs⟩)
    rw [List.take_of_length_le (by omega)]
   have hil:i<q.length:=by omega
   have hR:=hqF _ (List.getElem_mem hil)
   have hvi:=(hp2 _ (List.getElem_mem hil)).1
   have e1:((q.take (i+1)).flatMap frL).length=((q.take i).flatMap frL).length+(frL q[i]).length:=by
    rw [List.take_succ_eq_append_getElem hil,List.flatMap_append,List.length_append];simp
   have e2:=hfsum (i+1)
   refine z23 hs (xs:=q) (enc:=zw) i hil ?_
   refine z05 hs λc w' hs=>?_
   refine z09 hs λw' hs=>?_
   refine z02 hs ?_
   refine za (zo8 q[i] hvi hs) λ_ w' hs=>?_
   obtain ⟨rfl,hs⟩:=hs
   refine ze ?_
   rw [w64 (by omega) (by omega)]
   refine wp_lt ?_
   rw [wS (i:=i) (by omega)]
   refine z0q (q.length-(i+1)) ⟨i+1,?_,by omega,rfl,hs.tail⟩
   rw [e1]
   refine Prod.ext ?_ rfl
   show _=((((q.take i).flatMap frL).length+(frL q[i]).length:Nat):Int)
   omega
  clear hs
  rintro _ w2 ⟨rfl,hs⟩
  have hlz:=hs.slen z (xs:=R.SR) (enc:=z0z)
  refine zt ?_
  refine zy ?_
  refine zd hs ?_
  rw [w64 (by omega) (by omega)]
  refine wp_lt ?_
  generalize hNN:(q.flatMap frL).length=NN at *
  refine zx (λv w'=>v=(!z3o R.seg R.l NN,())/\Sat w' (slc T.a1 7 z1 (q.flatMap zw)::pt a (.cells #[.int .i64 R.seg,.int .i64 R.gap,.slice z.a z.len z.cap] T.a35)::slc T.a37 3 z (R.SR.flatMap z0z)::HP.all (R.SR.map z2b)::r)) ?_ ?_
  ·refine z0i hs λw' hs=>?_
   refine z0p ?_
   refine zd hs ?_
   by_cases h0:R.SR=[]
   ·have hz0:z.len=0:=by rw [hlz,h0];rfl
    have hr0:z3o R.seg R.l NN=false:=by unfold RefM.l;rw [h0];rfl
    have hd:decide ((z.len:Int)-1<0)=true:=decide_eq_true (by omega)
    refine zfl (λh=>by rw [hd] at h;cases h) ?_
    refine z7z (⟨none,0,0⟩:Sl) (λh=>by rw [hd] at h;cases h) ?_
    refine z0p ?_
    refine zd hs ?_
    refine zfl (λh=>by rw [hd] at h;cases h.1) ?_
    refine zz1 (((0:Int),(0:Int),(⟨none,0,0⟩:Sl),()):HL [.int .i64,.int .i64,.slc]) (λh=>absurd h.1 (by rw [hd];exact Bool.noConfusion)) ?_
    refine zt ?_
    refine z0p ?_
    refine z2c hs ?_
    refine z1b ?_ (by omega)
    refine zm ?_
    exact zj ⟨by rw [hr0];rfl,hs⟩
   obtain ⟨SR0,s,hSR⟩:=z2r h0
   have hlen:R.SR.length=SR0.length+1:=by rw [hSR];simp
   have hil:SR0.length<R.SR.length:=by omega
   have hgs:R.SR[SR0.length]=s:=by simp [hSR]
   have hsm:s ∈ R.SR:=by rw [hSR];simp
   obtain ⟨v1,v2,v3⟩:=hok.valid s hsm
   have hrm:z3o R.seg R.l NN=(decide (s.bs=[]) || decide (((s.p.file.length+NN:Nat):Int)<=R.seg)):=by
    unfold RefM.l;rw [hSR];exact z03l v1 NN
   have hsx:FocR (HP.all (R.SR.map z2b)::r) s.x 7 (s.bs.flatMap zw):=z94 hsm
   have hlx:=hs.slen s.x (xs:=s.bs) (enc:=zw)
   refine zyf hs (xs:=R.SR) (enc:=z0z) SR0.length hil ?_
   rw [hgs]
   refine z0p ?_
   refine zd hs ?_
   refine zyt hs (xs:=R.SR) (enc:=z0z) (s.base,s.fin,s.x,()) (λ_=>⟨SR0.length,hil,by omega,by rw [hgs];rfl⟩) ?_
   refine zt ?_
   refine z0p ?_
   refine z2c hs ?_
   refine z0j ?_ (by omega)
   refine zk (λh2=>?_) λh2=>?_
   ·have hsb:s.bs≠[]:=by rintro h3;rw [h3] at hlx;simp at hlx;omega
    refine za (zpi s v1 (λb hb=>(v2 b hb).1) (λb hb=>by have:=(v2 b hb).2;infer_instance) v3 hs) λ_ w' hs=>?_
    obtain ⟨rfl,hs⟩:=hs
    refine ze ?_ (by first|trivial|(repeat (first|exact trivial|exact λ_=>z0w hs|exact λ_=>z15 hs|refine And.intro ?_ ?_)))
    refine zm ?_
    refine zj ⟨?_,hs⟩
    have hfe:s.p.file.length<=1000000000000:=by
     rw [z2n]
     have h3:=z7j s.p.base s.p.fin
     have h4:(s.p.bs.flatMap frL).length<=s.p.bs.length*262152:=z91 λb hb=>(v1.bs.valid b hb).1
     have h5:s.p.bs.length=s.bs.length:=List.length_map ..
     omega
    rw [hrm,w64 (by omega) (by omega)]
    refine Prod.ext ?_ rfl
    show decide _=!(decide (s.bs=[]) || _)
    rw [decide_eq_false hsb,Bool.false_or,<- decide_not]
    apply decide_eq_decide.2
    omega
   ·have hsb:s.bs=[]:=List.length_eq_zero_iff.1 (by omega)
    refine zm ?_
    refine zj ⟨?_,hs⟩
    rw [hrm,decide_eq_true hsb];rfl
  clear hs
  rintro _ w3 ⟨rfl,hs⟩
  refine zt ?_
  refine zx (λv w'=>∃ (R1:RefM) (z2:Sl) (SR0:List SegR) (s:SegR),v=((SR0.length:Int),())/\R1.SR=SR0++[s]/\R1.seg=R.seg/\R1.gap=R.gap/\R1.SR.length<=R.SR.length+1/\R1.bs=R.bs /\
   (if z3o R.seg R.l NN then z5g R.l q else R.l++[(⟨n0,0,[]⟩:SegA).add q])=SR0.map SegR.p++[s.p.add q] /\
   Sat w' (slc T.a1 7 z1 (q.flatMap zw)::pt a (.cells #[.int .i64 R1.seg,.int .i64 R1.gap,.slice z2.a z2.len z2.cap] T.a35)::slc T.a37 3 z2 (R1.SR.flatMap z0z)::HP.all (R1.SR.map z2b)::r)) ?_ ?_
  ·refine zk (λhr=>?_) λhr=>?_
   ·have hr:z3o R.seg R.l NN=false:=by simpa using hr
    refine zy ?_
    refine zd hs ?_
    have hs:Sat w3 (slc T.a37 3 ⟨none,0,0⟩ (([]:List SegR).flatMap z0z)::_):=hs.slc_nil
    refine wp_app' (x:=⟨none,0,0⟩) (xs:=([]:List SegR)) (ys:=R.SR) (enc:=z0z) hs (λz3 w' hs=>?_) (by simp only [List.length_nil];omega)
    refine za (zjn (R:=R) (z:=z) (a:=a) inferInstance (λs hs=>z94 hs) hs) λ_ w' hs=>?_
    rw [hn0] at hs
    obtain ⟨rfl,hs⟩:=hs
    refine ze ?_
    refine z1f hs (enc:=z0z) (⟨n0,0,⟨none,0,0⟩,[]⟩:SegR) λz4 w' hs=>?_
    refine wp_app' (xs:=[]++R.SR) (ys:=[(⟨n0,0,⟨none,0,0⟩,[]⟩:SegR)]) (enc:=z0z) hs (λz5 w' hs=>?_) (by simp only [List.length_append,List.length_cons,List.length_nil];omega)
    refine zy ?_
    refine z0h hs λw' hs=>?_
    rw [w64 (by omega) (by omega)]
    refine wp_lt ?_
    have hs:Sat w' (pt a (.cells #[.int .i64 R.seg,.int .i64 R.gap,.slice z5.a z5.len z5.cap] T.a35)::slc T.a37 3 z5 ((R.SR++[(⟨n0,0,⟨none,0,0⟩,[]⟩:SegR)]).flatMap z0z)::slc T.a37 3 z4 _::slc T.a1 7 z1 (q.flatMap zw)::slc T.a37 3 z (R.SR.flatMap z0z)::HP.all (R.SR.map z2b)::r):=hs
    have hs:Sat w' (z2b (⟨n0,0,⟨none,0,0⟩,[]⟩:SegR)::HP.all (R.SR.map z2b)::slc T.a1 7 z1 (q.flatMap zw)::pt a (.cells #[.int .i64 R.seg,.int .i64 R.gap,.slice z5.a z5.len z5.cap] T.a35)::slc T.a37 3 z5 ((R.SR++[(⟨n0,0,⟨none,0,0⟩,[]⟩:SegR)]).flatMap z0z)::r):=by
     have h1:Sat w' (HP.all (R.SR.map z2b)::slc T.a1 7 z1 (q.flatMap zw)::pt a (.cells #[.int .i64 R.seg,.int .i64 R.gap,.slice z5.a z5.len z5.cap] T.a35)::slc T.a37 3 z5 ((R.SR++[(⟨n0,0,⟨none,0,0⟩,[]⟩:SegR)]).flatMap z0z)::r):=hs.sub
     exact h1.slc_nil
    have hs:=zff hs
    refine zj ⟨⟨R.seg,R.gap,R.SR++[⟨n0,0,⟨none,0,0⟩,[]⟩]⟩,z5,R.SR,⟨n0,0,⟨none,0,0⟩,[]⟩,?_,rfl,rfl,rfl,by simp,by simp [RefM.bs],?_,?_⟩
    ·refine Prod.ext ?_ rfl
     show (z.len:Int)-1+1=_
     omega
    ·rw [hr];rfl
    ·exact hs.sub
   ·have hr:z3o R.seg R.l NN=true:=by simpa using hr
    have h0:R.SR≠[]:=by
     intro h0
     have:R.l=[]:=by unfold RefM.l;rw [h0];rfl
     rw [this] at hr
     cases hr
    obtain ⟨SR0,s,hSR⟩:=z2r h0
    have hlen:R.SR.length=SR0.length+1:=by rw [hSR];simp
    refine zj ⟨R,z,SR0,s,?_,hSR,rfl,rfl,by omega,rfl,?_,hs⟩
    ·refine Prod.ext ?_ rfl
     show (z.len:Int)-1=_
     omega
    ·rw [hr,if_pos rfl]
     have:R.l=SR0.map SegR.p++[s.p]:=by unfold RefM.l;rw [hSR];simp
     rw [this,z39]
  clear hs
  rintro _ w4 ⟨R1,z2,SR0,s,rfl,hSR,hr1,hr2,hr3,hr4,hres,hs⟩
  refine zt ?_
  have hil:SR0.length<R1.SR.length:=by rw [hSR];simp
  have hgs:R1.SR[SR0.length]=s:=by simp [hSR]
  have hsm:s ∈ R1.SR:=by rw [hSR];simp
  have hsbl:s.bs.length<=900000:=by
   have:s.bs.length<=R1.bs.length:=by
    unfold RefM.bs
    rw [hSR]
    simp only [List.flatMap_append,List.flatMap_cons,List.length_append]
    omega
   rw [hr4] at this
   omega
  have hsx:FocR (HP.all (R1.SR.map z2b)::r) s.x 7 (s.bs.flatMap zw):=z94 hsm
  rw [hres] at hrseg ⊢
  refine zy ?_
  refine zd hs ?_
  refine zkf hs (xs:=R1.SR) (enc:=z0z) SR0.length hil ?_
  rw [hgs]
  have hs:Sat w4 (slc T.a1 7 ⟨none,0,0⟩ (([]:List BatM).flatMap zw)::_):=hs.slc_nil
  refine wp_app' (x:=⟨none,0,0⟩) (xs:=([]:List BatM)) (ys:=s.bs) (enc:=zw) hs (λz3 w' hs=>?_) (by simp only [List.length_nil];omega)
  refine zx (λ_ w'=>∃ z4:Sl,Sat w' (slc T.a37 3 z2 ((R1.SR.set SR0.length (s.add z4 q)).flatMap z0z)::slc T.a1 7 z4 ((s.bs++q).flatMap zw)::slc T.a1 7 z1 (q.flatMap zw)::pt a (.cells #[.int .i64 R1.seg,.int .i64 R1.gap,.slice z2.a z2.len z2.cap] T.a35)::HP.all (R1.SR.map z2b)::r)) ?_ ?_
  ·refine z0i hs λw' hs=>?_
   refine zy ?_
   refine z2c hs ?_
   rw [List.nil_append] at hs
   refine zoh (x:=z3) (y:=z1) (xs:=s.bs) (ys:=q) (enc:=zw) hs (λz4 w' hs=>⟨(by first|trivial|(repeat (first|exact trivial|exact λ_=>z0w hs|exact λ_=>z15 hs|refine And.intro ?_ ?_))),?_⟩) (by omega)
   refine zvb hs (xs:=R1.SR) (enc:=z0z) SR0.length hil (s.add z4 q) (λw' hs=>?_) (hy:=by rw [hgs];rfl)
   refine zm ?_
   exact zj ⟨z4,hs.sub⟩
  clear hs
  rintro _ w5 ⟨z4,hs⟩
  refine zt ?_
  have hlq0:0<q.length:=by omega
  refine zgu hs (xs:=q) (enc:=zw) 0 hlq0 ?_
  refine wp_lt ?_
  have hq0:(q[0]'hlq0).base=n0:=hp3 _ (by rw [List.head?_eq_getElem?,List.getElem?_eq_getElem])
  rw [hq0]
  have hset:R1.SR.set SR0.length (s.add z4 q)=SR0++[s.add z4 q]:=by
   rw [hSR,List.set_append];simp
  rw [hset,hSR] at hs
  have hs:=zs2 (hs.pick [4])
  have hs:Sat w5 (slc T.a1 7 z4 ((s.bs++q).flatMap zw)::HP.all (SR0.map z2b)::pt a (.cells #[.int .i64 R1.seg,.int .i64 R1.gap,.slice z2.a z2.len z2.cap] T.a35)::slc T.a37 3 z2 ((SR0++[s.add z4 q]).flatMap z0z)::r):=hs.sub
  have hs:=zff (s:=s.add z4 q) hs
  have hs:=z3v ⟨R1.seg,R1.gap,SR0++[s.add z4 q]⟩ (z:=z2) (hs.pick [1,1])
  have hRl:RefM.l ⟨R1.seg,R1.gap,SR0++[s.add z4 q]⟩=SR0.map SegR.p++[s.p.add q]:=by
   unfold RefM.l
   rw [List.map_append,List.map_cons,List.map_nil,z012]
  have hRb:RefM.bs ⟨R1.seg,R1.gap,SR0++[s.add z4 q]⟩=R1.bs++q:=by
   unfold RefM.bs
   rw [hSR]
   simp [SegR.add]
  refine ⟨rfl,rfl,⟨R1.seg,R1.gap,SR0++[s.add z4 q]⟩,hr1,hr2,hRl,?_,?_,λb hb=>?_,⟨by rw [hRl];exact hrseg,λb hb=>?_,?_,?_⟩,hs⟩
  ·show (SR0++[_]).length<=_
   rw [hSR] at hr3
   simpa using hr3
  ·rw [hRb,hr4,List.length_append];omega
  ·rw [hRb,hr4] at hb
   rcases List.mem_append.1 hb with hb|hb
   ·exact .inl hb
   ·exact .inr (hp2 b hb).2
  ·rw [hRb,hr4] at hb
   rcases List.mem_append.1 hb with hb|hb
   ·exact hok.rd b hb
   ·exact hqF b hb
  ·show (SR0++[_]).length<=_
   rw [hSR] at hr3
   simp at hr3 ⊢
   omega
  ·rw [hRb,hr4,List.length_append];omega
end
section
variable {w:World} {l r:List HP}
theorem zl1 (x:Sl) (bs:List UInt8) [hx:FocR l x 1 (bs.flatMap zg)] (hcap:x.len<=x.cap) (hn:bs.length<=1000000000) (hs:Sat w l) :
  Ret P F.a119 #[x.v] w λvs w'=>∃ z:Sl,vs=[z.v,.int .i64 ((((z10 bs).getD ([],0)).2:Nat):Int)]/\Sat w' (slc T.a38 1 z (((z10 bs).getD ([],0)).1.flatMap zg)::l) :=
 zmm x <| by
  unfold zxc
  have hl:=hs.slen x (xs:=bs) (enc:=zg)
  rw [zi6]
  refine zk (λh=>?_) λh=>?_
  ·rw [if_pos (.inl (by omega))]
   exact ⟨rfl,⟨none,0,0⟩,rfl,hs.slc_nil⟩
  have hf:=(zb5 bs (by omega)).2
  refine zx (λu w'=>u=(((z0g bs:Nat):Int),())/\Sat w' l) ?_ ?_
  ·refine z0e (λk u w=>u=(((z0g bs / 256 ^ k:Nat):Int),(k:Int)-1,())/\k<=4/\Sat w l) 4 ⟨by rw [show z0g bs / 256 ^ 4=0 by omega];rfl,by omega,hs⟩ ?_
   clear hs
   rintro k _ w ⟨rfl,hk,hs⟩
   refine zt ?_
   refine zk (λhc=>?_) λhc=>?_
   rotate_left
   ·obtain rfl:k=0:=by omega
    exact zv (zj ⟨by simp,hs⟩)
   obtain ⟨j,rfl⟩:∃ j,k=j+1:=⟨k-1,by omega⟩
   have hjb:j<bs.length:=by omega
   have hb:z0g bs / 256 ^ j % 256=bs[j].toNat:=by
    have h0:=bs[0].toNat_lt
    have h1:=bs[1].toNat_lt
    have h2:=bs[2].toNat_lt
    have h3:=bs[3].toNat_lt
    rw [zjd (by omega)]
    have hcase:j=0\/j=1\/j=2\/j=3:=by omega
    rcases hcase with rfl|rfl|rfl|rfl <;> simp <;> omega
   refine z24 hs (xs:=bs) (enc:=zg) j hjb ?_
   have hle:z0g bs / 256 ^ j<=z0g bs:=Nat.div_le_self ..
   have hcl:=bs[j].toNat_lt
   rw [Nat.pow_succ,<- Nat.div_div_eq_div_mul]
   have e:IntKind.wrap .i64 (IntKind.wrap .i64 (((z0g bs / 256 ^ j / 256:Nat):Int)*256)+IntKind.wrap .i64 ((bs[j].toNat:Nat):Int))=((z0g bs / 256 ^ j:Nat):Int):=by
    generalize z0g bs / 256 ^ j=m at *
    rw [w64 (x:=((m / 256:Nat):Int)*256) (by omega) (by omega),w64 (x:=((bs[j].toNat:Nat):Int)) (by omega) (by omega),w64 (by omega) (by omega)]
    omega
   refine zdt e ?_
   refine z1l (y:=(j:Int)-1) ?_ (by rw [w64 (by omega) (by omega)];omega)
   refine z0q j ?_
   exact ⟨rfl,by omega,hs⟩
  clear hs
  rintro _ w ⟨rfl,hs⟩
  refine zt ?_
  have e8:IntKind.wrap .i64 (((z0g bs:Nat):Int)+8)=((z0g bs+8:Nat):Int):=by rw [w64 (by omega) (by omega)];omega
  have e4:IntKind.wrap .i64 (4+((z0g bs:Nat):Int))=((z0g bs+4:Nat):Int):=by rw [w64 (by omega) (by omega)];omega
  rw [e8,e4]
  refine zk (λh2=>?_) λh2=>?_
  ·rw [if_pos (by omega)]
   exact ⟨rfl,⟨none,0,0⟩,rfl,hs.slc_nil⟩
  rw [if_neg (by omega),Int.toNat_natCast,Int.toNat_natCast]
  have hle:z0g bs+8<=bs.length:=by omega
  refine wp_must ⟨by omega,by omega,show ((z0g bs+4:Nat):Int)<=((x.cap:Nat):Int) by omega⟩ ?_
  have hF3:FocR l ⟨z1g x.a 1 4 x.cap,x.len-4,x.cap-4⟩ 1 ((bs.drop 4).flatMap zg):=FocR.post hcap
  have hF4:FocR l ⟨z1g x.a 1 4 x.cap,z0g bs+4-4,x.cap-4⟩ 1 (((bs.drop 4).take (z0g bs+4-4)).flatMap zg):=FocR.pre (x:=⟨z1g x.a 1 4 x.cap,x.len-4,x.cap-4⟩) (by rw [List.length_drop];omega)
  have hF8:FocR l ⟨x.a,z0g bs+8,x.cap⟩ 1 ((bs.take (z0g bs+8)).flatMap zg):=FocR.pre (by omega)
  rw [Nat.add_sub_cancel] at hF4 ⊢
  have hbl:((bs.drop 4).take (z0g bs)).length=z0g bs:=by rw [List.length_take,List.length_drop];omega
  have hs:=hs.slc_nil (T:=T.a38) (sz:=1)
  refine wp_app' (x:=⟨none,0,0⟩) (y:=⟨z1g x.a 1 4 x.cap,z0g bs,x.cap-4⟩) (xs:=[]) (ys:=(bs.drop 4).take (z0g bs)) (enc:=zg) hs (λz w' hs=>?_) (by rw [hbl];simp;omega)
  rw [List.nil_append] at hs
  refine z0i hs λw' hs=>?_
  refine wp_must ⟨by omega,show ((z0g bs+8:Nat):Int)<=((x.cap:Nat):Int) by omega⟩ ?_
  refine znr (x:=(⟨(bs.take (z0g bs+8)).toArray⟩:ByteArray)) (zke (x:=⟨x.a,z0g bs+8,x.cap⟩) (bs:=bs.take (z0g bs+8)) hs) ?_
  refine za (zae z ((bs.drop 4).take (z0g bs)) (by omega) hs) λ_ _ hs=>?_
  obtain ⟨u,rfl,hs⟩:=hs
  refine ze ?_ ⟨trivial,λ_=>zke (x:=⟨x.a,z0g bs+8,x.cap⟩) (bs:=bs.take (z0g bs+8)) hs⟩
  refine z93 (x:=u) hs ?_
  refine zm ?_
  refine zk (λh3=>?_) λh3=>?_
  ·have h3:¬ z21 ((bs.drop 4).take (z0g bs))=bs.take (z0g bs+8):=λe=>h3 (by rw [e])
   rw [if_neg h3]
   exact ⟨rfl,⟨none,0,0⟩,rfl,(hs.tail.tail).slc_nil⟩
  ·have h3:z21 ((bs.drop 4).take (z0g bs))=bs.take (z0g bs+8):=by
    have:=Decidable.not_not.1 h3
    have:=congrArg (λa:ByteArray=>a.data.toList) this
    simpa using this
   rw [if_pos h3]
   refine wp_lt ?_
   exact ⟨rfl,z,rfl,hs.tail⟩
end
section
variable {w:World} {l r:List HP} {a:Nat} {R:RefM}
theorem zya (s:SegR) [hx:FocR l s.x 7 (s.bs.flatMap zw)] (hok:SegOk s.p) (hv:∀ b ∈ s.bs,z0c b=0) (hbs:∀ b ∈ s.bs,FocR l b.x 4 (b.rs.flatMap z03)) (hb:s.bs.length<=1000000) (hs:Sat w l) :
  Ret P F.a140 #[.agg (z0z s).toArray] w λvs w'=>∃ y:Sl,vs=[y.v]/\Sat w' (slc T.a38 1 y (s.p.file.flatMap zg)::l) :=
 zmg s.base s.fin s.x <| by
  unfold zwo
  have hl:=hs.slen s.x (xs:=s.bs) (enc:=zw)
  have h1:=hok.base
  have h2:=hok.fin
  have h1:0<=s.base/\s.base<=1099511627776:=h1
  have h2:s.fin=0\/(s.base<s.fin/\s.fin<=1099511627776):=h2
  have hsum:=z91 hv
  have hshl:=z7j s.base s.fin
  have hfe:s.p.file=shL s.base s.fin++s.bs.flatMap frL:=by
   show shL s.base s.fin++(s.bs.map BatM.p).flatMap frL=_
   rw [List.flatMap_map]
   rfl
  rw [hfe]
  refine z0b hs λa0 w' hs=>?_
  refine zd hs ?_
  refine zd hs ?_
  refine za (zon s.base s.fin (by omega) (by omega) hs) λ_ w' hs=>?_
  obtain ⟨y,rfl,hs⟩:=hs
  refine ze ?_
  refine zd hs ?_
  refine zx (λq w'=>∃ y:Sl,q=(y,())/\Sat w' (slc T.a38 1 y ((shL s.base s.fin++s.bs.flatMap frL).flatMap zg)::l)) ?_ ?_
  rotate_left
  ·rintro _ w2 ⟨y,rfl,hs⟩
   exact ⟨rfl,y,rfl,hs⟩
  have hs:Sat w' (slc T.a38 1 y ((shL s.base s.fin++(s.bs.take 0).flatMap frL).flatMap zg)::l):=by
   rw [List.take_zero,List.flatMap_nil,List.append_nil]
   exact hs.sub
  refine z0e (λm v w=>∃ (i:Nat) (y:Sl),v=(y,((i:Int),()))/\i<=s.bs.length/\s.bs.length-i=m/\Sat w (slc T.a38 1 y ((shL s.base s.fin++(s.bs.take i).flatMap frL).flatMap zg)::l)) s.bs.length ⟨0,y,rfl,by omega,rfl,hs⟩ ?_
  clear hs
  rintro m _ w ⟨i,y,rfl,hi,hm,hs⟩
  refine zt ?_
  refine zk (λhc=>?_) λhc=>?_
  rotate_left
  ·refine zv (zj ⟨y,rfl,?_⟩)
   rwa [List.take_of_length_le (by omega)] at hs
  have hil:i<s.bs.length:=by omega
  have hR:=hbs _ (List.getElem_mem hil)
  have hvi:=hv _ (List.getElem_mem hil)
  have hbl:=z4g hvi
  have hfl:=z3q hvi
  have e1:(s.bs.take (i+1)).flatMap frL=(s.bs.take i).flatMap frL++frL s.bs[i]:=by
   rw [List.take_succ_eq_append_getElem hil,List.flatMap_append];simp
  have e2:((s.bs.take (i+1)).flatMap frL).length<=(s.bs.flatMap frL).length:=by
   have:s.bs.flatMap frL=(s.bs.take (i+1)).flatMap frL++(s.bs.drop (i+1)).flatMap frL:=by rw [<- List.flatMap_append,List.take_append_drop]
   rw [this,List.length_append];omega
  have e3:=congrArg List.length e1
  rw [List.length_append] at e3
  refine z23 hs (xs:=s.bs) (enc:=zw) i hil ?_
  refine z05 hs λc w' hs=>?_
  refine z09 hs λw' hs=>?_
  refine z02 hs ?_
  refine za (za1 s.bs[i] hs) λ_ w' hs=>?_
  rcases hs with ⟨h,-,-⟩|⟨-,z,rfl,hs⟩
  ·exact absurd hvi h
  refine ⟨(z,0,()),rfl,trivial,z37 _ _ ?_⟩
  refine wp_lt ?_
  refine za (zae z (z1p s.bs[i]) (by omega) hs) λ_ w' hs=>?_
  obtain ⟨z2,rfl,hs⟩:=hs
  refine ze ?_
  have hs:Sat w' (slc T.a38 1 z2 ((frL s.bs[i]).flatMap zg)::slc T.a38 1 z _::pt c _::slc T.a38 1 y ((shL s.base s.fin++(s.bs.take i).flatMap frL).flatMap zg)::l):=hs
  refine wp_app' (x:=y) (y:=z2) (xs:=shL s.base s.fin++(s.bs.take i).flatMap frL) (ys:=frL s.bs[i]) (enc:=zg) hs (λy2 w' hs=>?_) (by rw [List.length_append];omega)
  rw [wS (i:=i) (by omega)]
  refine z0q (s.bs.length-(i+1)) ⟨i+1,y2,rfl,by omega,rfl,?_⟩
  rw [e1,<- List.append_assoc]
  exact hs.sub
theorem ztk (s:SegR) (h:s ∈ R.SR):s.bs.length<=R.bs.length:=by
 obtain ⟨u,v,huv⟩:=List.append_of_mem h
 unfold RefM.bs
 rw [huv]
 simp only [List.flatMap_append,List.flatMap_cons,List.length_append]
 omega
end
instance:EncF zw 0 (.int .i64) (λb=>b.base):=⟨λ_=>rfl⟩
def z1s (key value:ByteArray) (x:Sl):BatM:=⟨0,0,0,0,0,0,x,[⟨key,value,false,0⟩]⟩
def aP:ByteArray:=ByteArray.mk #[112]
def aD0:DiskA:=⟨1000,-1,false,[]⟩
def aB:BatM:=z1s (ByteArray.mk #[97]) (ByteArray.mk #[120]) z7l
def aS1:(Int × Int) × List SegA × DiskA:=z0s aP 64 [] aD0 [aB]
def aS2:(Int × Int) × List SegA × DiskA:=z0s aP 64 aS1.2.1 aS1.2.2 [aB]
def aS3:(Int × Int) × List SegA × DiskA:=z0s aP 64 aS2.2.1 aS2.2.2 [aB]
theorem zhc:∀ (bs:List BatM) (n:Int),(z00 n (bs.map BatM.p)).1=(z00 n bs).1/\(z00 n (bs.map BatM.p)).2.map BatM.p=(z00 n bs).2.map BatM.p
 | [],n=>⟨rfl,rfl⟩
 | b::bs,n=>by
  rw [List.map_cons]
  unfold z00
  have e1:z0c (b.p.to n)=z0c (b.to n):=rfl
  have e2:z0d b.p=z0d b:=rfl
  obtain ⟨i1,i2⟩:=zhc bs (n+z0d b)
  rw [e1,e2,i1]
  split
  ·exact ⟨rfl,rfl⟩
  split
  ·exact ⟨rfl,rfl⟩
  ·exact ⟨rfl,by rw [List.map_cons,List.map_cons,i2];rfl⟩
theorem zi5 {a b:List BatM} (h:a.map BatM.p=b.map BatM.p):a.flatMap frL=b.flatMap frL:=by
 rw [<- zle a,h,zle]
theorem zpr {a b:List BatM} (h:a.map BatM.p=b.map BatM.p) (s:SegA):s.add a=s.add b:=by unfold SegA.add;rw [h]
theorem zi0 {a b:List BatM} (h:a.map BatM.p=b.map BatM.p) (l:List SegA):z5g l a=z5g l b:=by
 unfold z5g
 split
 ·rfl
 ·rw [zpr h]
theorem zsx (pre:ByteArray) (seg:Int) (l:List SegA) (D:DiskA) (bs:List BatM):z0s pre seg l D (bs.map BatM.p)=z0s pre seg l D bs:=by
 obtain ⟨h1,h2⟩:=zhc bs (z01 l)
 unfold z0s
 rw [h1,zi5 h2,zi0 h2,zpr h2]
 by_cases hb:bs=[]
 ·subst hb;rfl
 ·rw [if_neg hb,if_neg (by intro h;exact hb (List.map_eq_nil_iff.1 h))]
theorem zki (seg:Int) (l:List SegA) (bs:List BatM):z16 seg l (bs.map BatM.p)=z16 seg l bs:=by
 obtain ⟨h1,h2⟩:=zhc bs (z01 l)
 unfold z16
 rw [h1,zi5 h2,zi0 h2,zpr h2]
 by_cases hb:bs=[]
 ·subst hb;rfl
 ·rw [if_neg hb,if_neg (by intro h;exact hb (List.map_eq_nil_iff.1 h))]
theorem zyl:z36 aP aD0=(0,[],aD0):=by kernel_rfl
theorem z041:aS1.1=(0,0):=by kernel_rfl
theorem z04b:aS2.1=(1,0):=by kernel_rfl
theorem z049:aS3.1=(2,0):=by kernel_rfl
theorem zz9:aS3.2.1.map SegA.base=[0,2]:=by kernel_rfl
theorem zx5:aS1.2.1.length=1/\aS1.2.1.map (λs=>s.file.length)=[32]:=by constructor <;> kernel_rfl
theorem zxh:aS2.2.1.length=1/\aS2.2.1.map (λs=>s.file.length)=[53]:=by constructor <;> kernel_rfl
theorem z03t:aS3.2.1.length=2:=by kernel_rfl
theorem zyu:(z06 aS3.2.2.fs (ByteArray.mk #[112,45,48,48,48,48,48,48,48,48,48,48,48,46,108,111,103])).map (λp=>(p.1.length,p.1[0]?,p.1[4]?))=some (53,some 3,some 83):=by kernel_rfl
structure Calm (D:DiskA):Prop where
 gone:D.gone=false
 left:D.left = -1
theorem z9r {D:DiskA} (h:D.left = -1):z32 D=D:=by unfold z32;rw [if_neg (by omega)]
theorem z9k {D:DiskA} (h:Calm D) (n:ByteArray) (bs:List UInt8):Calm (z04 D n bs).2:=by
 unfold z04
 split
 ·exact h
 split
 ·exact h
 split
 ·exact h
 ·show Calm (z32 _)
  rw [z9r (by exact h.left)]
  exact ⟨h.gone,h.left⟩
theorem zt2 {D:DiskA} (h:Calm D) (ns:List ByteArray):Calm (z29 D ns).2:=by
 unfold z29
 split
 ·exact h
 split
 ·exact h
 ·show Calm (z32 _)
  rw [z9r (by exact h.left)]
  exact ⟨h.gone,h.left⟩
theorem z9o {D:DiskA} (h:Calm D) (n:ByteArray):Calm (z0v D n).2:=by
 unfold z0v
 split
 ·exact h
 split
 ·exact h
 ·show Calm (z32 _)
  rw [z9r (by exact h.left)]
  exact ⟨h.gone,h.left⟩
theorem zbj {D:DiskA} (h:Calm D) (pre:ByteArray) (l:List SegA):Calm (z19 pre l D).2:=by
 unfold z19
 split
 ·exact h
 ·exact zt2 h _
theorem z56 {A:DiskA} {n:ByteArray} {bs:List UInt8}:(z04 A n bs).2.fs.length<=A.fs.length+1/\((z06 A.fs n).isSome=true->(z04 A n bs).2.fs.length=A.fs.length):=by
 unfold z04
 split
 ·exact ⟨by show A.fs.length<=_;omega,λ_=>rfl⟩
 split
 ·exact ⟨by show A.fs.length<=_;omega,λ_=>rfl⟩
 split
 ·exact ⟨by show A.fs.length<=_;omega,λ_=>rfl⟩
 ·show (z32 _).fs.length<=_/\(_->(z32 _).fs.length=_)
  rw [z3y]
  show (if z2k A.fs n=true then _ else _:List FileA).length<=_/\(_->(if z2k A.fs n=true then _ else _:List FileA).length=_)
  rw [<- z41]
  split
  ·rw [List.length_map];exact ⟨by omega,λ_=>rfl⟩
  ·rename_i h
   rw [(z6c _ _).length_eq]
   exact ⟨by simp,λh2=>absurd h2 h⟩
structure Cpl (pre:ByteArray) (l:List SegA) (D:DiskA):Prop where
 ok:okA D
 segs:z0k 0 l
 has:zel pre l D
 only:∀ n,(z06 D.fs n).isSome=true->(bl (z13 pre)).isPrefixOf (bl n)=true->∃ s ∈ l,n=zi pre s.base zu
def z4s (l:List SegA):Nat:=(l.map λs=>s.file.length).sum
theorem z7g (l:List SegA) (s:SegA):z4s (l++[s])=z4s l+s.file.length:=by simp [z4s]
theorem z5v {pre:ByteArray} {s t:SegA} (hs:SegOk s) (ht:SegOk t) (h:s.base≠t.base):zi pre s.base zu≠zi pre t.base zu:=λe=>by
 have h1:=hs.base
 have h2:=ht.base
 exact h (z5l (by omega) (by omega) e).1
theorem zah {pre:ByteArray} (hp:z5a pre=true) (base:Int):z3f (zi pre base zu)=true:=zlj hp base rfl (by decide)
structure Fr (pre:ByteArray) (D D':DiskA):Prop where
 room:D'.room=D.room
 other:∀ m,(bl (z13 pre)).isPrefixOf (bl m)=false->z06 D'.fs m=z06 D.fs m
theorem Fr.refl (pre:ByteArray) (D:DiskA):Fr pre D D:=⟨rfl,λ_ _=>rfl⟩
theorem Fr.trans {pre:ByteArray} {D D' D'':DiskA} (h1:Fr pre D D') (h2:Fr pre D' D''):Fr pre D D'':=⟨h2.room.trans h1.room,λm hm=>(h2.other m hm).trans (h1.other m hm)⟩
theorem zjk {D:DiskA} (hok:okA D) (n:ByteArray):okA (z29 D [n]).2/\(z29 D [n]).2.room=D.room/\used (z29 D [n]).2.fs=used D.fs/\(z29 D [n]).2.fs.length=D.fs.length /\
  ∀ m,z06 (z29 D [n]).2.fs m=z06 D.fs m\/(m=n/\(z29 D [n]).1=0/\z06 (z29 D [n]).2.fs m=(z06 D.fs m).map λp=>(p.1,p.1.length)):=by
 by_cases h:(z29 D [n]).1=0
 ·obtain ⟨-,h1,h2,h3,h4,h5⟩:=zoc hok h
  refine ⟨h1,h2,h3,h4,λm=>?_⟩
  by_cases hm:n=m
  ·subst hm
   refine .inr ⟨rfl,h,?_⟩
   rw [h5]
   simp
  ·refine .inl ?_
   rw [h5]
   simp [hm]
 ·rcases zei (A:=D) (n:=n) with ⟨h1,-,-,-⟩|⟨-,-,h4⟩|⟨-,-,-,h4⟩
  ·exact absurd h1 h
  ·rw [h4];exact ⟨hok,rfl,rfl,rfl,λm=>.inl rfl⟩
  ·rw [h4];exact ⟨hok,rfl,rfl,rfl,λm=>.inl rfl⟩
theorem Cpl.same {pre:ByteArray} {l:List SegA} {D D':DiskA} (h:Cpl pre l D) (hok:okA D') (hf:∀ m,(bl (z13 pre)).isPrefixOf (bl m)=true->(z06 D'.fs m).map Prod.fst=(z06 D.fs m).map Prod.fst):Cpl pre l D':=by
 refine ⟨hok,h.segs,λs hs=>?_,λn hn hp=>?_⟩
 ·obtain ⟨k,hk⟩:=h.has s hs
  have:=hf _ (z1m pre s.base zu)
  rw [hk] at this
  cases hq:z06 D'.fs (zi pre s.base zu) with
  | none=>rw [hq] at this;cases this
  | some q =>
   rw [hq] at this
   simp only [Option.map_some,Option.some.injEq] at this
   exact ⟨q.2,by rw [<- this]⟩
 ·refine h.only n ?_ hp
  have:=hf n hp
  cases hq:z06 D.fs n with
  | none =>
   rw [hq] at this
   cases hq2:z06 D'.fs n with
   | none=>rw [hq2] at hn;cases hn
   | some q=>rw [hq2] at this;cases this
  | some q=>rfl
theorem z89 {pre:ByteArray} {l:List SegA} {D:DiskA} (h:Cpl pre l D):Cpl pre l (z19 pre l D).2/\Fr pre D (z19 pre l D).2/\used (z19 pre l D).2.fs=used D.fs/\(z19 pre l D).2.fs.length=D.fs.length/\(Calm D->(z19 pre l D).1=0):=by
 unfold z19
 cases hl:l.getLast? with
 | none=>exact ⟨h,.refl _ _,rfl,rfl,λ_=>rfl⟩
 | some s =>
  simp only
  obtain ⟨h1,h2,h3,h4,h5⟩:=zjk h.ok (zi pre s.base zu)
  refine ⟨h.same h1 λm hm=>?_,⟨h2,λm hm=>?_⟩,h3,h4,λhc=>?_⟩
  ·rcases h5 m with h6|⟨-,-,h6⟩
   ·rw [h6]
   ·rw [h6,Option.map_map];rfl
  ·rcases h5 m with h6|⟨h6,-,-⟩
   ·exact h6
   ·rw [h6,z1m] at hm;cases hm
  ·rcases zei (A:=D) (n:=zi pre s.base zu) with ⟨h6,-,-,-⟩|⟨-,h6,-⟩|⟨-,-,h6,-⟩
   ·exact h6
   ·rw [hc.gone] at h6;cases h6
   ·obtain ⟨k,hk⟩:=h.has s (List.mem_of_getLast? hl)
    rw [hk] at h6;cases h6
theorem Cpl.grow {pre:ByteArray} {l0:List SegA} {s s':SegA} {D:DiskA} {x:List UInt8} (hp:z5a pre=true) (h:Cpl pre (l0++[s]) D) (hsegs:z0k 0 (l0++[s'])) (hb:s'.base=s.base) (hx:s'.file=s.file++x) (ha:(z04 D (zi pre s.base zu) x).1=0) :
  Cpl pre (l0++[s']) (z04 D (zi pre s.base zu) x).2/\Fr pre D (z04 D (zi pre s.base zu) x).2/\used (z04 D (zi pre s.base zu) x).2.fs+z4s (l0++[s])=used D.fs+z4s (l0++[s'])/\(z04 D (zi pre s.base zu) x).2.fs.length=D.fs.length:=by
 obtain ⟨h1,h2,h3,h4,h5,h6,h7⟩:=z6b h.ok ha
 obtain ⟨k,hk⟩:=h.has s (by simp)
 obtain ⟨f1,f2,f3,f4⟩:=h.segs.front
 refine ⟨⟨h4,hsegs,λt ht=>?_,λn hn hpn=>?_⟩,⟨h5,λm hm=>?_⟩,?_,(z56.2 (by rw [hk];rfl))⟩
 ·rcases List.mem_append.1 ht with ht|ht
  ·have hto:=(f1.mem t ht).1
   have hne:zi pre t.base zu≠zi pre s.base zu:=z5v hto f2 (by have:=(f4 t ht).2;omega)
   rw [h7,if_neg hne]
   exact h.has t (by simp [ht])
  ·simp only [List.mem_cons,List.not_mem_nil,or_false] at ht
   subst ht
   rw [hb,h7,if_pos rfl,hk,hx]
   exact ⟨k,rfl⟩
 ·rw [h7] at hn
  by_cases hm:n=zi pre s.base zu
  ·exact ⟨s',by simp,by rw [hb];exact hm⟩
  ·rw [if_neg hm] at hn
   obtain ⟨t,ht,rfl⟩:=h.only n hn hpn
   rcases List.mem_append.1 ht with ht|ht
   ·exact ⟨t,by simp [ht],rfl⟩
   ·simp only [List.mem_cons,List.not_mem_nil,or_false] at ht
    subst ht
    exact absurd rfl hm
 ·rw [h7,if_neg]
  rintro rfl
  rw [z1m] at hm;cases hm
 ·rw [h6,z7g,z7g,hx,List.length_append];omega
theorem Cpl.begin {pre:ByteArray} {l:List SegA} {s:SegA} {D:DiskA} (h:Cpl pre l D) (hsegs:z0k 0 (l++[s])) (ha:(z04 D (zi pre s.base zu) s.file).1=0) :
  Cpl pre (l++[s]) (z04 D (zi pre s.base zu) s.file).2/\Fr pre D (z04 D (zi pre s.base zu) s.file).2/\used (z04 D (zi pre s.base zu) s.file).2.fs+z4s l=used D.fs+z4s (l++[s])/\(z04 D (zi pre s.base zu) s.file).2.fs.length<=D.fs.length+1:=by
 obtain ⟨h1,h2,h3,h4,h5,h6,h7⟩:=z6b h.ok ha
 obtain ⟨f1,f2,f3,f4⟩:=hsegs.front
 have hnone:z06 D.fs (zi pre s.base zu)=none:=by
  cases hq:z06 D.fs (zi pre s.base zu) with
  | none=>rfl
  | some q =>
   obtain ⟨t,ht,e⟩:=h.only _ (by rw [hq];rfl) (z1m pre s.base zu)
   exact absurd e (z5v f2 (f1.mem t ht).1 (by have:=(f4 t ht).2;omega))
 refine ⟨⟨h4,hsegs,λt ht=>?_,λn hn hpn=>?_⟩,⟨h5,λm hm=>?_⟩,?_,z56.1⟩
 ·rcases List.mem_append.1 ht with ht|ht
  ·have hto:=(f1.mem t ht).1
   have hne:zi pre t.base zu≠zi pre s.base zu:=z5v hto f2 (by have:=(f4 t ht).2;omega)
   rw [h7,if_neg hne]
   exact h.has t ht
  ·simp only [List.mem_cons,List.not_mem_nil,or_false] at ht
   subst ht
   rw [h7,if_pos rfl,hnone]
   exact ⟨0,rfl⟩
 ·rw [h7] at hn
  by_cases hm:n=zi pre s.base zu
  ·exact ⟨s,by simp,hm⟩
  ·rw [if_neg hm] at hn
   obtain ⟨t,ht,rfl⟩:=h.only n hn hpn
   exact ⟨t,by simp [ht],rfl⟩
 ·rw [h7,if_neg]
  rintro rfl
  rw [z1m] at hm;cases hm
 ·rw [h6,z7g];omega
def Stp (pre:ByteArray) (l:List SegA) (D:DiskA) (l':List SegA) (D':DiskA):Prop :=
 Cpl pre l' D'/\Fr pre D D'/\used D'.fs+z4s l=used D.fs+z4s l'/\D'.fs.length+l.length<=D.fs.length+l'.length/\(Calm D->Calm D')
theorem Stp.same {pre:ByteArray} {l:List SegA} {D:DiskA} (h:Cpl pre l D):Stp pre l D l D:=⟨h,.refl _ _,rfl,Nat.le_refl _,id⟩
theorem Stp.trans {pre:ByteArray} {l l' l'':List SegA} {D D' D'':DiskA} (h1:Stp pre l D l' D') (h2:Stp pre l' D' l'' D''):Stp pre l D l'' D'' :=
 ⟨h2.1,h1.2.1.trans h2.2.1,by have:=h1.2.2.1;have:=h2.2.2.1;omega,by have:=h1.2.2.2.1;have:=h2.2.2.2.1;omega,λh=>h2.2.2.2.2 (h1.2.2.2.2 h)⟩
theorem zu1 {pre:ByteArray} {l:List SegA} {D:DiskA} (h:Cpl pre l D):Stp pre l D l (z19 pre l D).2:=by
 obtain ⟨h1,h2,h3,h4,-⟩:=z89 h
 exact ⟨h1,h2,by omega,by omega,λhc=>zbj hc _ _⟩
theorem zfd (n:Int) (bs:List BatM):(SegA.add ⟨n,0,[]⟩ bs).file=shL n 0++bs.flatMap frL:=by
 rw [z70];simp [SegA.file]
theorem zb7 {pre:ByteArray} (seg:Int) {l:List SegA} {D:DiskA} (bs:List BatM) (hp:z5a pre=true) (h:Cpl pre l D):Stp pre l D (z0s pre seg l D bs).2.1 (z0s pre seg l D bs).2.2:=by
 have hsegs:=z80 (seg:=seg) (bs:=bs) h.segs
 unfold z0s
 unfold z16 at hsegs
 split
 ·exact .same h
 rename_i hb
 rw [if_neg hb] at hsegs
 split
 ·exact .same h
 rename_i hpl
 rw [if_neg hpl] at hsegs
 simp only at hsegs
 split
 ·rename_i hr
  rw [if_pos hr] at hsegs
  have hne:l≠[]:=by rintro rfl;cases hr
  obtain ⟨l0,s,rfl⟩:=z2r hne
  rw [zc1]
  rw [z39] at hsegs
  split
  ·rename_i he
   simp only
   rw [z8m he]
   exact .same h
  ·rename_i he
   have he:=Decidable.not_not.1 he
   simp only
   rw [z39]
   obtain ⟨c1,c2,c3,c4⟩:=h.grow hp hsegs rfl (z70 _ _) he
   exact ⟨c1,c2,c3,by rw [List.length_append,List.length_append];simp;omega,λhc=>z9k hc _ _⟩
 ·rename_i hr
  rw [if_neg hr] at hsegs
  have hst:=zu1 h
  split
  ·exact hst
  split
  ·rename_i he
   simp only
   rw [z8m he]
   exact hst
  ·rename_i he
   have he:=Decidable.not_not.1 he
   simp only
   rw [<- zfd] at he ⊢
   obtain ⟨c1,c2,c3,c4⟩:=hst.1.begin (s:=SegA.add ⟨z01 l,0,[]⟩ (z00 (z01 l) bs).2) hsegs he
   refine hst.trans ⟨c1,c2,c3,?_,λhc=>z9k hc _ _⟩
   rw [List.length_append,List.length_singleton]
   have c4:(z04 (z19 pre l D).2 (zi pre (z01 l) zu) _).2.fs.length<=_:=c4
   omega
theorem zi9 {pre:ByteArray} (seg:Int) {l:List SegA} {D:DiskA} (bs:List BatM) (hp:z5a pre=true) (h:Cpl pre l D) (hc:Calm D) :
  ((z0s pre seg l D bs).1=(z16 seg l bs).1/\(z0s pre seg l D bs).2.1=(z16 seg l bs).2) \/
  ((z0s pre seg l D bs).1=(0,5)/\(z0s pre seg l D bs).2.1=l/\(z16 seg l bs).1.2=0/\(z00 (z01 l) bs).1=0/\(((z00 (z01 l) bs).2.flatMap frL).length+(shL (z01 l) 0).length>D.free\/D.fs.length>=128)):=by
 unfold z0s z16
 split
 ·exact .inl ⟨rfl,rfl⟩
 split
 ·exact .inl ⟨rfl,rfl⟩
 rename_i hpl
 have hpl:=Decidable.not_not.1 hpl
 split
 ·rename_i hr
  split
  ·rename_i he
   have hne:l≠[]:=by rintro rfl;cases hr
   obtain ⟨l0,s,rfl⟩:=z2r hne
   rw [zc1] at he ⊢
   obtain ⟨k,hk⟩:=h.has s (by simp)
   have h5:(z04 D (zi pre s.base zu) ((z00 (z01 (l0++[s])) bs).2.flatMap frL)).1=5:=by
    rcases zeg (A:=D) (n:=zi pre s.base zu) (bs:=(z00 (z01 (l0++[s])) bs).2.flatMap frL) (zah hp _) with h6|⟨-,h6⟩|⟨h6,-⟩
    ·exact absurd h6 he
    ·rw [hc.gone] at h6;cases h6
    ·exact h6
   refine .inr ⟨by rw [h5],rfl,rfl,hpl,.inl ?_⟩
   apply Nat.lt_of_not_le
   intro hle
   exact he (z6u hc.gone (zah hp _) (by omega) (.inl (by rw [hk];simp)))
  ·exact .inl ⟨rfl,rfl⟩
 ·rename_i hr
  obtain ⟨s1,s2,s3,s4,s5⟩:=z89 h
  have s5:=s5 hc
  have hc2:=zbj hc pre l
  rw [if_neg (by rw [s5];simp)]
  split
  ·rename_i he
   have h5:(z04 (z19 pre l D).2 (zi pre (z01 l) zu) (shL (z01 l) 0++(z00 (z01 l) bs).2.flatMap frL)).1=5:=by
    rcases zeg (A:=(z19 pre l D).2) (n:=zi pre (z01 l) zu) (bs:=shL (z01 l) 0++(z00 (z01 l) bs).2.flatMap frL) (zah hp _) with h6|⟨-,h6⟩|⟨h6,-⟩
    ·exact absurd h6 he
    ·rw [hc2.gone] at h6;cases h6
    ·exact h6
   refine .inr ⟨by rw [h5],rfl,rfl,hpl,?_⟩
   by_cases hfl:D.fs.length>=128
   ·exact .inr hfl
   refine .inl ?_
   apply Nat.lt_of_not_le
   intro hle
   refine he (z6u hc2.gone (zah hp _) ?_ (.inr (by omega)))
   have:(z19 pre l D).2.free=D.free:=by unfold DiskA.free;rw [s2.room,s3]
   rw [this,List.length_append]
   omega
  ·exact .inl ⟨rfl,rfl⟩
theorem z6e:∀ {xs ys:List ByteArray},xs.Pairwise (λa b=>ltS a b=true)->ys.Pairwise (λa b=>ltS a b=true)->(∀ n,n ∈ xs↔n ∈ ys)->xs=ys
 | [],[],_,_,_=>rfl
 | [],y::ys,_,_,h=>absurd ((h y).2 (List.mem_cons_self ..)) (by simp)
 | x::xs,[],_,_,h=>absurd ((h x).1 (List.mem_cons_self ..)) (by simp)
 | x::xs,y::ys,hx,hy,h=>by
  rw [List.pairwise_cons] at hx hy
  have hxy:x=y:=by
   rcases List.mem_cons.1 ((h x).1 (List.mem_cons_self ..)) with h1|h1
   ·exact h1
   ·rcases List.mem_cons.1 ((h y).2 (List.mem_cons_self ..)) with h2|h2
    ·exact h2.symm
    ·have h3:=hy.1 x h1
     have h4:=hx.1 y h2
     rw [zsr h3] at h4
     cases h4
  subst hxy
  congr 1
  refine z6e hx.2 hy.2 λn=>?_
  constructor
  ·intro hn
   rcases List.mem_cons.1 ((h n).1 (List.mem_cons_of_mem _ hn)) with h1|h1
   ·subst h1
    have:=hx.1 n hn
    rw [z8l] at this;cases this
   ·exact h1
  ·intro hn
   rcases List.mem_cons.1 ((h n).2 (List.mem_cons_of_mem _ hn)) with h1|h1
   ·subst h1
    have:=hy.1 n hn
    rw [z8l] at this;cases this
   ·exact h1
theorem zgz (p s:ByteArray):Go.Proofs.YtfnldnodhfkojaaGreat.preF p s=(bl p).isPrefixOf (bl s):=by
 unfold Go.Proofs.YtfnldnodhfkojaaGreat.preF
 rw [ByteArray.toList_eq,ByteArray.toList_eq]
theorem z8a {D:DiskA} {pre n:ByteArray}:n ∈ z12 (z13 pre) D.fs↔(z06 D.fs n).isSome=true/\(bl (z13 pre)).isPrefixOf (bl n)=true:=by
 unfold z12
 rw [List.mem_filter,<- z41,z62,zgz]
 constructor
 ·rintro ⟨h1,h2⟩
  obtain ⟨f,hf,rfl⟩:=List.mem_map.1 h1
  exact ⟨⟨f,hf,rfl⟩,h2⟩
 ·rintro ⟨⟨f,hf,rfl⟩,h2⟩
  exact ⟨List.mem_map.2 ⟨f,hf,rfl⟩,h2⟩
theorem z5e {D:DiskA} (hok:okA D) (p:ByteArray):(z12 p D.fs).Pairwise λa b=>ltS a b=true:=by
 unfold z12
 exact ((List.pairwise_map.2 hok.sorted).filter _)
theorem z7v (pre:ByteArray):∀ {n:Int} {l:List SegA},z0k n l->(l.map λs=>zi pre s.base zu).Pairwise λa b=>ltS a b=true
 | _,[],_=>List.Pairwise.nil
 | n,s::l,⟨h1,h2,h3⟩=>by
  rw [List.map_cons,List.pairwise_cons]
  refine ⟨λm hm=>?_,z7v pre h3⟩
  obtain ⟨t,ht,rfl⟩:=List.mem_map.1 hm
  have h4:=h3.mem t ht
  have:=h2.base
  have:=h4.1.base
  exact (zie pre (by omega) (by omega) zu).2 (by omega)
theorem Cpl.names {pre:ByteArray} {l:List SegA} {D:DiskA} (h:Cpl pre l D):z12 (z13 pre) D.fs=l.map λs=>zi pre s.base zu:=by
 refine z6e (z5e h.ok _) (z7v pre h.segs) λn=>?_
 rw [z8a]
 constructor
 ·rintro ⟨h1,h2⟩
  obtain ⟨s,hs,rfl⟩:=h.only n h1 h2
  exact List.mem_map.2 ⟨s,hs,rfl⟩
 ·intro hn
  obtain ⟨s,hs,rfl⟩:=List.mem_map.1 hn
  obtain ⟨k,hk⟩:=h.has s hs
  exact ⟨by rw [hk];rfl,z1m pre s.base zu⟩
theorem z7q (pre:ByteArray) (D:DiskA):∀ {l:List SegA},(∀ s ∈ l,SegOk s)->z0t pre (l.map λs=>zi pre s.base zu) D=(0,l.map SegA.base,D)
 | [],_=>rfl
 | s::l,h=>by
  have hb:=(h s (List.mem_cons_self ..)).base
  have h1:z1j pre (zi pre s.base zu) zu=some s.base.toNat:=z5y pre (by omega) zu
  have h2:z1j pre (zi pre s.base zu) z1u=none:=z9v h1 (by decide)
  rw [List.map_cons]
  unfold z0t
  rw [h2]
  rw [if_neg (by rintro ⟨h3,-⟩;cases h3)]
  simp only [Option.isSome_none,Bool.false_eq_true,if_false]
  rw [z7q pre D λt ht=>h t (List.mem_cons_of_mem _ ht),h1]
  simp only [List.map_cons]
  have e:((s.base.toNat:Nat):Int)=s.base:=by omega
  rw [e]
  rfl
theorem z8k {pre:ByteArray} {D:DiskA}:∀ {l l1:List SegA},z0k 0 (l1++l)->(∀ s ∈ l,∃ k,z06 D.fs (zi pre s.base zu)=some (s.file,k))->z2a pre (l.map SegA.base) l1 D=(0,l1++l,D)
 | [],l1,_,_=>by unfold z2a;simp
 | s::l,l1,hok,hh=>by
  rw [List.map_cons]
  unfold z2a
  have hok2:z0k 0 ((l1++[s])++l):=by rwa [List.append_assoc]
  have hs:SegOk s:=(hok.mem s (by simp)).1
  obtain ⟨k,hk⟩:=hh s (List.mem_cons_self ..)
  have hb:¬ s.base<z01 l1:=by
   have:=hs.base
   by_cases h0:l1=[]
   ·subst h0;show ¬ s.base<0;omega
   ·obtain ⟨l0,t,rfl⟩:=z2r h0
    rw [z3a]
    have h1:=hok.skip l0.length (l0.length+1) (by simp) (by omega)
    have e1:(l0++[t]++s::l)[l0.length]'(by simp)=t:=by simp
    have e2:(l0++[t]++s::l)[l0.length+1]'(by simp)=s:=by
     rw [List.getElem_append_right (by simp)];simp
    rw [e1,e2] at h1
    omega
  have hsc:z1k pre l1 D s.base=((true,0),l1++[s],D):=by
   unfold z1k
   rw [hk]
   simp only
   rw [zik hs]
   simp only
   rw [if_pos trivial]
  rw [if_neg hb,hsc,if_neg (by simp),if_pos rfl]
  simp only
  rw [z8k hok2 λt ht=>hh t (List.mem_cons_of_mem _ ht),List.append_assoc]
  rfl
theorem Cpl.opened {pre:ByteArray} {l:List SegA} {D:DiskA} (h:Cpl pre l D):z36 pre D=(0,l,D):=by
 unfold z36
 rw [h.names,z7q pre D λs hs=>(h.segs.mem s hs).1]
 rw [if_neg (by simp)]
 simp only
 have:=z8k (pre:=pre) (D:=D) (l:=l) (l1:=[]) h.segs h.has
 rw [this]
 rfl
theorem Cpl.frame {pre q:ByteArray} {l:List SegA} {D D':DiskA} (h:Cpl q l D) (hok:okA D') (hp:z5a pre=true) (hq:z5a q=true) (hne:pre≠q) (hf:Fr pre D D'):Cpl q l D' :=
 h.same hok λm hm=>by
  rw [hf.other m ?_]
  cases hx:(bl (z13 pre)).isPrefixOf (bl m) with
  | false=>rfl
  | true=>exact absurd (zv9 hp hq hx hm) hne
theorem zsz (pre:ByteArray) (n:Nat) (hn:n<=4194304):Cpl pre [] ⟨n,-1,false,[]⟩ :=
 ⟨⟨hn,by show (0:Nat)<=_;omega,by show (0:Nat)<=_;omega,by show -1<=(-1:Int)/\(-1:Int)<=_;omega,List.Pairwise.nil,(λf h=>by cases h),λf h=>by cases h⟩,trivial,(λs h=>by cases h),λn h=>by cases h⟩
def z4y (t:ByteArray):ByteArray:=if t.size>30 then t.extract 0 30 else t
def z4f (r:RecM):RecM:=⟨z4y r.key,z4y r.value,r.gone,r.time⟩
def z0l (b:BatM):BatM:=⟨b.base,b.pid,b.epoch,b.seq,b.kind,b.time,z7l,(b.rs.take 6).map z4f⟩
theorem z7w (t:ByteArray):(z4y t).size<=30:=by
 unfold z4y
 split
 ·rw [ByteArray.size_extract];omega
 ·omega
theorem zsf (b:BatM) (n:Int) (z:Sl):2<=(z1p (((z0l b).at z).to n)).length/\(z1p (((z0l b).at z).to n)).length<=668:=by
 have h:=zhf (b:=((z0l b).at z).to n) (n:=60) λr hr=>by
  obtain ⟨q,-,rfl⟩:=List.mem_map.1 (show r ∈ (b.rs.take 6).map z4f from hr)
  have h1:=z7w q.key
  have h2:=z7w q.value
  show (z4y q.key).size+(z4y q.value).size<=60
  omega
 have h3:(((z0l b).at z).to n).rs.length<=6:=by
  show ((b.rs.take 6).map z4f).length<=6
  rw [List.length_map,List.length_take];omega
 omega
abbrev cZ (b:BatM) (z:Sl):Array Value:=#[.int .i64 b.base,.int .i64 b.pid,.int .i64 b.epoch,.int .i64 b.seq,.int .i64 b.kind,.int .i64 b.time,.slice z.a z.len z.cap]
section
variable {w:World} {l r:List HP}
theorem zvc (seg gap:Int) (hs:Sat w l):Ret P F.a100 #[.int .i64 seg,.int .i64 gap] w λvs w'=>∃ s g:Int,(64<=s/\s<=463)/\(1<=g/\g<=100)/\vs=[.agg #[.int .i64 s,.int .i64 g]]/\Sat w' l :=
 znd seg gap <| by
  unfold zxe
  have hm1 : -400<Int.tmod seg 400/\Int.tmod seg 400<400:=⟨by have:=Int.lt_tmod_of_pos seg (b:=400) (by omega);omega,Int.tmod_lt_of_pos seg (by omega)⟩
  have hm2 : -100<Int.tmod gap 100/\Int.tmod gap 100<100:=⟨by have:=Int.lt_tmod_of_pos gap (b:=100) (by omega);omega,Int.tmod_lt_of_pos gap (by omega)⟩
  generalize Int.tmod seg 400=s at *
  generalize Int.tmod gap 100=g at *
  refine z05 hs λa0 w' hs=>?_
  refine wp_lt ?_
  refine wp_lt ?_
  refine zx (λq w'=>∃ s:Int,(0<=s/\s<400)/\q=(s,())/\Sat w' (pt a0 (.cells [.int .i64 0,.int .i64 0].toArray T.a28)::l)) ?_ ?_
  ·refine zk (λh=>?_) λh=>?_
   ·rw [w64 (by omega) (by omega)]
    refine wp_lt ?_
    exact zj ⟨0-s,by omega,rfl,hs⟩
   ·exact zj ⟨s,by omega,rfl,hs⟩
  clear hs
  rintro _ w ⟨s,hm1,rfl,hs⟩
  refine zt ?_
  refine zx (λq w'=>∃ g:Int,(0<=g/\g<100)/\q=(g,())/\Sat w' (pt a0 (.cells [.int .i64 0,.int .i64 0].toArray T.a28)::l)) ?_ ?_
  ·refine zk (λh=>?_) λh=>?_
   ·rw [w64 (by omega) (by omega)]
    refine wp_lt ?_
    exact zj ⟨0-g,by omega,rfl,hs⟩
   ·exact zj ⟨g,by omega,rfl,hs⟩
  clear hs
  rintro _ w ⟨g,hm2,rfl,hs⟩
  refine zt ?_
  rw [w64 (by omega) (by omega),w64 (by omega) (by omega)]
  refine z09 hs λw' hs=>?_
  refine z02 hs ?_
  exact ⟨rfl,64+s,1+g,by omega,by omega,rfl,hs.tail⟩
theorem zys (b:BatM) [hb:FocR l b.x 4 (b.rs.flatMap z03)] (hs:Sat w l):Ret P F.a98 #[.agg (zw b).toArray] w λvs w'=>∃ z:Sl,vs=[.agg (zw ((z0l b).at z)).toArray]/\Sat w' (slc T.a3 4 z ((z0l b).rs.flatMap z03)::l) :=
 znj b.base b.pid b.epoch b.seq b.kind b.time b.x <| by
  unfold zwh
  have hl:=hs.slen b.x (xs:=b.rs) (enc:=z03)
  refine z0b hs λa0 w' hs=>?_
  refine z05 hs λa1 w' hs=>?_
  refine z02 hs ?_
  refine z05 hs λa9 w' hs=>?_
  refine z09 hs λw' hs=>?_
  refine z0h hs λw' hs=>?_
  refine zd hs ?_
  have hs:Sat w' (slc T.a3 4 ⟨none,0,0⟩ (([]:List RecM).flatMap z03)::pt a9 (.cells (cZ b ⟨none,0,0⟩) T.a1)::pt a1 (.cells #[.int .i64 0,.int .i64 0,.int .i64 0,.int .i64 0,.int .i64 0,.int .i64 0,.slice none 0 0] T.a1)::l):=by
   have h1:Sat w' (pt a9 (.cells (cZ b ⟨none,0,0⟩) T.a1)::pt a1 (.cells #[.int .i64 0,.int .i64 0,.int .i64 0,.int .i64 0,.int .i64 0,.int .i64 0,.slice none 0 0] T.a1)::l):=hs.sub
   exact h1.slc_nil
  refine zx (λ_ w'=>∃ z:Sl,Sat w' (slc T.a3 4 z ((z0l b).rs.flatMap z03)::pt a9 (.cells (cZ b z) T.a1)::pt a1 (.cells #[.int .i64 0,.int .i64 0,.int .i64 0,.int .i64 0,.int .i64 0,.int .i64 0,.slice none 0 0] T.a1)::l)) ?_ ?_
  rotate_left
  ·rintro _ w2 ⟨z,hs⟩
   refine zt ?_
   refine z02 hs ?_
   refine z09 hs λw' hs=>?_
   refine z02 hs ?_
   exact ⟨rfl,z,rfl,hs.sub⟩
  refine z0e (λm v w=>∃ (i:Nat) (z:Sl),v=((i:Int),())/\i<=b.rs.length/\i<=6/\b.rs.length-i=m/\Sat w (slc T.a3 4 z (((b.rs.take i).map z4f).flatMap z03)::pt a9 (.cells (cZ b z) T.a1)::pt a1 (.cells #[.int .i64 0,.int .i64 0,.int .i64 0,.int .i64 0,.int .i64 0,.int .i64 0,.slice none 0 0] T.a1)::l)) b.rs.length ⟨0,⟨none,0,0⟩,rfl,by omega,by omega,rfl,hs⟩ ?_
  clear hs
  rintro m _ w ⟨i,z,rfl,hi,hi6,hm,hs⟩
  refine zt ?_
  refine zk (λhc=>?_) λhc=>?_
  rotate_left
  ·refine zv (zj ⟨z,?_⟩)
   have e:b.rs.take i=b.rs.take 6:=by rw [List.take_of_length_le (by omega),List.take_of_length_le (by omega)]
   rw [e] at hs
   exact hs
  have hil:i<b.rs.length:=by omega
  refine z23 hs (xs:=b.rs) (enc:=z03) i hil ?_
  refine z05 hs λa18 w' hs=>?_
  refine wp_lt ?_
  refine z09 hs λw' hs=>?_
  refine zk (λh6=>?_) λh6=>?_
  ·have:i=6:=by omega
   subst this
   exact zv (zj ⟨z,hs.tail⟩)
  have hx:(b.rs.take (i+1)).map z4f=(b.rs.take i).map z4f++[z4f b.rs[i]]:=by rw [List.take_succ_eq_append_getElem hil,List.map_append];rfl
  generalize b.rs[i]=q at hx hs ⊢
  refine zd hs ?_
  refine zx (λ_ w'=>Sat w' (pt a18 (.cells #[.string (z4y q.key),.string q.value,.bool q.gone,.int .i64 q.time] T.a3)::slc T.a3 4 z (((b.rs.take i).map z4f).flatMap z03)::pt a9 (.cells (cZ b z) T.a1)::pt a1 (.cells #[.int .i64 0,.int .i64 0,.int .i64 0,.int .i64 0,.int .i64 0,.int .i64 0,.slice none 0 0] T.a1)::l)) ?_ ?_
  ·unfold z4y
   refine zk (λh=>?_) λh=>?_
   ·refine zd hs ?_
    refine wp_must (by omega) ?_
    refine z0h hs λw' hs=>?_
    refine zj ?_
    rw [if_pos (by omega)]
    exact hs
   ·refine zj ?_
    rw [if_neg (by omega)]
    exact hs
  clear hs
  rintro _ w hs
  refine zt ?_
  refine zd hs ?_
  refine zx (λ_ w'=>Sat w' (pt a18 (.cells #[.string (z4y q.key),.string (z4y q.value),.bool q.gone,.int .i64 q.time] T.a3)::slc T.a3 4 z (((b.rs.take i).map z4f).flatMap z03)::pt a9 (.cells (cZ b z) T.a1)::pt a1 (.cells #[.int .i64 0,.int .i64 0,.int .i64 0,.int .i64 0,.int .i64 0,.int .i64 0,.slice none 0 0] T.a1)::l)) ?_ ?_
  ·generalize z4y q.key=k0 at hs ⊢
   unfold z4y
   refine zk (λh=>?_) λh=>?_
   ·refine zd hs ?_
    refine wp_must (by omega) ?_
    refine z0h hs λw' hs=>?_
    refine zj ?_
    rw [if_pos (by omega)]
    exact hs
   ·refine zj ?_
    rw [if_neg (by omega)]
    exact hs
  clear hs
  rintro _ w hs
  refine zt ?_
  refine zd hs ?_
  refine z02 hs ?_
  refine z1f hs (enc:=z03) (z4f q) λy w' hs=>?_
  refine wp_app' (xs:=(b.rs.take i).map z4f) (ys:=[z4f q]) (enc:=z03) hs (λz' w' hs=>?_) (by simp only [List.length_map,List.length_take,List.length_cons,List.length_nil];omega)
  refine z0h hs λw' hs=>?_
  rw [wS (i:=i) (by omega)]
  refine z0q (b.rs.length-(i+1)) ⟨i+1,z',rfl,by omega,by omega,rfl,?_⟩
  rw [hx]
  have hs:Sat w' (pt a9 (.cells (cZ b z') T.a1)::slc T.a3 4 z' (((b.rs.take i).map z4f++[z4f q]).flatMap z03)::slc T.a3 4 y _::pt a18 _::pt a1 (.cells #[.int .i64 0,.int .i64 0,.int .i64 0,.int .i64 0,.int .i64 0,.int .i64 0,.slice none 0 0] T.a1)::l):=hs
  exact hs.sub
end
theorem zcg {nm:SegA->ByteArray}:∀ {fs:List FileA} {l:List SegA},fs.map (·.name)=l.map nm->(∀ f ∈ fs,∀ s ∈ l,f.name=nm s->f.b=s.file)->used fs=z4s l
 | [],[],_,_=>rfl
 | [],s::l,h,_=>by simp at h
 | f::fs,[],h,_=>by simp at h
 | f::fs,s::l,h,hh=>by
  rw [List.map_cons,List.map_cons,List.cons.injEq] at h
  have h1:=hh f (List.mem_cons_self ..) s (List.mem_cons_self ..) h.1
  have h2:=zcg h.2 λf hf s hs=>hh f (List.mem_cons_of_mem _ hf) s (List.mem_cons_of_mem _ hs)
  rw [z1w,h2,h1]
  simp [z4s]
theorem Cpl.sizes {pre:ByteArray} {l:List SegA} {D:DiskA} (h:Cpl pre l D):l.length<=D.fs.length/\z4s l<=used D.fs:=by
 have hn:=h.names
 have e:(D.fs.filter λf=>(bl (z13 pre)).isPrefixOf (bl f.name)).map (·.name)=l.map λs=>zi pre s.base zu:=by
  rw [<- hn]
  unfold z12
  rw [List.filter_map]
  congr 1
  apply List.filter_congr
  intro f _
  show _=Go.Proofs.YtfnldnodhfkojaaGreat.preF (z13 pre) f.name
  rw [zgz]
 have hs:=zcg e λf hf s hs hfs=>by
  have h1:=z7h (z2j h.ok.sorted) (List.mem_filter.1 hf).1
  obtain ⟨k,hk⟩:=h.has s hs
  rw [hfs,hk] at h1
  simp only [Option.some.injEq,Prod.mk.injEq] at h1
  exact h1.1.symm
 have hl:=congrArg List.length e
 rw [List.length_map,List.length_map] at hl
 exact ⟨by rw [<- hl];exact List.length_filter_le _ _,by rw [<- hs];exact zfc List.filter_sublist⟩
theorem zor:∀ {n:Int} {l:List SegA},z0k n l->(z0o l).length*10<=z4s l
 | _,[],_=>Nat.le_refl _
 | n,s::l,⟨h1,h2,h3⟩=>by
  have h4:=zor h3
  have h5:=zgr h2
  have e1:z0o (s::l)=s.bs++z0o l:=by simp [z0o]
  have e2:z4s (s::l)=s.file.length+z4s l:=by simp [z4s]
  rw [e1,e2,List.length_append]
  omega
theorem Cpl.len {pre:ByteArray} {l:List SegA} {D:DiskA} (h:Cpl pre l D):l.length<=128/\(z0o l).length<=500000/\∀ s ∈ l,s.file.length<=4194304:=by
 obtain ⟨h1,h2⟩:=h.sizes
 have h3:=zor h.segs
 have h4:=h.ok.many
 have h5:=h.ok.used
 refine ⟨by omega,by omega,λs hs=>?_⟩
 obtain ⟨k,hk⟩:=h.has s hs
 exact Nat.le_trans (zcw hk) h5
theorem z01r {pre:ByteArray} {D:DiskA} {R:RefM} {L:List HP} (h:Cpl pre R.l D) (hrd:∀ b ∈ R.bs,FocR L b.x 4 (b.rs.flatMap z03)):okR R L:=by
 obtain ⟨h1,h2,-⟩:=h.len
 refine ⟨h.segs,hrd,?_,?_⟩
 ·rw [zao] at h1;omega
 ·rw [z88,List.length_map] at h2;omega
theorem zlv (b:BatM) (z:Sl) (n:Int):((z00 n [(z0l b).at z]).2.flatMap frL).length<=676:=by
 unfold z00
 split
 ·exact Nat.zero_le _
 ·rename_i hv
  have hv:=Decidable.not_not.1 hv
  split
  ·exact Nat.zero_le _
  ·show ((((z0l b).at z).to n)::(z00 _ []).2 |>.flatMap frL).length<=676
   have h1:=zsf b n z
   have h2:=z3q hv
   simp only [z00,List.flatMap_cons,List.flatMap_nil,List.append_nil]
   omega
theorem zk9 {seg:Int} {l:List SegA} {bs:List BatM}:z4s (z16 seg l bs).2<=z4s l+((z00 (z01 l) bs).2.flatMap frL).length+29:=by
 unfold z16
 split
 ·simp only;omega
 split
 ·simp only;omega
 simp only
 split
 ·rename_i hr
  have hne:l≠[]:=by rintro rfl;cases hr
  obtain ⟨l0,s,rfl⟩:=z2r hne
  rw [z39,z7g,z7g,z70,List.length_append]
  omega
 ·have:=z7j (z01 l) 0
  rw [z7g,zfd,List.length_append]
  omega
theorem zq3 (seg:Int) (l:List SegA) (b:BatM) (z1 z2:Sl):z16 seg l [(z0l b).at z1]=z16 seg l [(z0l b).at z2]:=by
 rw [<- zki,<- zki seg l [(z0l b).at z2]]
 rfl
theorem z3d (l:List SegA) (s:SegA):z0o (l++[s])=z0o l++s.bs:=by simp [z0o]
theorem ztm {a b:List BatM} (h:b≠[]):z0n (a++b)=z0n b:=by
 obtain ⟨b0,x,rfl⟩:=z2r h
 rw [<- List.append_assoc,z42,z42]
theorem z95 {seg:Int} {l:List SegA} {bs:List BatM} (hok:z0k 0 l) (hb:bs≠[]) (hp:(z00 (z01 l) bs).1=0) :
  z0o (z16 seg l bs).2=z0o l++(z00 (z01 l) bs).2.map BatM.p/\z01 (z16 seg l bs).2=z0n ((z00 (z01 l) bs).2.map BatM.p):=by
 have hq1:=(z8d hp).1
 have hq:(z00 (z01 l) bs).2.map BatM.p≠[]:=by
  intro h
  have:=List.map_eq_nil_iff.1 h
  rw [this] at hq1
  exact hb (List.length_eq_zero_iff.1 hq1.symm)
 have hnx:=hok.next (Int.le_refl 0)
 have hlt:=((z9u hnx.1 hp).1.next hnx.1).1 hq
 unfold z16
 rw [if_neg hb,if_neg (by rw [hp];simp)]
 simp only
 split
 ·rename_i hr
  have hne:l≠[]:=by rintro rfl;cases hr
  obtain ⟨l0,s,rfl⟩:=z2r hne
  rw [z39,z3d,z3d,z3a]
  refine ⟨by simp [SegA.add],?_⟩
  have hsr:=z59 hok.front.2.1
  rw [z3a] at hlt hq ⊢
  show max (max s.base s.fin) (z0n (s.bs++_))=_
  rw [ztm hq]
  omega
 ·rw [z3d,z3a]
  refine ⟨by simp [SegA.add],?_⟩
  show max (max (z01 l) 0) (z0n ([]++_))=_
  rw [List.nil_append]
  omega
theorem z9i {seg:Int} {l:List SegA} {bs:List BatM} (h:bs=[]\/(z00 (z01 l) bs).1≠0):(z16 seg l bs).2=l/\(z16 seg l bs).1.2≠0:=by
 unfold z16
 by_cases hb:bs=[]
 ·rw [if_pos hb];exact ⟨rfl,by simp⟩
 ·rw [if_neg hb]
  rcases h with h|h
  ·exact absurd h hb
  ·rw [if_pos h];exact ⟨rfl,h⟩
def z9a (seg:Int) (bs:List BatM):List SegA:=bs.foldl (λl b=>(z16 seg l [b]).2) []
theorem zng (seg:Int) (bs:List BatM) (b:BatM):z9a seg (bs++[b])=(z16 seg (z9a seg bs) [b]).2:=by
 unfold z9a
 rw [List.foldl_append]
 rfl
theorem zhz (b:BatM) (n:Int) (h:(z00 n [b]).1=0):(z00 n [b]).2=[b.to n]:=by
 unfold z00 at h ⊢
 split at h
 ·rename_i h1;exact absurd h h1
 ·rename_i h1
  rw [if_neg h1]
  split at h
  ·rename_i h2;exact absurd rfl h2
  ·rename_i h2;rw [if_neg h2];rfl
theorem z002 (seg:Int) (l:List SegA) (b:BatM):z16 seg l [(b.to (z01 l)).p]=z16 seg l [b]:=by
 rw [<- zki seg l [b]]
 have e:z00 (z01 l) [(b.to (z01 l)).p]=z00 (z01 l) ([b].map BatM.p):=rfl
 unfold z16
 rw [e]
 rfl
def z8e (pre:ByteArray) (l:List SegA) (D:DiskA) (n:Nat):Prop:=n<=(z0o l).length/\∀ l0 t,l=l0++[t]->(∀ s ∈ l0,z06 D.fs (zi pre s.base zu)=some (s.file,s.file.length)) /\
 ∃ k,z06 D.fs (zi pre t.base zu)=some (t.file,k)/\∀ j,1<=j->j<=t.bs.length->(z0o l0).length+j<=n->(t.cut j).file.length<=k
theorem zb9 {α:Type} {a b:List α} {x y:α} (h:a++[x]=b++[y]):a=b/\x=y:=by
 have:=List.append_inj' h rfl
 exact ⟨this.1,by simpa using this.2⟩
theorem zec (t:SegA) (j:Nat):(t.cut j).file.length<=t.file.length:=by
 rw [z2n,z2n]
 show (shL t.base t.fin).length+((t.bs.take j).flatMap frL).length<=_
 have:t.bs.flatMap frL=(t.bs.take j).flatMap frL++(t.bs.drop j).flatMap frL:=by rw [<- List.flatMap_append,List.take_append_drop]
 rw [this,List.length_append];omega
theorem z8e.sync {pre:ByteArray} {l:List SegA} {D:DiskA} {n:Nat} (h:z8e pre l D n) (hc:Cpl pre l D):z8e pre l (z19 pre l D).2 n/\((z19 pre l D).1=0->z8e pre l (z19 pre l D).2 (z0o l).length /\
  ∀ s ∈ l,z06 (z19 pre l D).2.fs (zi pre s.base zu)=some (s.file,s.file.length)):=by
 by_cases h0:l=[]
 ·subst h0
  exact ⟨h,λ_=>⟨⟨Nat.le_refl _,λl0 t e=>by simp at e⟩,λs hs=>by cases hs⟩⟩
 obtain ⟨l0,t,rfl⟩:=z2r h0
 have e:z19 pre (l0++[t]) D=z29 D [zi pre t.base zu]:=by unfold z19;rw [z20]
 rw [e]
 obtain ⟨h1,k,h2,h3⟩:=h.2 l0 t rfl
 obtain ⟨-,-,-,-,h5⟩:=zjk hc.ok (zi pre t.base zu)
 obtain ⟨f1,f2,f3,f4⟩:=hc.segs.front
 have hold:∀ s ∈ l0,z06 (z29 D [zi pre t.base zu]).2.fs (zi pre s.base zu)=some (s.file,s.file.length):=λs hs=>by
  rcases h5 (zi pre s.base zu) with h6|⟨h6,-,-⟩
  ·rw [h6];exact h1 s hs
  ·exact absurd h6 (z5v (f1.mem s hs).1 f2 (by have:=(f4 s hs).2;omega))
 constructor
 ·refine ⟨h.1,λl0' t' e'=>?_⟩
  obtain ⟨rfl,rfl⟩:=zb9 e'
  refine ⟨hold,?_⟩
  rcases h5 (zi pre t.base zu) with h6|⟨-,-,h6⟩
  ·rw [h6];exact ⟨k,h2,h3⟩
  ·rw [h6,h2]
   exact ⟨t.file.length,rfl,λj h7 h8 h9=>zec _ _⟩
 ·intro h0
  have hnew:z06 (z29 D [zi pre t.base zu]).2.fs (zi pre t.base zu)=some (t.file,t.file.length):=by
   obtain ⟨-,-,-,-,-,h7⟩:=zoc hc.ok h0
   rw [h7,h2];simp
  refine ⟨⟨Nat.le_refl _,λl0' t' e'=>?_⟩,λs hs=>?_⟩
  ·obtain ⟨rfl,rfl⟩:=zb9 e'
   exact ⟨hold,t.file.length,hnew,λj _ _ _=>zec _ _⟩
  ·rcases List.mem_append.1 hs with hs|hs
   ·exact hold s hs
   ·simp only [List.mem_cons,List.not_mem_nil,or_false] at hs
    subst hs;exact hnew
theorem z8e.begin {pre:ByteArray} {l:List SegA} {s:SegA} {D:DiskA} {n:Nat} (h:z8e pre l D n) (hc:Cpl pre l D) (hsegs:z0k 0 (l++[s])) (hall:∀ t ∈ l,z06 D.fs (zi pre t.base zu)=some (t.file,t.file.length)) (ha:(z04 D (zi pre s.base zu) s.file).1=0):z8e pre (l++[s]) (z04 D (zi pre s.base zu) s.file).2 n:=by
 obtain ⟨-,-,-,-,-,-,h7⟩:=z6b hc.ok ha
 obtain ⟨f1,f2,f3,f4⟩:=hsegs.front
 have hn:=h.1
 have hnone:z06 D.fs (zi pre s.base zu)=none:=by
  cases hq:z06 D.fs (zi pre s.base zu) with
  | none=>rfl
  | some q =>
   obtain ⟨t,ht,e⟩:=hc.only _ (by rw [hq];rfl) (z1m pre s.base zu)
   exact absurd e (z5v f2 (f1.mem t ht).1 (by have:=(f4 t ht).2;omega))
 refine ⟨by rw [z3d,List.length_append];omega,λl0' t' e'=>?_⟩
 obtain ⟨rfl,rfl⟩:=zb9 e'
 refine ⟨λt ht=>?_,0,?_,λj j1 j2 j3=>?_⟩
 ·rw [h7,if_neg (z5v (f1.mem t ht).1 f2 (by have:=(f4 t ht).2;omega))]
  exact hall t ht
 ·rw [h7,if_pos rfl,hnone]
  rfl
 ·omega
theorem z8e.app {pre:ByteArray} {seg:Int} {l:List SegA} {D:DiskA} {bs:List BatM} {n:Nat} (hp:z5a pre=true) (h:z8e pre l D n) (hc:Cpl pre l D):z8e pre (z0s pre seg l D bs).2.1 (z0s pre seg l D bs).2.2 n:=by
 have hsegs:=z80 (seg:=seg) (bs:=bs) hc.segs
 unfold z0s
 unfold z16 at hsegs
 split
 ·exact h
 rename_i hb
 rw [if_neg hb] at hsegs
 split
 ·exact h
 rename_i hpl
 rw [if_neg hpl] at hsegs
 simp only at hsegs
 split
 ·rename_i hr
  have hne:l≠[]:=by rintro rfl;cases hr
  obtain ⟨l0,t,rfl⟩:=z2r hne
  rw [zc1]
  split
  ·rename_i he
   simp only
   rw [z8m he];exact h
  ·rename_i he
   have he:=Decidable.not_not.1 he
   simp only
   rw [z39]
   obtain ⟨h1,k,h2,h3⟩:=h.2 l0 t rfl
   obtain ⟨-,-,-,-,-,-,h7⟩:=z6b hc.ok he
   obtain ⟨f1,f2,f3,f4⟩:=hc.segs.front
   have hn:=h.1
   rw [z3d,List.length_append] at hn
   refine ⟨by rw [z3d,List.length_append];simp only [SegA.add,List.length_append];omega,λl0' t' e'=>?_⟩
   obtain ⟨rfl,rfl⟩:=zb9 e'
   refine ⟨λs hs=>?_,k,?_,λj j1 j2 j3=>?_⟩
   ·rw [h7,if_neg (z5v (f1.mem s hs).1 f2 (by have:=(f4 s hs).2;omega))]
    exact h1 s hs
   ·show z06 _ (zi pre t.base zu)=_
    rw [h7,if_pos rfl,h2,z70]
    rfl
   ·have hj:j<=t.bs.length:=by omega
    have e:(t.add (z00 (z01 (l0++[t])) bs).2).cut j=t.cut j:=by
     unfold SegA.cut SegA.add
     simp only
     rw [List.take_append_of_le_length hj]
    rw [e]
    exact h3 j j1 hj j3
 ·rename_i hr
  obtain ⟨hs1,hs2⟩:=h.sync hc
  split
  ·exact hs1
  rename_i hse
  have hse:=Decidable.not_not.1 hse
  split
  ·rename_i he
   simp only
   rw [z8m he];exact hs1
  ·rename_i he
   have he:=Decidable.not_not.1 he
   rw [if_neg hr] at hsegs
   simp only
   obtain ⟨hs3,hs4⟩:=hs2 hse
   rw [<- zfd] at he ⊢
   exact hs1.begin (s:=SegA.add ⟨z01 l,0,[]⟩ (z00 (z01 l) bs).2) (z89 hc).1 hsegs hs4 he
end Go.Dec
