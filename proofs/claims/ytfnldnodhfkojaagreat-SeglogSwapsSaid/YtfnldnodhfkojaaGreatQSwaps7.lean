/- What the claim of this folder leans on: our own texts, joined, without what it does not use. -/
import Derived.Test.YtfnldnodhfkojaaGreatRows
import Derived.WalkKit
import Derived.ProofKit
import Derived.OpenShut
import Derived.RowKit3
import Derived.OrdersHeld
import Derived.Scope
import Derived.KernelRfl
import Derived.Laws.Sem
import Derived.Laws.StructEq
import Derived.Deep.AppendSrc
import Derived.Laws.BytesArg
import Derived.Laws.RangeString
import Derived.Maps.RangeRun
import Derived.Lib.ConvBytes
import Derived.Lib.SlBytesConst
import Derived.ChangeSlices
import Derived.ChangeMaps5
import Derived.ChangeSame
import Derived.Deep.Slices
import Derived.Deep.Fields
import Derived.Test.YtfnldnodhfkojaaGreatProg
import Derived.Laws.MakeOwn
import Derived.Sort.MapsRangeIn
import Derived.Sort.KeysCollected
import Derived.RangeFuncNested
import Derived.RangeFuncBound
import Derived.RangeFuncCalls
import Derived.RangeFuncLeaves
import Derived.RangeFuncBox
import Derived.OwnWalkIn
import Derived.TacticsInMore
import Derived.RegionIn
import Derived.LoopNIn
import Derived.LoopIn
import Derived.Maps.AppendAt
import Derived.Shelf.Abstract
import Derived.Shelf.Sort.Plain
import Derived.Shelf.Slices.In.SortNone
import Derived.Test.YtfnldnodhfkojaaGreatQSwaps1
import Derived.Test.YtfnldnodhfkojaaGreatQSwaps2
import Derived.Test.YtfnldnodhfkojaaGreatQSwaps3
import Derived.Test.YtfnldnodhfkojaaGreatQSwaps4
import Derived.Test.YtfnldnodhfkojaaGreatQSwaps5
import Derived.Test.YtfnldnodhfkojaaGreatQSwaps6
set_option linter.unusedVariables false
set_option linter.unusedSimpArgs false
namespace Go.Dec
theorem zgj (pre:ByteArray) {a b:Int} (ha:0<=a/\a<17592186044416) (hb:0<=b/\b<17592186044416) (x y:List UInt8):ltS (ze pre a x) (ze pre b y)=true↔a<b\/(a=b/\Op.bytesLess x y=true):=by
 have e:∀ s:ByteArray,ByteArray.toList s=bl s:=λs=>by rw [ByteArray.toList_eq]
 have ha2:a.toNat<16 ^ 11:=by omega
 have hb2:b.toNat<16 ^ 11:=by omega
 unfold ltS
 rw [e,e,z50,z50,z97]
 have e2:∀ y z:List UInt8,Op.bytesLess (45::y) (45::z)=Op.bytesLess y z:=z97 [45]
 rw [e2,z9v _ _ _ _ (by rw [z52,z52]),zbr 11 _ _ (by omega) (by omega)]
 constructor
 ·rintro (h|⟨h,h2⟩)
  ·left;omega
  ·right
   have h3:=zah 11 a.toNat 0
   rw [h,zah] at h3
   simp only [Option.some.injEq] at h3
   rw [Nat.mod_eq_of_lt ha2,Nat.mod_eq_of_lt hb2] at h3
   exact ⟨by omega,h2⟩
 ·rintro (h|⟨rfl,h⟩)
  ·left;omega
  ·exact .inr ⟨rfl,h⟩
def z2r (pre:ByteArray) (l:List SegA) (D:DiskA):Prop:=∀ s ∈ l,zu D.fs (ze pre s.base zo)=some (s.file,s.file.length)
theorem z2r.crash {pre:ByteArray} {l:List SegA} {D:DiskA} (h:z2r pre l D) (hok:okA D) (ps:List Int):z2r pre l (z1c D ps):=λs hs=>by
 obtain ⟨k',e1,e2,e3⟩:=(z6l hok ps (ze pre s.base zo)).2 _ (h s hs)
 have e1:s.file.length<=k':=e1
 have e2:k'<=s.file.length:=e2
 have e:k'=s.file.length:=by omega
 rw [e3,e]
 show some (s.file.take _,_)=_
 rw [List.take_length]
theorem z2r.hasL {pre:ByteArray} {l:List SegA} {D:DiskA} (h:z2r pre l D):zc4 pre l D:=λs hs=>⟨_,h s hs⟩
theorem Cpl.crash {pre:ByteArray} {l:List SegA} {D:DiskA} (h:Cpl pre l D) (hl:z2r pre l D) (ps:List Int):Cpl pre l (z1c D ps) :=
 ⟨z72 h.ok ps,h.segs,(hl.crash h.ok ps).hasL,λn hn=>h.only n (z7h h.ok ps hn)⟩
def zfw (pre:ByteArray) (l:List SegA) (D:DiskA):Prop:=∀ ps,∃ D',z2y pre (z1c D ps)=(0,l,D')/\Cpl pre l D'
theorem Cpl.opsTo {pre:ByteArray} {l:List SegA} {D:DiskA} (h:Cpl pre l D) (hl:z2r pre l D):zfw pre l D:=λps =>
 ⟨_,(h.crash hl ps).opened,h.crash hl ps⟩
structure NewP (pre:ByteArray) (l:List SegA) (D:DiskA):Prop where
 ok:okA D
 segs:z0b 0 l
 last:z2r pre l D
 ne:l≠[]
 new:(zu D.fs (ze pre (zl l) z0a)).isSome=true
 only:∀ n,(zu D.fs n).isSome=true->(bl (z13 pre)).isPrefixOf (bl n)=true->n=ze pre (zl l) z0a\/∃ s ∈ l,n=ze pre s.base zo
theorem NewP.crash {pre:ByteArray} {l:List SegA} {D:DiskA} (h:NewP pre l D) (ps:List Int):NewP pre l (z1c D ps):=by
 refine ⟨z72 h.ok ps,h.segs,h.last.crash h.ok ps,h.ne,?_,λn hn=>h.only n (z7h h.ok ps hn)⟩
 have hn:=h.new
 cases hq:zu D.fs (ze pre (zl l) z0a) with
 | none=>rw [hq] at hn;cases hn
 | some p =>
  obtain ⟨k,-,-,e⟩:=(z6l h.ok ps (ze pre (zl l) z0a)).2 p hq
  rw [e];rfl
theorem zul {pre:ByteArray} {b:Int} (hb:0<=b/\b<17592186044416):z1d pre (ze pre b z0a) zo=none:=z9s (z5n pre hb z0a) (by decide)
theorem zu5 {pre:ByteArray} {b:Int} (hb:0<=b/\b<17592186044416):z1d pre (ze pre b zo) z0a=none:=z9s (z5n pre hb zo) (by decide)
theorem zr7 {pre:ByteArray} {b:Int} (hb:0<=b/\b<17592186044416) (ns:List ByteArray) (D:DiskA) (hr:(z0t D (ze pre b z0a)).1=0):z0u pre (ze pre b z0a::ns) D=z0u pre ns (z0t D (ze pre b z0a)).2:=by
 have h1:z1d pre (ze pre b z0a) z0a=some b.toNat:=z5n pre hb z0a
 have h2:=zul (pre:=pre) hb
 conv=>lhs;unfold z0u
 rw [h1,h2,if_neg (by rw [hr];rintro ⟨-,h⟩;exact h rfl)]
 simp only [Option.isSome_some,if_true,List.nil_append]
theorem zpq {pre:ByteArray} {b:Int} (hb:0<=b/\b<17592186044416) (ns:List ByteArray) (D:DiskA):z0u pre (ze pre b zo::ns) D=((z0u pre ns D).1,b::(z0u pre ns D).2.1,(z0u pre ns D).2.2):=by
 have h1:z1d pre (ze pre b zo) zo=some b.toNat:=z5n pre hb zo
 have h2:=zu5 (pre:=pre) hb
 conv=>lhs;unfold z0u
 rw [h1,h2,if_neg (by rintro ⟨h3,-⟩;cases h3)]
 simp only [Option.isSome_none,Bool.false_eq_true,if_false]
 have e:((b.toNat:Nat):Int)=b:=by omega
 rw [e]
 rfl
theorem NewP.opened {pre:ByteArray} {l:List SegA} {D:DiskA} (h:NewP pre l D) (hg:D.gone=false):∃ D',z2y pre D=(0,l,D')/\Cpl pre l D':=by
 obtain ⟨s0,rest,hl⟩:=List.exists_cons_of_ne_nil h.ne
 have hfg:zl l=s0.base:=by rw [hl];rfl
 have hb0:=(h.segs.mem s0 (by rw [hl];simp)).1.base
 have hbm:0<=s0.base/\s0.base<17592186044416:=by omega
 have hnew:=h.new
 rw [hfg] at hnew
 have hnl:∀ s ∈ l,ze pre s.base zo≠ze pre s0.base z0a:=λs hs e=>by
  have:=(h.segs.mem s hs).1.base
  exact absurd e.symm (z8j (by omega) (by omega))
 have hnames:z11 (z13 pre) D.fs=ze pre s0.base zo::ze pre s0.base z0a::rest.map λs=>ze pre s.base zo:=by
  refine z84 (z7l h.ok _) ?_ λn=>?_
  ·have hs:=z6p pre h.segs
   rw [hl,List.map_cons,List.pairwise_cons] at hs
   rw [List.pairwise_cons,List.pairwise_cons]
   refine ⟨λm hm=>?_,λm hm=>?_,hs.2⟩
   ·rcases List.mem_cons.1 hm with rfl|hm
    ·exact (zgj pre hbm hbm zo z0a).2 (.inr ⟨rfl,by decide⟩)
    ·exact hs.1 m hm
   ·have h1:=hs.1 m hm
    obtain ⟨t,ht,rfl⟩:=List.mem_map.1 hm
    have hb1:=(h.segs.mem t (by rw [hl];simp [ht])).1.base
    have h2:=(zgj pre hbm (b:=t.base) (by omega) zo zo).1 h1
    rcases h2 with h2|⟨-,h2⟩
    ·exact (zgj pre hbm (b:=t.base) (by omega) z0a zo).2 (.inl h2)
    ·exact absurd h2 (by decide)
  ·rw [z9p]
   constructor
   ·rintro ⟨h1,h2⟩
    rcases h.only n h1 h2 with rfl|⟨s,hs,rfl⟩
    ·rw [hfg];simp
    ·rw [hl] at hs
     rcases List.mem_cons.1 hs with rfl|hs
     ·simp
     ·exact List.mem_cons_of_mem _ (List.mem_cons_of_mem _ (List.mem_map.2 ⟨s,hs,rfl⟩))
   ·intro hn
    rcases List.mem_cons.1 hn with rfl|hn
    ·exact ⟨by rw [h.last s0 (by rw [hl];simp)];rfl,z1u ..⟩
    rcases List.mem_cons.1 hn with rfl|hn
    ·exact ⟨hnew,z1u ..⟩
    ·obtain ⟨s,hs,rfl⟩:=List.mem_map.1 hn
     exact ⟨by rw [h.last s (by rw [hl];simp [hs])];rfl,z1u ..⟩
 rcases z89 (A:=D) (n:=ze pre s0.base z0a) hnew with ⟨r1,-⟩|⟨-,r2,-⟩
 rotate_left
 ·rw [hg] at r2;cases r2
 obtain ⟨-,o1,o2,o3,o4,-,o6⟩:=zfg h.ok r1
 have hcpl:Cpl pre l (z0t D (ze pre s0.base z0a)).2:=by
  refine ⟨o1,h.segs,λs hs=>⟨_,by rw [o6,if_neg (hnl s hs)];exact h.last s hs⟩,λn hn hp=>?_⟩
  rw [o6] at hn
  by_cases hm:n=ze pre s0.base z0a
  ·rw [if_pos hm] at hn;cases hn
  ·rw [if_neg hm] at hn
   rcases h.only n hn hp with h1|h1
   ·rw [hfg] at h1;exact absurd h1 hm
   ·exact h1
 refine ⟨_,?_,hcpl⟩
 unfold z2y
 rw [hnames,zpq hbm,zr7 hbm _ _ r1,z7c pre _ λs hs=>(h.segs.mem s (by rw [hl];simp [hs])).1]
 rw [if_neg (by simp)]
 simp only
 have:=z8i (pre:=pre) (D:=(z0t D (ze pre s0.base z0a)).2) (l:=l) (l1:=[]) h.segs hcpl.has
 rw [hl,List.map_cons,List.nil_append] at this
 rw [this,hl]
theorem NewP.opsTo {pre:ByteArray} {l:List SegA} {D:DiskA} (h:NewP pre l D):zfw pre l D:=λps=>(h.crash ps).opened (z8k D ps).2.2.2.gone
theorem GoP.crash {pre:ByteArray} {l q:List SegA} {D:DiskA} (h:GoP pre l q D) (h1:z2r pre l D) (h2:z2r pre q D) (ps:List Int):GoP pre l q (z1c D ps) :=
 ⟨z72 h.ok ps,h.segs,(h1.crash h.ok ps).hasL,(h2.crash h.ok ps).hasL,h.oks,h.ne,h.nd,λn hn=>h.only n (z7h h.ok ps hn)⟩
theorem zg0 {pre:ByteArray} {l l1:List SegA} {rest:List Int}:∀ {q:List SegA} {D:DiskA},GoP pre l q D->Calm D->(∀ s ∈ q,s.base<zr l1)->∃ D',GoP pre l [] D'/\z23 pre (q.map SegA.base++rest) l1 D=z23 pre rest l1 D'
 | [],D,h,_,_=>⟨D,h,rfl⟩
 | s::q,D,h,hc,hq=>by
  obtain ⟨k,hk⟩:=h.hasq s (List.mem_cons_self ..)
  rcases z89 (A:=D) (n:=ze pre s.base zo) (by rw [hk];rfl) with ⟨r1,-⟩|⟨-,r2,-⟩
  rotate_left
  ·rw [hc.gone] at r2;cases r2
  obtain ⟨o1,-⟩:=h.one r1
  obtain ⟨D',d1,d2⟩:=zg0 (rest:=rest) (l1:=l1) o1 (zeg hc _) λt ht=>hq t (List.mem_cons_of_mem _ ht)
  refine ⟨D',d1,?_⟩
  rw [List.map_cons,List.cons_append,<- d2]
  conv=>lhs;unfold z23
  rw [if_pos (hq s (List.mem_cons_self ..)),if_neg (by rw [r1];simp)]
theorem GoP.opened {pre:ByteArray} {r0:SegA} {rs q:List SegA} {D:DiskA} (h:GoP pre (r0::rs) q D) (hc:Calm D) (hs:((r0::(q++rs)).map λs=>ze pre s.base zo).Pairwise λa b=>ltS a b=true) (hq:∀ s ∈ q,s.base<zr [r0]):∃ D',z2y pre D=(0,r0::rs,D')/\Cpl pre (r0::rs) D':=by
 have hnames:z11 (z13 pre) D.fs=(r0::(q++rs)).map λs=>ze pre s.base zo:=by
  refine z84 (z7l h.ok _) hs λn=>?_
  rw [z9p]
  constructor
  ·rintro ⟨h1,h2⟩
   obtain ⟨s,hs,rfl⟩:=h.only n h1 h2
   refine List.mem_map.2 ⟨s,?_,rfl⟩
   simp only [List.mem_append,List.mem_cons] at hs ⊢
   rcases hs with (h|h)|h
   ·exact .inl h
   ·exact .inr (.inr h)
   ·exact .inr (.inl h)
  ·intro hn
   obtain ⟨s,hs,rfl⟩:=List.mem_map.1 hn
   refine ⟨?_,z1u ..⟩
   rcases List.mem_cons.1 hs with rfl|hs
   ·obtain ⟨k,hk⟩:=h.has s (List.mem_cons_self ..);rw [hk];rfl
   ·rcases List.mem_append.1 hs with hs|hs
    ·obtain ⟨k,hk⟩:=h.hasq s hs;rw [hk];rfl
    ·obtain ⟨k,hk⟩:=h.has s (List.mem_cons_of_mem _ hs);rw [hk];rfl
 have hokS:∀ s ∈ r0::(q++rs),SegOk s:=λs hs=>by
  rcases List.mem_cons.1 hs with rfl|hs
  ·exact (h.segs.mem s (List.mem_cons_self ..)).1
  ·rcases List.mem_append.1 hs with hs|hs
   ·exact h.oks s hs
   ·exact (h.segs.mem s (List.mem_cons_of_mem _ hs)).1
 obtain ⟨D',d1,d2⟩:=zg0 (rest:=rs.map SegA.base) (l1:=[r0]) h hc hq
 refine ⟨D',?_,d1.none⟩
 unfold z2y
 rw [hnames,z7c pre D hokS,if_neg (by simp)]
 simp only
 have h0:=zcm (pre:=pre) (D:=D) (l:=[r0]) (l1:=[]) (rest:=(q++rs).map SegA.base) (by
  refine ⟨h.segs.1,h.segs.2.1,trivial⟩) (λs hs=>by rw [List.mem_singleton.1 hs];exact h.has r0 (List.mem_cons_self ..))
 have e:(r0::(q++rs)).map SegA.base=[r0].map SegA.base++(q++rs).map SegA.base:=rfl
 rw [e,h0,List.map_append,List.nil_append,d2]
 exact z8i (pre:=pre) (D:=D') (l:=rs) (l1:=[r0]) h.segs λs hs=>d1.has s (List.mem_cons_of_mem _ hs)
theorem z2r.of {pre:ByteArray} {l:List SegA} {D D':DiskA} (h:z2r pre l D) (hf:∀ s ∈ l,zu D'.fs (ze pre s.base zo)=zu D.fs (ze pre s.base zo)):z2r pre l D':=λs hs=>by rw [hf s hs];exact h s hs
theorem zfr {pre:ByteArray}:∀ {q l:List SegA} {D:DiskA},GoP pre l q D->z2r pre l D->z2r pre q D ->
  ∃ q2,GoP pre l q2 (z1h pre (q.map SegA.base) D).2/\z2r pre l (z1h pre (q.map SegA.base) D).2/\z2r pre q2 (z1h pre (q.map SegA.base) D).2/\(∃ q1,q=q1++q2) /\
   ((q2=[]/\(z1h pre (q.map SegA.base) D).1=0)\/((z1h pre (q.map SegA.base) D).1=9/\(z1h pre (q.map SegA.base) D).2.gone=true))
 | [],l,D,h,h1,h2=>⟨[],h,h1,h2,⟨[],rfl⟩,.inl ⟨rfl,rfl⟩⟩
 | s::q,l,D,h,h1,h2=>by
  obtain ⟨k,hk⟩:=h.hasq s (List.mem_cons_self ..)
  rw [List.map_cons]
  have hun:z1h pre (s.base::q.map SegA.base) D=if (z0t D (ze pre s.base zo)).1≠0 then z0t D (ze pre s.base zo) else z1h pre (q.map SegA.base) (z0t D (ze pre s.base zo)).2:=rfl
  rw [hun]
  rcases z89 (A:=D) (n:=ze pre s.base zo) (by rw [hk];rfl) with ⟨r1,-⟩|⟨r1,r2,r3⟩
  ·rw [if_neg (by rw [r1];simp)]
   obtain ⟨o1,-⟩:=h.one r1
   obtain ⟨-,-,-,-,-,-,r6⟩:=zfg h.ok r1
   have hs:=h.oks s (List.mem_cons_self ..)
   have hnd:=List.pairwise_cons.1 h.nd
   have g1:z2r pre l (z0t D (ze pre s.base zo)).2:=h1.of λt ht=>by
    rw [r6,if_neg (z3l (h.segs.mem t ht).1 hs (λe=>h.ne s (List.mem_cons_self ..) t ht e.symm))]
   have g2:z2r pre q (z0t D (ze pre s.base zo)).2:=z2r.of (D:=D) (λt ht=>h2 t (List.mem_cons_of_mem _ ht)) λt ht=>by
    rw [r6,if_neg (z3l (h.oks t (List.mem_cons_of_mem _ ht)) hs (λe=>hnd.1 t ht e.symm))]
   obtain ⟨q2,a1,a2,a3,⟨q1,a4⟩,a5⟩:=zfr o1 g1 g2
   exact ⟨q2,a1,a2,a3,⟨s::q1,by rw [a4];rfl⟩,a5⟩
  ·rw [if_pos (by rw [r1];simp),r3]
   exact ⟨s::q,h,h1,h2,⟨[],rfl⟩,.inr ⟨r1,r2⟩⟩
theorem zu9 {D:DiskA} {a b:ByteArray} (hg:D.gone=true):z32 D a b=(9,D):=by
 unfold z32
 rw [if_pos hg]
theorem zyp {l:List SegA} {k:Nat} (hk:k≠0) (hkl:k<l.length):∃ s0,l=s0::((l.take k).drop 1++l.drop k):=by
 obtain ⟨s0,rest,hl⟩:∃ s0 rest,l=s0::rest:=by
  cases l with
  | nil=>simp at hkl
  | cons s l=>exact ⟨s,l,rfl⟩
 have htk:l.take k=s0::(l.take k).drop 1:=by
  rw [hl]
  cases k with
  | zero=>exact absurd rfl hk
  | succ k=>rfl
 exact ⟨s0,by rw [<- List.cons_append,<- htk,List.take_append_drop]⟩
theorem zkx {pre:ByteArray} {l:List SegA} {D:DiskA} (upto:Int) (bs:List BatM) (hp:z42 pre=true) (h:Cpl pre l D) (hl:z2r pre l D) (hfr:((⟨zl l,upto,[]⟩:SegA).add bs).file.length<=D.free) (hlen:D.fs.length<128) :
  ((z2g pre l D upto bs).1=9/\(z2g pre l D upto bs).2.2.gone=true/\(zfw pre l (z2g pre l D upto bs).2.2\/zfw pre (z4j l upto bs).2 (z2g pre l D upto bs).2.2)) \/
  ((z2g pre l D upto bs).1=(z4j l upto bs).1/\(z2g pre l D upto bs).1≠9/\(z2g pre l D upto bs).2.1=(z4j l upto bs).2/\Cpl pre (z4j l upto bs).2 (z2g pre l D upto bs).2.2/\zfw pre (z4j l upto bs).2 (z2g pre l D upto bs).2.2):=by
 by_cases hno:z2i l upto=0\/z28 upto (zl l) bs=false
 ·have e1:z2g pre l D upto bs=(2,l,D):=by unfold z2g;rw [if_pos hno]
  have e2:z4j l upto bs=(2,l):=by unfold z4j;rw [if_pos hno]
  rw [e1,e2]
  exact .inr ⟨rfl,by simp,rfl,h,h.opsTo hl⟩
 have hk:z2i l upto≠0:=λh=>hno (.inl h)
 have hg:z28 upto (zl l) bs=true:=by
  cases hq:z28 upto (zl l) bs with
  | true=>rfl
  | false=>exact absurd (.inr hq) hno
 have hfg:=zcc h.segs
 obtain ⟨hkl,hkb⟩:=zbn hk
 obtain ⟨s0,hsplit⟩:=zyp hk hkl
 have hsegs:=z8n (upto:=upto) (bs:=bs) h.segs
 rw [zko hk hg] at hsegs ⊢
 unfold z2g
 rw [if_neg hno]
 cases hgone:D.gone with
 | true =>
  rw [zlw hgone,if_pos (by simp)]
  exact .inl ⟨rfl,hgone,.inl (h.opsTo hl)⟩
 | false =>
 have h1:(zw D (ze pre (zl l) z0a) ((⟨zl l,upto,[]⟩:SegA).add bs).file).1=0:=z6q hgone (zde hp _ rfl (by decide)) hfr (.inr hlen)
 rw [if_neg (by rw [h1];simp)]
 obtain ⟨-,-,-,a1,a2,a3,a4⟩:=z76 h.ok h1
 have hnl:∀ s ∈ l,ze pre s.base zo≠ze pre (zl l) z0a:=λs hs e=>by
  have:=(h.segs.mem s hs).1.base
  exact absurd e.symm (z8j (by omega) (by omega))
 have hN1:NewP pre l (zw D (ze pre (zl l) z0a) ((⟨zl l,upto,[]⟩:SegA).add bs).file).2:=by
  refine ⟨a1,h.segs,hl.of λs hs=>by rw [a4,if_neg (hnl s hs)],by rw [hsplit];simp,by rw [a4,if_pos rfl];rfl,λn hn hpn=>?_⟩
  rw [a4] at hn
  by_cases hm:n=ze pre (zl l) z0a
  ·exact .inl hm
  ·rw [if_neg hm] at hn;exact .inr (h.only n hn hpn)
 rcases z9f (A:=(zw D (ze pre (zl l) z0a) ((⟨zl l,upto,[]⟩:SegA).add bs).file).2) (n:=ze pre (zl l) z0a) with ⟨h2,-,-,-⟩|⟨e1,e2,e3⟩|⟨-,-,e,-⟩
 rotate_left
 ·rw [if_pos (by rw [e1];simp)]
  refine .inl ⟨e1,by rw [e3];exact e2,.inl (by rw [e3];exact hN1.opsTo)⟩
 ·rw [a4,if_pos rfl] at e;cases e
 rw [if_neg (by rw [h2];simp)]
 obtain ⟨-,b1,b2,b3,b4,b5⟩:=zcx a1 h2
 have hN2:NewP pre l (z0x (zw D (ze pre (zl l) z0a) ((⟨zl l,upto,[]⟩:SegA).add bs).file).2 [ze pre (zl l) z0a]).2:=by
  refine ⟨b1,h.segs,hN1.last.of λs hs=>?_,hN1.ne,?_,λn hn hpn=>?_⟩
  ·rw [b5,hN1.last s hs]
   have:¬ ze pre (zl l) z0a=ze pre s.base zo:=λe=>hnl s hs e.symm
   simp [this]
  ·rw [b5,a4,if_pos rfl];rfl
  ·rw [b5] at hn
   refine hN1.only n ?_ hpn
   cases hq:zu (zw D (ze pre (zl l) z0a) ((⟨zl l,upto,[]⟩:SegA).add bs).file).2.fs n with
   | none=>rw [hq] at hn;cases hn
   | some p=>rfl
 cases hg2:(z0x (zw D (ze pre (zl l) z0a) ((⟨zl l,upto,[]⟩:SegA).add bs).file).2 [ze pre (zl l) z0a]).2.gone with
 | true =>
  rw [zu9 hg2,if_pos (by simp)]
  exact .inl ⟨rfl,hg2,.inl hN2.opsTo⟩
 | false =>
 have h3:(z32 (z0x (zw D (ze pre (zl l) z0a) ((⟨zl l,upto,[]⟩:SegA).add bs).file).2 [ze pre (zl l) z0a]).2 (ze pre (zl l) z0a) (ze pre (zl l) zo)).1=0:=zty hg2 hN2.new (z6j hp _)
 rw [if_neg (by rw [h3];simp)]
 obtain ⟨t1,t2,t3,t4,t5⟩:=zrd h hfg h1 h2 h3
 generalize (z32 (z0x (zw D (ze pre (zl l) z0a) ((⟨zl l,upto,[]⟩:SegA).add bs).file).2 [ze pre (zl l) z0a]).2 (ze pre (zl l) z0a) (ze pre (zl l) zo)).2=D3 at *
 have hgo:=zz8 (D3:=D3) (n3:=((⟨zl l,upto,[]⟩:SegA).add bs).file.length) h hk hg t1 λm _=>t5 m
 have hSb:((⟨zl l,upto,[]⟩:SegA).add bs).base=zl l:=rfl
 have hSr:upto<=((⟨zl l,upto,[]⟩:SegA).add bs).reach:=by
  show upto<=max (max (zl l) upto) _
  omega
 have hfgs:zl l=s0.base:=by rw [hsplit];rfl
 have hs0:=(h.segs.mem s0 (by rw [hsplit];simp)).1
 have hlt:=zgm h.segs
 have hnam:=z6p pre h.segs
 have hkm:l[z2i l upto] ∈ l.drop (z2i l upto):=by rw [List.drop_eq_getElem_cons hkl];exact List.mem_cons_self ..
 generalize l[z2i l upto]=sk at *
 generalize hq:(l.take (z2i l upto)).drop 1=q at *
 generalize hd:l.drop (z2i l upto)=dr at *
 have hmem:∀ s,s ∈ l↔s=s0\/s ∈ q\/s ∈ dr:=λs=>by rw [hsplit];simp
 rw [hsplit,List.pairwise_cons,List.pairwise_append] at hlt
 obtain ⟨p1,p2,p3,p4⟩:=hlt
 have hname:∀ s ∈ q++dr,ze pre s.base zo≠ze pre (zl l) zo:=λs hs=>by
  have h1:s ∈ l:=(hmem s).2 (.inr (List.mem_append.1 hs))
  rw [hfgs]
  exact z3l ((h.segs.mem s h1).1) hs0 (by have:=p1 s hs;omega)
 have hLr:z2r pre (((⟨zl l,upto,[]⟩:SegA).add bs)::dr) D3:=λs hs=>by
  rcases List.mem_cons.1 hs with rfl|hs
  ·rw [t5,hSb,if_pos rfl]
  ·rw [t5,if_neg (hname s (by simp [hs]))]
   exact hl s ((hmem s).2 (.inr (.inr hs)))
 have hLq:z2r pre q D3:=λs hs=>by
  rw [t5,if_neg (hname s (by simp [hs]))]
  exact hl s ((hmem s).2 (.inr (.inl hs)))
 obtain ⟨q2,c1,c2,c3,⟨q1,c4⟩,c5⟩:=zfr hgo hLr hLq
 rcases c5 with ⟨rfl,c6⟩|⟨c6,c7⟩
 ·exact .inr ⟨c6,by rw [c6];simp,rfl,c1.none,c1.none.opsTo c2⟩
 ·refine .inl ⟨c6,c7,.inr λps=>?_⟩
  refine (c1.crash c2 c3 ps).opened (z8k _ ps).2.2.2 ?_ λs hs=>?_
  ·rw [List.map_cons,hSb,hfgs]
   rw [hsplit,c4] at hnam
   rw [List.map_cons] at hnam
   refine hnam.sublist (List.Sublist.cons_cons _ (List.Sublist.map _ ?_))
   rw [List.append_assoc]
   exact List.sublist_append_right ..
  ·have h5:=p4 s (by rw [c4];simp [hs]) sk hkm
   show s.base<((⟨zl l,upto,[]⟩:SegA).add bs).reach
   omega
section
variable {w:World} {l r:List HP} {lg rr:Nat} {R:RefM} {A:LogA} {D:DiskA}
theorem zbz {r1 r2:List HP} [hf:Fo l lgP lg A r1] [hf2:Fo r1 dk A.d D r2] [hf3:Fo r2 rfP rr R r] [hok:okR R r] (heq:A.l=R.l) (hhas:zc4 A.pre A.l D) (hs:Sat w l) :
  Ret P F.a108 #[.pointer (some ⟨lg,0,none⟩),.pointer (some ⟨rr,0,none⟩)] w λvs w'=>vs=[.bool true]/\Sat w' (lgP lg A::dk A.d D::rfP rr R::r) :=
 zdw _ _ <| by
  unfold zp2
  have hs:=hs.perm (hf.perm.trans (.cons _ (hf2.perm.trans (.cons _ hf3.perm))))
  clear hf hf2 hf3
  have hsegs:=hok.segs
  rw [<- heq] at hsegs
  have hlen:A.l.length<=1000000:=by rw [heq,z8v];exact hok.len
  have hall:(z0e A.l).length<=1000000:=by rw [heq,z96,List.length_map];exact hok.all
  have hnx:=hsegs.next (Int.le_refl 0)
  refine zp (λq w'=>q=(false,())/\Sat w' (lgP lg A::dk A.d D::rfP rr R::r)) ?_ ?_
  ·refine z0g ?_ (by simp)
   obtain ⟨M,hM,hs⟩:=z4w hs
   have hMl:M.l=A.l:=congrArg LogA.l hM
   have hll:M.l.length=M.SM.length:=List.length_map ..
   refine za (za7 (lg:=lg) hs) λ_ w' hs=>?_
   obtain ⟨rfl,hs⟩:=hs
   refine zd ?_
   refine za (zao (a:=rr) hs) λ_ w' hs=>?_
   obtain ⟨rfl,hs⟩:=hs
   refine zd ?_
   refine z0g ?_ (by rw [hMl,heq];simp)
   refine za (z8z (lg:=lg) (by rw [<- hll,hMl];omega) hs) λ_ w' hs=>?_
   obtain ⟨rfl,hs⟩:=hs
   refine zd ?_
   refine za (zny (a:=rr) hs) λ_ w' hs=>?_
   obtain ⟨rfl,hs⟩:=hs
   refine zd ?_
   refine z0g ?_ (by rw [hMl,heq];simp)
   have hs:Sat w' (lgQ lg M::dk A.d D::rfP rr R::r):=hs.sub
   have hs:=z2w M hs
   rw [hM] at hs
   refine za (zsq (lg:=lg) (A:=A) (D:=D) hsegs hhas hlen hall hs) λ_ w' hs=>?_
   obtain ⟨z,outs,rfl,hmap,hs⟩:=hs
   refine zd ?_
   refine za (zg4 (a:=rr) hs) λ_ w' hs=>?_
   obtain ⟨y,rfl,hs⟩:=hs
   refine zd ?_
   have hs:Sat w' (z0p outs::slc T.a1 7 y (R.bs.flatMap zj)::slc T.a1 7 z (outs.flatMap zj)::lgP lg A::dk A.d D::rfP rr R::r):=hs.sub
   have hmp:outs.map BatM.p=R.bs.map BatM.p:=by rw [hmap,heq,z96]
   have hol:outs.length<=1000000:=by
    have:=congrArg List.length hmp
    simp only [List.length_map] at this
    rw [this];exact hok.all
   have hvo:∀ b ∈ outs,z02 b=0:=λb hb=>by
    have h1:b.p ∈ z0e A.l:=by rw [<- hmap];exact List.mem_map.2 ⟨b,hb,rfl⟩
    obtain ⟨s,hs,hbs⟩:=List.mem_flatMap.1 h1
    exact ((hsegs.mem s hs).1.bs.valid _ hbs).1
   refine za (zri z y outs R.bs hmp inferInstance inferInstance (λb hb=>zd7 hb) (λb hb=>by have:=hok.rd b hb;infer_instance) (by omega) (λb hb=>by have:=(z2l (hvo b hb)).1;omega) hs) λ_ w' hs=>?_
   obtain ⟨rfl,hs⟩:=hs
   refine zd ?_
   exact zh ⟨rfl,hs.sub⟩
  rintro _ w2 ⟨rfl,hs⟩
  refine z0g ?_ (by simp)
  obtain ⟨M,hM,hs⟩:=z4w hs
  have hMl:M.l=A.l:=congrArg LogA.l hM
  have hll:M.l.length=M.SM.length:=List.length_map ..
  refine za (zb3 (lg:=lg) (by rw [<- hll,hMl];omega) hs) λ_ w' hs=>?_
  obtain ⟨z,rfl,hs⟩:=hs
  refine zd ?_
  obtain ⟨u,hs⟩:=z5a (hs.pick [3])
  have hls:=hs.slen z (xs:=M.l.map SegA.base) (enc:=z21)
  have hlu:=hs.slen u (xs:=R.SR) (enc:=z06)
  have hlR:R.l.length=R.SR.length:=z8v
  rw [List.length_map,hMl,heq,hlR] at hls
  refine zm ?_
  refine zb hs ?_
  refine z0g ?_ (by omega)
  have hfin:∀ {w:World},Sat w (pt rr (.cells #[.int .i64 R.seg,.int .i64 R.gap,.slice u.a u.len u.cap] T.a32)::slc T.a33 3 u (R.SR.flatMap z06)::HP.all (R.SR.map z0s)::slc T.a11 1 z ((M.l.map SegA.base).flatMap z21)::lgQ lg M::dk A.d D::r)->Sat w (lgP lg A::dk A.d D::rfP rr R::r):=λhs=>by
   have hs:=z2h R hs
   have hs:Sat _ (lgQ lg M::dk A.d D::rfP rr R::r):=hs.sub
   have hs:=z2w M hs
   rw [hM] at hs
   exact hs
  refine zp (λ_ w'=>Sat w' (lgP lg A::dk A.d D::rfP rr R::r)) ?_ ?_
  rotate_left
  ·rintro _ w3 hs
   exact ⟨rfl,rfl,hs⟩
  refine z08 (λm v w=>∃ i:Nat,v=((i:Int),())/\i<=R.SR.length/\R.SR.length-i=m/\Sat w (pt rr (.cells #[.int .i64 R.seg,.int .i64 R.gap,.slice u.a u.len u.cap] T.a32)::slc T.a33 3 u (R.SR.flatMap z06)::HP.all (R.SR.map z0s)::slc T.a11 1 z ((M.l.map SegA.base).flatMap z21)::lgQ lg M::dk A.d D::r)) R.SR.length ⟨0,rfl,by omega,rfl,hs⟩ ?_
  clear hs
  rintro m _ w ⟨i,rfl,hi,hm,hs⟩
  refine zk ?_
  refine zg (λhcc=>?_) λhcc=>?_
  rotate_left
  ·exact zn (zh (hfin hs))
  have hln:=hok.len
  have hil:i<R.SR.length:=by omega
  have hil2:i<(M.l.map SegA.base).length:=by rw [List.length_map,hMl,heq,hlR];exact hil
  have hbase:(M.l.map SegA.base)[i]=R.SR[i].base:=by
   have e:M.l=R.l:=hMl.trans heq
   simp only [e,RefM.l,List.map_map,List.getElem_map]
   rfl
  refine wp_lt ?_
  refine z07 hs λw' hs=>?_
  refine z1k hs (xs:=M.l.map SegA.base) (enc:=z21) i hil2 ?_
  refine zm ?_
  refine zb hs ?_
  refine zal hs (xs:=R.SR) (enc:=z06) i hil ?_
  refine zi ?_
  refine z0g ?_ (by rw [hbase];simp)
  rw [wS (i:=i) (by omega)]
  exact z0n (R.SR.length-(i+1)) ⟨i+1,rfl,by omega,rfl,hs⟩
end
section
variable {w:World} {l r:List HP} {lg d:Nat} {D:DiskA} {A:LogA}
theorem zqs (k v:ByteArray) (hs:Sat w l):Ret P F.a107 #[.string k,.string v] w λvs w'=>∃ x:Sl,vs=[.agg (zj (z59 k v x)).toArray]/\Sat w' (slc T.a3 4 x ((z59 k v x).rs.flatMap zx)::l) :=
 zlu k v <| by
  unfold zwx
  refine zy hs λa0 w' hs=>?_
  refine zcy hs (enc:=zx) [(⟨k,v,false,0⟩:RecM)] λx w' hs=>?_
  refine z03 hs λw' hs=>?_
  refine zt hs ?_
  refine ⟨rfl,x,rfl,?_⟩
  have hs:Sat w' (pt a0 _::slc T.a3 4 x ((z59 k v x).rs.flatMap zx)::l):=hs
  exact hs.tail
theorem z003 (b:BatM) (x:Sl) {r1:List HP} [hf:Fo l lgP lg A r1] [hf2:Fo r1 dk A.d D r] (hlen:A.l.length<=1000000) (hok:z0b 0 A.l) (hfl:∀ s ∈ A.l,s.file.length<=500000000)
  (hx:FocR r x 7 ([b].flatMap zj)) (hb:FocR r b.x 4 (b.rs.flatMap zx)) (hs:Sat w l) :
  Ret P F.a53 #[.pointer (some ⟨lg,0,none⟩),x.v] w λvs w'=>vs=[.int .i64 (z0j A.pre A.seg A.l D [b]).1.1,.int .i64 (z0j A.pre A.seg A.l D [b]).1.2] /\
   Sat w' (lgP lg (A.set (z0j A.pre A.seg A.l D [b]).2.1)::dk A.d (z0j A.pre A.seg A.l D [b]).2.2::r) :=
 zi9 x [b] hlen hok hfl (by show 1<=900;omega) hx (λc hc=>by
  simp only [List.mem_cons,List.not_mem_nil,or_false] at hc
  subst hc
  exact hb) hs
theorem zjx {l:List SegA} {n:Nat} {ns:List Nat} (h:l.map (λs=>s.file.length)=ns) (hn:∀ x ∈ ns,x<=n):∀ s ∈ l,s.file.length<=n:=λs hs=>hn _ (by rw [<- h];exact List.mem_map.2 ⟨s,hs,rfl⟩)
set_option maxHeartbeats 1000000 in
theorem zat (hs:Sat w l):Ret P F.a103 #[] w λvs w'=>vs=[.bool true]/\Sat w' l :=
 z9g <| by
  unfold z81
  refine za (zkh 1000 (by omega) hs) λ_ w' hs=>?_
  obtain ⟨d,rfl,hs⟩:=hs
  refine ⟨(some ⟨d,0,none⟩,0,()),rfl,trivial,z33 _ _ ?_⟩
  refine wp_lt ?_
  have hs:Sat w' (dk d aD0::l):=hs
  refine za (zd3 (d:=d) (D:=aD0) aP 64 1 (by kernel_rfl) ⟨by decide,by decide⟩ rfl hs) λ_ w' hs=>?_
  rw [zy8] at hs
  rcases hs with ⟨he,-,-⟩|⟨-,lg,rfl,hs⟩
  ·exact absurd rfl he
  refine ⟨(some ⟨lg,0,none⟩,0,()),rfl,trivial,z33 _ _ ?_⟩
  refine wp_lt ?_
  refine z0g ?_ (by simp)
  have hs:Sat w' (lgP lg ⟨d,aP,64,1,[]⟩::dk d aD0::l):=hs
  have step:∀ {w:World} {L:List SegA} {DD:DiskA} {X:List HP} (y x:Sl),Sat w (slc T.a1 7 x ([z59 (ByteArray.mk #[97]) (ByteArray.mk #[120]) y].flatMap zj)::slc T.a3 4 y ((z59 (ByteArray.mk #[97]) (ByteArray.mk #[120]) y).rs.flatMap zx)::lgP lg ⟨d,aP,64,1,L⟩::dk d DD::l)->L.length<=1000000->z0b 0 L->(∀ s ∈ L,s.file.length<=500000000) ->
    Ret P F.a53 #[.pointer (some ⟨lg,0,none⟩),x.v] w λvs w'=>vs=[.int .i64 (z0j aP 64 L DD [aB]).1.1,.int .i64 (z0j aP 64 L DD [aB]).1.2]/\Sat w' (lgP lg ⟨d,aP,64,1,(z0j aP 64 L DD [aB]).2.1⟩::dk d (z0j aP 64 L DD [aB]).2.2::l):=by
   intro w L DD X y x hs h1 h2 h3
   have h:=z003 (lg:=lg) (A:=⟨d,aP,64,1,L⟩) (D:=DD) (z59 (ByteArray.mk #[97]) (ByteArray.mk #[120]) y) x h1 h2 h3 inferInstance (FocR.tail (h:=FocR.head):FocR (slc T.a1 7 x ([z59 (ByteArray.mk #[97]) (ByteArray.mk #[120]) y].flatMap zj)::slc T.a3 4 y ((z59 (ByteArray.mk #[97]) (ByteArray.mk #[120]) y).rs.flatMap zx)::l) y 4 ((z59 (ByteArray.mk #[97]) (ByteArray.mk #[120]) y).rs.flatMap zx)) hs
   have e:z0j aP 64 L DD [z59 (ByteArray.mk #[97]) (ByteArray.mk #[120]) y]=z0j aP 64 L DD [aB]:=by
    rw [<- zt5,<- zt5 aP 64 L DD [aB]]
    rfl
   refine h.mono λvs w' ⟨hv,hs⟩=>⟨?_,?_⟩
   ·rw [hv]
    show [Value.int .i64 (z0j aP 64 L DD [z59 (ByteArray.mk #[97]) (ByteArray.mk #[120]) y]).1.1,Value.int .i64 (z0j aP 64 L DD [z59 (ByteArray.mk #[97]) (ByteArray.mk #[120]) y]).1.2]=_
    rw [e]
   ·have hs:Sat w' (lgP lg ⟨d,aP,64,1,(z0j aP 64 L DD [z59 (ByteArray.mk #[97]) (ByteArray.mk #[120]) y]).2.1⟩::dk d (z0j aP 64 L DD [z59 (ByteArray.mk #[97]) (ByteArray.mk #[120]) y]).2.2::slc T.a1 7 x ([z59 (ByteArray.mk #[97]) (ByteArray.mk #[120]) y].flatMap zj)::slc T.a3 4 y ((z59 (ByteArray.mk #[97]) (ByteArray.mk #[120]) y).rs.flatMap zx)::l):=hs
    rw [e] at hs
    exact hs.sub
  refine za (zqs _ _ hs) λ_ w' hs=>?_
  obtain ⟨y1,rfl,hs⟩:=hs
  refine ⟨(0,0,0,0,0,0,y1,()),rfl,trivial,zd8 _ _ _ _ _ _ _ ?_⟩
  refine zcy hs (enc:=zj) [z59 (ByteArray.mk #[97]) (ByteArray.mk #[120]) y1] λx1 w' hs=>?_
  refine za (step (X:=[]) y1 x1 hs (by decide) trivial (λs hs=>by cases hs)) λ_ w' hs=>?_
  obtain ⟨hv,hs⟩:=hs
  have hv:_=[Value.int .i64 aS1.1.1,Value.int .i64 aS1.1.2]:=hv
  have hs:Sat w' (lgP lg ⟨d,aP,64,1,aS1.2.1⟩::dk d aS1.2.2::l):=hs
  have k1:z0b 0 aS1.2.1:=zhp trivial
  rw [z03e] at hv
  subst hv
  refine ⟨(0,0,()),rfl,trivial,z33 _ _ ?_⟩
  refine wp_lt ?_
  refine wp_lt ?_
  refine za (zqs _ _ hs) λ_ w' hs=>?_
  obtain ⟨y2,rfl,hs⟩:=hs
  refine ⟨(0,0,0,0,0,0,y2,()),rfl,trivial,zd8 _ _ _ _ _ _ _ ?_⟩
  refine zcy hs (enc:=zj) [z59 (ByteArray.mk #[97]) (ByteArray.mk #[120]) y2] λx2 w' hs=>?_
  refine za (step (X:=[]) y2 x2 hs (by rw [zxn.1];decide) k1 (zjx zxn.2 (by simp))) λ_ w' hs=>?_
  obtain ⟨hv,hs⟩:=hs
  have hv:_=[Value.int .i64 aS2.1.1,Value.int .i64 aS2.1.2]:=hv
  have hs:Sat w' (lgP lg ⟨d,aP,64,1,aS2.2.1⟩::dk d aS2.2.2::l):=hs
  have k2:z0b 0 aS2.2.1:=zhp k1
  rw [z03i] at hv
  subst hv
  refine ⟨(1,0,()),rfl,trivial,z33 _ _ ?_⟩
  refine wp_lt ?_
  refine wp_lt ?_
  refine za (zqs _ _ hs) λ_ w' hs=>?_
  obtain ⟨y3,rfl,hs⟩:=hs
  refine ⟨(0,0,0,0,0,0,y3,()),rfl,trivial,zd8 _ _ _ _ _ _ _ ?_⟩
  refine zcy hs (enc:=zj) [z59 (ByteArray.mk #[97]) (ByteArray.mk #[120]) y3] λx3 w' hs=>?_
  refine za (step (X:=[]) y3 x3 hs (by rw [zw4.1];decide) k2 (zjx zw4.2 (by simp))) λ_ w' hs=>?_
  obtain ⟨hv,hs⟩:=hs
  have hv:_=[Value.int .i64 aS3.1.1,Value.int .i64 aS3.1.2]:=hv
  have hs:Sat w' (lgP lg ⟨d,aP,64,1,aS3.2.1⟩::dk d aS3.2.2::l):=hs
  rw [z03d] at hv
  subst hv
  refine ⟨(2,0,()),rfl,trivial,z33 _ _ ?_⟩
  refine wp_lt ?_
  refine wp_lt ?_
  obtain ⟨M,hM,hs⟩:=z4w hs
  have hMl:M.l=aS3.2.1:=congrArg LogA.l hM
  have hMd:M.d=d:=congrArg LogA.d hM
  refine za (zb3 (lg:=lg) (by have:=z030;rw [<- hMl] at this;have h2:M.l.length=M.SM.length:=List.length_map ..;omega) hs) λ_ w' hs=>?_
  obtain ⟨z,rfl,hs⟩:=hs
  refine zd ?_
  rw [hMl,zys] at hs
  have hlz:=hs.slen z (xs:=([0,2]:List Int)) (enc:=z21)
  obtain ⟨p,hp,hpf⟩:∃ p,zu aS3.2.2.fs (ByteArray.mk #[112,45,48,48,48,48,48,48,48,48,48,48,48,46,108,111,103])=some p/\(p.1.length,p.1[0]?,p.1[4]?)=(53,some 3,some 83):=by
   have:=zy5
   rw [Option.map_eq_some_iff] at this
   exact this
  simp only [Prod.mk.injEq] at hpf
  obtain ⟨q1,q2,q3⟩:=hpf
  refine za (z01l (d:=d) (D:=aS3.2.2) _ p hp hs) λ_ w' hs=>?_
  obtain ⟨u,rfl,hs⟩:=hs
  refine ⟨(u,0,()),rfl,trivial,z33 _ _ ?_⟩
  refine wp_lt ?_
  have hlu:=hs.slen u (xs:=p.1) (enc:=zf)
  have hq2:(p.1[0]'(by omega))=3:=by
   rw [List.getElem?_eq_getElem (by omega)] at q2;exact Option.some.inj q2
  have hq3:(p.1[4]'(by omega))=83:=by
   rw [List.getElem?_eq_getElem (by omega)] at q3;exact Option.some.inj q3
  refine zgk hs (xs:=([0,2]:List Int)) (enc:=z21) 1 (by decide) ?_
  refine zgk hs (xs:=p.1) (enc:=zf) 0 (by omega) ?_ (by omega)
  refine zgk hs (xs:=p.1) (enc:=zf) 4 (by omega) ?_
  refine wp_lt ?_
  refine ⟨rfl,?_,hs.sub⟩
  rw [hq2,hq3,hlz,hlu,q1]
  rfl
theorem nil_append (x:Sl) (hs:Sat w l):Ret P F.a53 #[.pointer none,x.v] w λvs w'=>vs=[.int .i64 0,.int .i64 1]/\Sat w' l :=
 zgf _ x <| by
  unfold zvg
  refine z17 ?_ (by rfl)
  exact ⟨rfl,rfl,hs⟩
end
section
variable {w:World} {l r:List HP}
theorem ztr {a:Nat} {seg gap:Int} (hs:Sat w (pt a (.cells #[.int .i64 seg,.int .i64 gap,.slice none 0 0] T.a32)::l)):Sat w (rfP a ⟨seg,gap,[]⟩::l):=by
 have h1:Sat w (slc T.a33 3 ⟨none,0,0⟩ (([]:List SegR).flatMap z06)::HP.all (([]:List SegR).map z0s)::pt a (.cells #[.int .i64 seg,.int .i64 gap,.slice none 0 0] T.a32)::l):=(Sat.all_nil hs).slc_nil
 exact z2h ⟨seg,gap,[]⟩ (z:=⟨none,0,0⟩) (h1.pick [2])
end
def InP (pool:List BatM) (R:RefM):Prop:=∀ b ∈ R.bs,∃ c ∈ pool,b.x=c.x/\b.rs=c.rs
structure Grw (pre:ByteArray) (D:DiskA) (l':List SegA) (D':DiskA):Prop where
 cpl:Cpl pre l' D'
 fr:Fr pre D D'
 calm:Calm D'
 used:used D'.fs<=used D.fs+705
 len:D'.fs.length<=D.fs.length+1
theorem zii {w:World} {l:List HP} {outs:List BatM} {b:BatM} {z:Sl} (hs:Sat w (slc T.a3 4 z (b.rs.flatMap zx)::z0p outs::l)):Sat w (z0p (outs++[b.at z])::l):=zj5 (b:=b.at z) hs
theorem InP.rd {pool:List BatM} {R:RefM} {l:List HP} (h:InP pool R):∀ b ∈ R.bs,FocR (z0p pool::l) b.x 4 (b.rs.flatMap zx):=λb hb=>by
 obtain ⟨c,hc,e1,e2⟩:=h b hb
 rw [e1,e2]
 exact zd7 hc
theorem InP.more {pool:List BatM} {R:RefM} (h:InP pool R) (x:BatM):InP (pool++[x]) R:=λb hb=>by
 obtain ⟨c,hc,e⟩:=h b hb
 exact ⟨c,List.mem_append_left _ hc,e⟩
theorem InP.app {pool:List BatM} {R R':RefM} {b0:BatM} {z:Sl} (h:InP pool R) (hR:∀ b ∈ R'.bs,b ∈ R.bs\/(b.x=z/\b.rs=(zv b0).rs)):InP (pool++[(zv b0).at z]) R':=λb hb=>by
 rcases hR b hb with h1|⟨h1,h2⟩
 ·exact h.more _ b h1
 ·exact ⟨(zv b0).at z,by simp,h1,h2⟩
abbrev qP:ByteArray:=ByteArray.mk #[113]
abbrev qqP:ByteArray:=ByteArray.mk #[113,113]
theorem z6c:z42 qP=true:=by kernel_rfl
theorem zrv:z42 qqP=true:=by kernel_rfl
theorem z00q:qP≠qqP:=λh=>by have:=congrArg ByteArray.size h;cases this
structure ApP (s:Int) (k:Nat) (D:DiskA) (R S:RefM) (pool:List BatM):Prop where
 rs:R.seg=s
 ss:S.seg=s
 c1:Cpl qP R.l D
 c2:Cpl qqP S.l D
 calm:Calm D
 room:D.room=1048576
 used:used D.fs<=705*k
 len:D.fs.length<=k
 in1:InP pool R
 in2:InP pool S
theorem ApP.left {s:Int} {k:Nat} {D D':DiskA} {R R' S:RefM} {pool:List BatM} {b0:BatM} {z:Sl} (h:ApP s k D R S pool) (hg:Grw qP D R'.l D') (h1:R'.seg=R.seg) (hR:∀ b ∈ R'.bs,b ∈ R.bs\/(b.x=z/\b.rs=(zv b0).rs)):ApP s (k+1) D' R' S (pool++[(zv b0).at z]) :=
 ⟨h1.trans h.rs,h.ss,hg.cpl,h.c2.frame hg.cpl.ok z6c zrv z00q hg.fr,hg.calm,hg.fr.room.trans h.room,by have:=hg.used;have:=h.used;omega,by have:=hg.len;have:=h.len;omega,h.in1.app hR,h.in2.more _⟩
theorem ApP.right {s:Int} {k:Nat} {D D':DiskA} {R S S':RefM} {pool:List BatM} {b0:BatM} {z:Sl} (h:ApP s k D R S pool) (hg:Grw qqP D S'.l D') (h1:S'.seg=S.seg) (hR:∀ b ∈ S'.bs,b ∈ S.bs\/(b.x=z/\b.rs=(zv b0).rs)):ApP s (k+1) D' R S' (pool++[(zv b0).at z]) :=
 ⟨h.rs,h1.trans h.ss,h.c1.frame hg.cpl.ok zrv z6c z00q.symm hg.fr,hg.cpl,hg.calm,hg.fr.room.trans h.room,by have:=hg.used;have:=h.used;omega,by have:=hg.len;have:=h.len;omega,h.in1.more _,h.in2.app hR⟩
theorem ApP.free {s:Int} {k:Nat} {D:DiskA} {R S:RefM} {pool:List BatM} (h:ApP s k D R S pool) (hk:k<=100):705<=D.free:=by
 have:=h.used
 have:=h.room
 unfold DiskA.free
 omega
theorem zoo (r:RecM):z1x r=0\/z1x r=2\/z1x r=7:=by
 unfold z1x
 split
 ·exact .inr (.inr rfl)
 split
 ·exact .inr (.inl rfl)
 ·exact .inl rfl
theorem zff:∀ rs:List RecM,z43 rs=0\/z43 rs=2\/z43 rs=7
 | []=>.inl rfl
 | r::rs=>by
  unfold z43
  split
  ·exact zoo r
  ·exact zff rs
theorem zjf (b:BatM):z02 b=0\/z02 b=2\/z02 b=7\/z02 b=24:=by
 unfold z02
 split
 ·exact .inr (.inl rfl)
 split
 ·exact .inr (.inr (.inl rfl))
 split
 ·have:=zff b.rs
  omega
 split
 ·exact .inr (.inr (.inr rfl))
 ·exact .inl rfl
theorem zdj:∀ (bs:List BatM) (n:Int),(zq n bs).1=0\/(zq n bs).1=2\/(zq n bs).1=7\/(zq n bs).1=24
 | [],n=>.inl rfl
 | b::bs,n=>by
  unfold zq
  split
  ·exact zjf _
  split
  ·exact zdj bs _
  ·exact .inl rfl
def z7d (b:Bool):List Value:=[.bool b]
instance:Enc1 z7d .bool (λb=>b):=⟨λ_=>rfl⟩
instance:EncN z7d 1:=⟨λ_=>rfl,by decide,by simp [z7d,Value.oneCell']⟩
section
variable {w:World} {l r:List HP} {lg a:Nat} {A:LogA} {D:DiskA} {R:RefM}
theorem zk4 {r1:List HP} [hf:Fo l lgP lg A r1] [hf2:Fo r1 dk A.d D r] (hlen:A.l.length<=1000000000) (hok:z0b 0 A.l) (hs:Sat w l) :
  Ret P F.a61 #[.pointer (some ⟨lg,0,none⟩)] w λvs w'=>vs=[.int .i64 (z0h A.pre A.l D).1]/\Sat w' (lgP lg A::dk A.d (z0h A.pre A.l D).2::r):=by
 have hs:=hs.perm (hf.perm.trans (.cons _ hf2.perm))
 clear hf hf2
 obtain ⟨M,rfl,hs⟩:=z4w hs
 have hll:M.l.length=M.SM.length:=List.length_map ..
 have hMl:M.A.l=M.l:=rfl
 rw [hMl] at hlen hok
 have hs:Sat w (lgQ lg M::dk M.d D::r):=hs
 refine (znl (lg:=lg) (M:=M) (D:=D) (by omega) hok hs).mono λvs w' h=>?_
 obtain ⟨h1,h2⟩:=h
 exact ⟨h1,z2w M h2⟩
theorem zad {pool:List BatM} (hsegs:z0b 0 R.l) (h1:R.SR.length<=1000000) (h2:R.bs.length<=1000000) (hin:InP pool R):okR R (z0p pool::l):=⟨hsegs,hin.rd,h1,h2⟩
structure FilI (s:Int) (k:Nat) (D:DiskA) (l:List SegA) (R:RefM) (pool:List BatM) (n:Nat) (C:Prop):Prop where
 cpl:Cpl qP l D
 syn:z7p qP l D n
 rseg:R.seg=4194304
 segs:z0b 0 R.l
 srl:R.SR.length<=k
 brl:R.bs.length<=k
 all:R.bs.map BatM.p=z0e l
 next:zr R.l=zr l
 rep:l=z6o s (z0e l)
 room:D.room=1048576
 used:used D.fs<=705*k
 len:D.fs.length<=k
 in1:InP pool R
 calm:C->Calm D
structure FilE (s:Int) (D:DiskA) (l:List SegA) (outs pool:List BatM) (n:Nat) (C:Prop):Prop where
 cpl:Cpl qP l D
 syn:z7p qP l D n
 told:outs.map BatM.p=z0e l\/(D.gone=true/\∃ b,outs.map BatM.p=z0e l++[b])
 rep:l=z6o s (z0e l)
 room:D.room=1048576
 used:used D.fs<=14805
 len:D.fs.length<=21
 num:outs.length<=21
 in1:∀ b ∈ outs,∃ c ∈ pool,b.x=c.x/\b.rs=c.rs
 calm:C->Calm D/\outs.map BatM.p=z0e l
theorem FilI.free {s:Int} {k n:Nat} {l:List SegA} {pool:List BatM} {C:Prop} (h:FilI s k D l R pool n C) (hk:k<=100):705<=D.free:=by
 have:=h.used
 have:=h.room
 unfold DiskA.free
 omega
theorem FilI.done {s:Int} {k n:Nat} {l:List SegA} {pool:List BatM} {C:Prop} (h:FilI s k D l R pool n C) (hk:k<=20):FilE s D l R.bs pool n C :=
 ⟨h.cpl,h.syn,.inl h.all,h.rep,h.room,by have:=h.used;omega,by have:=h.len;omega,by have:=h.brl;omega,h.in1,λc=>⟨h.calm c,h.all⟩⟩
theorem FilI.step {s:Int} {k n:Nat} {l:List SegA} {pool:List BatM} {C:Prop} {R':RefM} {b0:BatM} {z z':Sl} (h:FilI s k D l R pool n C) (hk:k<=100)
  (h1:(z0j qP s l D [(zv b0).at z]).1=(z0m s l [(zv b0).at z]).1) (h2:(z0j qP s l D [(zv b0).at z]).2.1=(z0m s l [(zv b0).at z]).2)
  (r1:R'.seg=R.seg) (r2:R'.l=(z0m R.seg R.l [(zv b0).at z']).2) (r3:R'.SR.length<=R.SR.length+1) (r4:R'.bs.length<=R.bs.length+1) (r5:∀ b ∈ R'.bs,b ∈ R.bs\/(b.x=z'/\b.rs=(zv b0).rs)) :
  FilI s (k+1) (z0j qP s l D [(zv b0).at z]).2.2 (z0j qP s l D [(zv b0).at z]).2.1 R' (pool++[(zv b0).at z']) n C:=by
 have hst:=zeq s [(zv b0).at z] z6c h.cpl
 have hsy:=h.syn.app (seg:=s) (bs:=[(zv b0).at z]) z6c h.cpl
 have hsum:=zkj (seg:=s) (l:=l) (bs:=[(zv b0).at z])
 have hsm:=zdy b0 z (zr l)
 have hsl:=z5k (zr l) 0
 have hR:R'.bs.map BatM.p=z0e R'.l:=by rw [z96]
 have hRR:R.bs.map BatM.p=z0e R.l:=by rw [z96]
 have hrall:z0e R.l=z0e l:=hRR.symm.trans h.all
 have er:z0m R.seg R.l [(zv b0).at z']=z0m R.seg R.l [(zv b0).at z]:=zom _ _ _ _ _
 rw [er] at r2
 have hsegR:z0b 0 R'.l:=by rw [r2];exact z73 h.segs
 have hallN:z0e R'.l=z0e (z0m s l [(zv b0).at z]).2/\zr R'.l=zr (z0m s l [(zv b0).at z]).2/\(z0m s l [(zv b0).at z]).2=z6o s (z0e (z0m s l [(zv b0).at z]).2):=by
  by_cases hp:(zq (zr l) [(zv b0).at z]).1=0
  ·obtain ⟨g1,g2⟩:=z7r (seg:=s) h.cpl.segs (by simp) hp
   obtain ⟨g3,g4⟩:=z7r (seg:=R.seg) (bs:=[(zv b0).at z]) h.segs (by simp) (by rw [h.next];exact hp)
   rw [h.next] at g3 g4
   rw [r2]
   refine ⟨by rw [g1,g3,hrall],by rw [g2,g4],?_⟩
   rw [g1,z9n _ _ hp]
   show _=z6o s (z0e l++[(((zv b0).at z).to (zr l)).p])
   rw [za0,<- h.rep,zyo]
  ·obtain ⟨g1,-⟩:=z7u (seg:=s) (l:=l) (bs:=[(zv b0).at z]) (.inr hp)
   obtain ⟨g3,-⟩:=z7u (seg:=R.seg) (l:=R.l) (bs:=[(zv b0).at z]) (.inr (by rw [h.next];exact hp))
   rw [r2,g1,g3]
   exact ⟨hrall,h.next,h.rep⟩
 rw [h2] at hst hsy ⊢
 have hu:=hst.2.2.1
 have hl:=hst.2.2.2.1
 have hll:(z0m s l [(zv b0).at z]).2.length<=l.length+1:=by
  unfold z0m
  split
  ·simp
  split
  ·simp
  ·simp only
   split
   ·rename_i hr
    have hne:l≠[]:=by rintro rfl;cases hr
    obtain ⟨l0,t,rfl⟩:=z2d hne
    rw [z30];simp
   ·simp
 have hlen2:(z0j qP s l D [(zv b0).at z]).2.2.fs.length<=D.fs.length+1:=by
  unfold z0j
  split
  ·simp only;omega
  split
  ·simp only;omega
  split
  ·split <;> exact z6b.1
  ·obtain ⟨-,-,-,s4,-⟩:=z5y h.cpl
   split
   ·simp only;omega
   split
   ·simp only
    have:=(z6b (A:=(z0h qP l D).2) (n:=ze qP (zr l) zo) (bs:=shL (zr l) 0++(zq (zr l) [(zv b0).at z]).2.flatMap frL)).1
    omega
   ·simp only
    have:=(z6b (A:=(z0h qP l D).2) (n:=ze qP (zr l) zo) (bs:=shL (zr l) 0++(zq (zr l) [(zv b0).at z]).2.flatMap frL)).1
    omega
 exact ⟨hst.1,hsy,r1.trans h.rseg,hsegR,by have:=h.srl;omega,by have:=h.brl;omega,by rw [hR];exact hallN.1,hallN.2.1,hallN.2.2,hst.2.1.room.trans h.room,by have:=h.used;omega,by have:=h.len;omega,h.in1.app r5,λc=>hst.2.2.2.2 (h.calm c)⟩
theorem FilI.fail {s:Int} {k n:Nat} {l:List SegA} {pool:List BatM} {C:Prop} {R':RefM} {b0:BatM} {z z':Sl} (h:FilI s k D l R pool n C) (hk:k<20)
  (h1:(z0j qP s l D [(zv b0).at z]).2.1=l) (h2:(z0j qP s l D [(zv b0).at z]).2.2.gone=true)
  (r2:R'.l=(z0m R.seg R.l [(zv b0).at z']).2) (r4:R'.bs.length<=R.bs.length+1) (r5:∀ b ∈ R'.bs,b ∈ R.bs\/(b.x=z'/\b.rs=(zv b0).rs)) :
  FilE s (z0j qP s l D [(zv b0).at z]).2.2 l R'.bs (pool++[(zv b0).at z']) n C:=by
 have hst:=zeq s [(zv b0).at z] z6c h.cpl
 have hsy:=h.syn.app (seg:=s) (bs:=[(zv b0).at z]) z6c h.cpl
 rw [h1] at hst hsy
 have hR:R'.bs.map BatM.p=z0e R'.l:=by rw [z96]
 have hRR:R.bs.map BatM.p=z0e R.l:=by rw [z96]
 have hrall:z0e R.l=z0e l:=hRR.symm.trans h.all
 have hu:=hst.2.2.1
 have hl:=hst.2.2.2.1
 refine ⟨hst.1,hsy,?_,h.rep,hst.2.1.room.trans h.room,by have:=h.used;omega,by have:=h.len;omega,by have:=h.brl;omega,h.in1.app r5,λc=>?_⟩
 ·by_cases hp:(zq (zr R.l) [(zv b0).at z']).1=0
  ·obtain ⟨g3,-⟩:=z7r (seg:=R.seg) (bs:=[(zv b0).at z']) h.segs (by simp) hp
   refine .inr ⟨h2,?_⟩
   rw [hR,r2,g3,z9n _ _ hp,hrall]
   exact ⟨_,rfl⟩
  ·obtain ⟨g3,-⟩:=z7u (seg:=R.seg) (l:=R.l) (bs:=[(zv b0).at z']) (.inr hp)
   refine .inl ?_
   rw [hR,r2,g3,hrall]
 ·have:=(hst.2.2.2.2 (h.calm c)).gone
  rw [this] at h2;cases h2
set_option maxHeartbeats 1000000 in
theorem zu0 (d:Nat) (x sy:Sl) (bs:List BatM) (ss:List Bool) (s g:Int) (C:Prop) [hf:Fo l dk d D r] (hgone:D.gone=false) (hD:Cpl qP [] D) (hroom:D.room=1048576) (hused:used D.fs=0) (hlen0:D.fs.length=0) (hC:C->Calm D) (hcfg:zft s g)
  (hx:FocR r x 7 (bs.flatMap zj)) (hbs:∀ b ∈ bs,FocR r b.x 4 (b.rs.flatMap zx)) (hsy:FocR r sy 1 (ss.flatMap z7d)) (hs:Sat w l) :
  Ret P F.a105 #[.pointer (some ⟨d,0,none⟩),.agg #[.int .i64 s,.int .i64 g],x.v,sy.v] w λvs w' =>
   ∃ (lg:Nat) (y:Sl) (outs:List BatM) (n:Nat) (D':DiskA) (l':List SegA) (pool:List BatM),vs=[.pointer (some ⟨lg,0,none⟩),y.v,.int .i64 (n:Nat)]/\FilE s D' l' outs pool n C /\
    Sat w' (lgP lg ⟨d,qP,s,g,l'⟩::dk d D'::slc T.a1 7 y (outs.flatMap zj)::z0p pool::r) :=
 zll _ s g x sy <| by
  unfold zwb
  have hs:=hs.perm hf.perm
  clear hf
  have hlx:=hs.slen x (xs:=bs) (enc:=zj)
  have hly:=hs.slen sy (xs:=ss) (enc:=z7d)
  refine z00 hs λa0 w' hs=>?_
  refine zt hs ?_
  refine za (zd3 (d:=d) (D:=D) qP s g z6c hcfg hgone hs) λ_ w' hs=>?_
  rw [hD.opened] at hs
  rcases hs with ⟨he,-,-⟩|⟨-,lg,rfl,hs⟩
  ·exact absurd rfl he
  have hs:Sat w' (lgP lg ⟨d,qP,s,g,[]⟩::dk d D::pt a0 (.cells #[.int .i64 s,.int .i64 g] T.a27)::r):=hs
  refine ⟨(some ⟨lg,0,none⟩,0,()),rfl,trivial,z33 _ _ ?_⟩
  refine wp_lt ?_
  refine z0g ?_ (by simp)
  refine z00 hs λa6 w' hs=>?_
  have hs:=ztr hs
  refine zp (λq w'=>∃ (R:RefM) (D':DiskA) (l':List SegA) (pool:List BatM) (n:Nat),q=((n:Int),())/\FilE s D' l' R.bs pool n C/\z0b 0 R.l/\R.SR.length<=1000/\Sat w' (lgP lg ⟨d,qP,s,g,l'⟩::dk d D'::rfP a6 R::z0p pool::r)) ?_ ?_
  rotate_left
  ·clear hs
   rintro _ w ⟨R,D',l',pool,n,rfl,hE,hsegs,hsr,hs⟩
   refine zk ?_
   have hok:okR R (z0p pool::r):=zad hsegs (by omega) (by have:=hE.num;omega) hE.in1
   refine za (zg4 (a:=a6) (R:=R) hs) λ_ w' hs=>?_
   obtain ⟨y,rfl,hs⟩:=hs
   refine zd ?_
   refine wp_lt ?_
   have hs:Sat w' (slc T.a1 7 y (R.bs.flatMap zj)::rfP a6 R::lgP lg ⟨d,qP,s,g,l'⟩::dk d D'::z0p pool::r):=hs
   exact ⟨rfl,lg,y,R.bs,n,D',l',pool,rfl,hE,hs.sub⟩
  have hs:Sat w' (lgP lg ⟨d,qP,s,g,[]⟩::dk d D::rfP a6 ⟨4194304,1,[]⟩::z0p []::r):=by
   have h1:Sat w' (lgP lg ⟨d,qP,s,g,[]⟩::dk d D::rfP a6 ⟨4194304,1,[]⟩::r):=hs.sub
   exact (zej h1).pick [1,1,1]
  have hI:FilI s 0 D [] ⟨4194304,1,[]⟩ [] 0 C:=⟨hD,⟨Nat.le_refl _,λl0 t e=>by simp at e⟩,rfl,trivial,Nat.le_refl _,Nat.le_refl _,rfl,rfl,rfl,hroom,by omega,by omega,(λb hb=>by cases hb),hC⟩
  refine z08 (λm v w=>∃ (i n:Nat) (D':DiskA) (l':List SegA) (R:RefM) (pool:List BatM),v=((n:Int),((i:Int),()))/\i<=bs.length/\i<=20/\bs.length-i=m/\FilI s i D' l' R pool n C/\Sat w (lgP lg ⟨d,qP,s,g,l'⟩::dk d D'::rfP a6 R::z0p pool::r)) bs.length ⟨0,0,_,_,_,_,rfl,by omega,by omega,rfl,hI,hs⟩ ?_
  clear hs hI hD hroom hused hlen0 hC hgone
  rintro m _ w ⟨i,n,D,l',R,pool,rfl,hi,hi20,hm,hI,hs⟩
  have hstop:Sat w (lgP lg ⟨d,qP,s,g,l'⟩::dk d D::rfP a6 R::z0p pool::r)->∃ (R:RefM) (D':DiskA) (l':List SegA) (pool:List BatM) (n':Nat),(((n:Int),()):Int × Unit)=((n':Int),())/\FilE s D' l' R.bs pool n' C/\z0b 0 R.l/\R.SR.length<=1000/\Sat w (lgP lg ⟨d,qP,s,g,l'⟩::dk d D'::rfP a6 R::z0p pool::r):=λhs=>⟨R,D,l',pool,n,rfl,hI.done hi20,hI.segs,by have:=hI.srl;omega,hs⟩
  refine zk ?_
  refine zg (λhc=>?_) λhc=>?_
  rotate_left
  ·exact zn (zh (hstop hs))
  have hil:i<bs.length:=by omega
  have hRb:=hbs _ (List.getElem_mem hil)
  have hok:okR R (z0p pool::r):=zad hI.segs (by have:=hI.srl;omega) (by have:=hI.brl;omega) hI.in1
  refine z1p hs (xs:=bs) (enc:=zj) i hil ?_
  refine zy hs λa18 w' hs=>?_
  refine wp_lt ?_
  refine z03 hs λw' hs=>?_
  refine zg (λh20=>?_) λh20=>?_
  ·have hs:Sat w' (lgP lg ⟨d,qP,s,g,l'⟩::dk d D::rfP a6 R::z0p pool::r):=hs.tail
   exact zn (zh ⟨R,D,l',pool,n,rfl,hI.done hi20,hI.segs,by have:=hI.srl;omega,hs⟩)
  refine zt hs ?_
  refine za (zy6 bs[i] hs) λ_ w' hs=>?_
  obtain ⟨z1,rfl,hs⟩:=hs
  refine ⟨(bs[i].base,bs[i].pid,bs[i].epoch,bs[i].seq,bs[i].kind,bs[i].time,z1,()),rfl,trivial,zd8 _ _ _ _ _ _ _ ?_⟩
  refine zy hs λa34 w' hs=>?_
  refine z03 hs λw' hs=>?_
  have hs:Sat w' (pt a34 (.cells (cZ bs[i] z1) T.a1)::slc T.a3 4 z1 ((zv bs[i]).rs.flatMap zx)::lgP lg ⟨d,qP,s,g,l'⟩::dk d D::rfP a6 R::z0p pool::r):=hs.sub
  have hfr:=hI.free (by omega)
  have hlen:=hI.len
  generalize hb0:bs[i]=b0 at *
  refine zp (λq w'=>q=((zq (zr R.l) [(zv b0).at z1]).1,())/\Sat w' (pt a34 (.cells (cZ b0 z1) T.a1)::slc T.a3 4 z1 ((zv b0).rs.flatMap zx)::lgP lg ⟨d,qP,s,g,l'⟩::dk d D::rfP a6 R::z0p pool::r)) ?_ ?_
  ·refine z07 hs λw' hs=>?_
   obtain ⟨zR,hs⟩:=z5a (hs.pick [4])
   have hfin:∀ {w:World},Sat w (pt a6 (.cells #[.int .i64 R.seg,.int .i64 R.gap,.slice zR.a zR.len zR.cap] T.a32)::slc T.a33 3 zR (R.SR.flatMap z06)::HP.all (R.SR.map z0s)::pt a34 (.cells (cZ b0 z1) T.a1)::slc T.a3 4 z1 ((zv b0).rs.flatMap zx)::lgP lg ⟨d,qP,s,g,l'⟩::dk d D::z0p pool::r)->Sat w (pt a34 (.cells (cZ b0 z1) T.a1)::slc T.a3 4 z1 ((zv b0).rs.flatMap zx)::lgP lg ⟨d,qP,s,g,l'⟩::dk d D::rfP a6 R::z0p pool::r):=λhs=>by
    have h1:=z2h R hs
    exact h1.sub
   refine z1m hs ?_
   refine zgd hs ?_
   refine zd6 ?_ ?_
   ·refine z00 hs λa43 w' hs=>?_
    refine z6e hs (enc:=zj) [(zv b0).at z1] λy1 w' hs=>⟨(by first|trivial|(repeat (first|exact trivial|exact λ_=>z0i hs|exact λ_=>z0o hs|refine And.intro ?_ ?_))),?_⟩
    refine zi ?_
    have hbF:∀ c ∈ [(zv b0).at z1],FocR (slc T.a1 7 y1 ([(zv b0).at z1].flatMap zj)::pt a43 (.cells #[.int .i64 0,.int .i64 0,.slice zR.a zR.len zR.cap] T.a32)::pt a6 (.cells #[.int .i64 R.seg,.int .i64 R.gap,.slice zR.a zR.len zR.cap] T.a32)::slc T.a33 3 zR (R.SR.flatMap z06)::HP.all (R.SR.map z0s)::pt a34 (.cells (cZ b0 z1) T.a1)::slc T.a3 4 z1 ((zv b0).rs.flatMap zx)::lgP lg ⟨d,qP,s,g,l'⟩::dk d D::z0p pool::r) c.x 4 (c.rs.flatMap zx):=λc hc=>by
     rw [List.mem_singleton.1 hc]
     show FocR _ z1 4 ((zv b0).rs.flatMap zx)
     infer_instance
    refine za (zan (R:=R) (z:=zR) (a:=a43) (g1:=0) (g2:=0) y1 [(zv b0).at z1] inferInstance (λs hs=>z6k hs) (by show 1<=100000;omega) inferInstance hbF hs) λ_ w' hs=>?_
    rcases hs with ⟨he,rfl,hs⟩|⟨he,y3,rfl,hs⟩
    ·refine zd ?_
     refine wp_lt ?_
     refine zi ?_
     exact zh ⟨rfl,hfin hs.sub⟩
    ·refine ⟨(y3,0,()),rfl,trivial,z33 _ _ ?_⟩
     refine wp_lt ?_
     refine zi ?_
     exact zh ⟨by rw [he],hfin hs.sub⟩
   ·refine z6e hs (enc:=zj) [(zv b0).at z1] λy1 w' hs=>⟨(by first|trivial|(repeat (first|exact trivial|exact λ_=>z0i hs|exact λ_=>z0o hs|refine And.intro ?_ ?_))),?_⟩
    refine z00 hs λa43 w' hs=>?_
    refine zi ?_
    have hbF:∀ c ∈ [(zv b0).at z1],FocR (pt a43 (.cells #[.int .i64 0,.int .i64 0,.slice zR.a zR.len zR.cap] T.a32)::slc T.a1 7 y1 ([(zv b0).at z1].flatMap zj)::pt a6 (.cells #[.int .i64 R.seg,.int .i64 R.gap,.slice zR.a zR.len zR.cap] T.a32)::slc T.a33 3 zR (R.SR.flatMap z06)::HP.all (R.SR.map z0s)::pt a34 (.cells (cZ b0 z1) T.a1)::slc T.a3 4 z1 ((zv b0).rs.flatMap zx)::lgP lg ⟨d,qP,s,g,l'⟩::dk d D::z0p pool::r) c.x 4 (c.rs.flatMap zx):=λc hc=>by
     rw [List.mem_singleton.1 hc]
     show FocR _ z1 4 ((zv b0).rs.flatMap zx)
     infer_instance
    refine za (zan (R:=R) (z:=zR) (a:=a43) (g1:=0) (g2:=0) y1 [(zv b0).at z1] inferInstance (λs hs=>z6k hs) (by show 1<=100000;omega) inferInstance hbF hs) λ_ w' hs=>?_
    rcases hs with ⟨he,rfl,hs⟩|⟨he,y3,rfl,hs⟩
    ·refine zd ?_
     refine wp_lt ?_
     refine zi ?_
     exact zh ⟨rfl,hfin hs.sub⟩
    ·refine ⟨(y3,0,()),rfl,trivial,z33 _ _ ?_⟩
     refine wp_lt ?_
     refine zi ?_
     exact zh ⟨by rw [he],hfin hs.sub⟩
  clear hs
  rintro _ w ⟨rfl,hs⟩
  refine zk ?_
  refine zt hs ?_
  refine z1w hs (enc:=zj) ((zv b0).at z1) λy1 w' hs=>?_
  obtain ⟨k1,k2,k3⟩:=hI.cpl.len
  refine za (zi9 (lg:=lg) (A:=⟨d,qP,s,g,l'⟩) (D:=D) y1 [(zv b0).at z1] (by show l'.length<=_;omega) hI.cpl.segs (λt ht=>by have:=k3 t ht;omega) (by show 1<=900;omega) inferInstance (λc hc=>by rw [List.mem_singleton.1 hc];show FocR _ z1 4 ((zv b0).rs.flatMap zx);infer_instance) hs) λ_ w' hs=>?_
  obtain ⟨rfl,hs⟩:=hs
  have hs:Sat w' (lgP lg ⟨d,qP,s,g,(z0j qP s l' D [(zv b0).at z1]).2.1⟩::dk d (z0j qP s l' D [(zv b0).at z1]).2.2::slc T.a1 7 y1 ([(zv b0).at z1].flatMap zj)::pt a34 (.cells (cZ b0 z1) T.a1)::slc T.a3 4 z1 ((zv b0).rs.flatMap zx)::rfP a6 R::z0p pool::r):=hs
  refine ⟨((z0j qP s l' D [(zv b0).at z1]).1.1,(z0j qP s l' D [(zv b0).at z1]).1.2,()),rfl,trivial,z33 _ _ ?_⟩
  refine wp_lt ?_
  refine wp_lt ?_
  have hpc:=zdj [(zv b0).at z1] (zr l')
  rcases zu4 s [(zv b0).at z1] z6c hI.cpl with ⟨e1,e2⟩|⟨-,-,-,-,e5⟩|⟨e1,e2,e3,e4,e5⟩
  ·have e9:(z0j qP s l' D [(zv b0).at z1]).1.2=(zq (zr l') [(zv b0).at z1]).1:=by rw [e1];exact zvv (by simp)
   rw [e9]
   refine z0g ?_ (by omega)
   refine z0g ?_ (by rw [hI.next];simp)
   refine zt hs ?_
   refine z1w hs (enc:=zj) ((zv b0).at z1) λy2 w' hs=>?_
   refine za (zce (a:=a6) (R:=R) y2 [(zv b0).at z1] (by have:=hI.srl;omega) (by have:=hI.brl;omega) (by rw [hI.rseg];omega) (by show 1<=900;omega) inferInstance (λc hc=>by rw [List.mem_singleton.1 hc];show FocR _ z1 4 ((zv b0).rs.flatMap zx);infer_instance) hs) λ_ w' hs=>?_
   obtain ⟨rfl,R',q1,q2,q3,q4,q5,q6,-,hs⟩:=hs
   refine ⟨((z0m R.seg R.l [(zv b0).at z1]).1.1,(z0m R.seg R.l [(zv b0).at z1]).1.2,()),rfl,trivial,z33 _ _ ?_⟩
   have q6':∀ b ∈ R'.bs,b ∈ R.bs\/(b.x=z1/\b.rs=(zv b0).rs):=λb hb=>by
    rcases q6 b hb with h|⟨c,hc,h1,h2⟩
    ·exact .inl h
    ·rw [List.mem_singleton.1 hc] at h1 h2
     exact .inr ⟨h1,h2⟩
   have hI2:=hI.step (z:=z1) (z':=z1) (by omega) e1 e2 q1 q3 q4 q5 q6'
   generalize (z0j qP s l' D [(zv b0).at z1]).2.2=D2 at hI2 hs
   generalize (z0j qP s l' D [(zv b0).at z1]).2.1=l2 at hI2 hs
   have hs:Sat w' (slc T.a3 4 z1 ((zv b0).rs.flatMap zx)::z0p pool::lgP lg ⟨d,qP,s,g,l2⟩::dk d D2::rfP a6 R'::r):=hs.sub
   have hs:=zii hs
   have hs:Sat w' (lgP lg ⟨d,qP,s,g,l2⟩::dk d D2::rfP a6 R'::z0p (pool++[(zv b0).at z1])::r):=hs.sub
   refine zp (λq w'=>∃ (q0:Bool) (D3:DiskA) (n3:Nat),q=(q0,())/\((q0=false/\n3=n)\/(q0=true/\n3=R'.bs.length))/\FilI s (i+1) D3 l2 R' (pool++[(zv b0).at z1]) n3 C/\Sat w' (lgP lg ⟨d,qP,s,g,l2⟩::dk d D3::rfP a6 R'::z0p (pool++[(zv b0).at z1])::r)) ?_ ?_
   ·refine zd5 hs (xs:=ss) (enc:=z7d) (ss[i]?.getD false) (λhg=>?_) ?_
    ·have hg:(i:Int)<((sy.len:Nat):Int):=by simpa using hg
     have hil2:i<ss.length:=by omega
     exact ⟨i,hil2,rfl,by rw [List.getElem?_eq_getElem hil2];rfl⟩
    refine zg (λhsync=>?_) λhsync=>?_
    rotate_left
    ·exact zh ⟨false,D2,n,rfl,.inl ⟨rfl,rfl⟩,hI2,hs⟩
    obtain ⟨k1,-,-⟩:=hI2.cpl.len
    refine za (zk4 (lg:=lg) (A:=⟨d,qP,s,g,l2⟩) (D:=D2) (by show l2.length<=_;omega) hI2.cpl.segs hs) λ_ w' hs=>?_
    obtain ⟨rfl,hs⟩:=hs
    have hs:Sat w' (lgP lg ⟨d,qP,s,g,l2⟩::dk d (z0h qP l2 D2).2::rfP a6 R'::z0p (pool++[(zv b0).at z1])::r):=hs
    refine zd ?_
    obtain ⟨y1',y2',y3',y4',-⟩:=z5y hI2.cpl
    obtain ⟨u1',u2'⟩:=hI2.syn.sync hI2.cpl
    have hst:=zhm hI2.cpl
    have hbase:∀ n3,z7p qP l2 (z0h qP l2 D2).2 n3->FilI s (i+1) (z0h qP l2 D2).2 l2 R' (pool++[(zv b0).at z1]) n3 C:=λn3 hn3=>⟨y1',hn3,hI2.rseg,hI2.segs,hI2.srl,hI2.brl,hI2.all,hI2.next,hI2.rep,y2'.room.trans hI2.room,by have:=hI2.used;omega,by have:=hI2.len;omega,hI2.in1,λc=>hst.2.2.2.2 (hI2.calm c)⟩
    by_cases h0:(z0h qP l2 D2).1=0
    ·refine zh ⟨true,(z0h qP l2 D2).2,R'.bs.length,by rw [h0];rfl,.inr ⟨rfl,rfl⟩,hbase _ ?_,hs⟩
     have:=congrArg List.length hI2.all
     rw [List.length_map] at this
     rw [this]
     exact (u2' h0).1
    ·refine zh ⟨false,(z0h qP l2 D2).2,n,?_,.inl ⟨rfl,rfl⟩,hbase _ u1',hs⟩
     refine Prod.ext ?_ rfl
     show ((z0h qP l2 D2).1 == 0)=false
     simpa using h0
   clear hs
   rintro _ w ⟨q,D3,n3,rfl,hq,hI3,hs⟩
   refine zk ?_
   have hok3:okR R' (z0p (pool++[(zv b0).at z1])::r):=zad hI3.segs (by have:=hI3.srl;omega) (by have:=hI3.brl;omega) hI3.in1
   refine zp (λq w'=>q=((n3:Int),())/\Sat w' (lgP lg ⟨d,qP,s,g,l2⟩::dk d D3::rfP a6 R'::z0p (pool++[(zv b0).at z1])::r)) ?_ ?_
   ·rcases hq with ⟨hq,rfl⟩|⟨hq,rfl⟩
    ·subst hq
     refine z0g ?_ (by simp)
     exact zh ⟨rfl,hs⟩
    ·subst hq
     refine z17 ?_ (by simp)
     refine za (zg4 (a:=a6) (R:=R') hs) λ_ w' hs=>?_
     obtain ⟨y,rfl,hs⟩:=hs
     refine zd ?_
     have hly:=hs.slen y (xs:=R'.bs) (enc:=zj)
     refine wp_lt ?_
     have hs:Sat w' (slc T.a1 7 y (R'.bs.flatMap zj)::rfP a6 R'::lgP lg ⟨d,qP,s,g,l2⟩::dk d D3::z0p (pool++[(zv b0).at z1])::r):=hs
     exact zh ⟨by rw [hly],hs.sub⟩
   clear hs hq
   rintro _ w ⟨rfl,hs⟩
   refine zk ?_
   rw [wS (i:=i) (by omega)]
   exact z0n (bs.length-(i+1)) ⟨i+1,n3,D3,l2,R',_,rfl,by omega,by omega,rfl,hI3,hs⟩
  ·exfalso
   have:=zdy b0 z1 (zr l')
   have:=z5k (zr l') 0
   omega
  ·rw [e1]
   refine z17 ?_ (by simp)
   refine zt hs ?_
   refine z1w hs (enc:=zj) ((zv b0).at z1) λy2 w' hs=>?_
   refine za (zce (a:=a6) (R:=R) y2 [(zv b0).at z1] (by have:=hI.srl;omega) (by have:=hI.brl;omega) (by rw [hI.rseg];omega) (by show 1<=900;omega) inferInstance (λc hc=>by rw [List.mem_singleton.1 hc];show FocR _ z1 4 ((zv b0).rs.flatMap zx);infer_instance) hs) λ_ w' hs=>?_
   obtain ⟨rfl,R',q1,q2,q3,q4,q5,q6,q7,hs⟩:=hs
   refine ⟨((z0m R.seg R.l [(zv b0).at z1]).1.1,(z0m R.seg R.l [(zv b0).at z1]).1.2,()),rfl,trivial,z33 _ _ ?_⟩
   have q6':∀ b ∈ R'.bs,b ∈ R.bs\/(b.x=z1/\b.rs=(zv b0).rs):=λb hb=>by
    rcases q6 b hb with h|⟨c,hc,h1,h2⟩
    ·exact .inl h
    ·rw [List.mem_singleton.1 hc] at h1 h2
     exact .inr ⟨h1,h2⟩
   have hE:=hI.fail (z:=z1) (z':=z1) (by omega) e2 e5 q3 q5 q6'
   rw [e2] at hs
   generalize (z0j qP s l' D [(zv b0).at z1]).2.2=D2 at hE hs
   have hs:Sat w' (slc T.a3 4 z1 ((zv b0).rs.flatMap zx)::z0p pool::lgP lg ⟨d,qP,s,g,l'⟩::dk d D2::rfP a6 R'::r):=hs.sub
   have hs:=zii hs
   exact zn (zh ⟨R',D2,l',_,n,rfl,hE,q7.segs,by have:=hI.srl;omega,hs.sub⟩)
end
theorem ztu {pre:ByteArray} {l:List SegA} {D:DiskA} (h:Cpl pre l D) (n:Int) (hn : -9223372036854775808<=n/\n<=9223372036854775807):Cpl pre l (z5p D n) :=
 h.same (zjo h.ok n hn) λm _=>by rw [(zgt D n).1]
def zqc (pre:ByteArray) (D:DiskA):Prop:=∀ n,(zu D.fs n).isSome=true->(bl (z13 pre)).isPrefixOf (bl n)=true
theorem Fr.allQ {pre:ByteArray} {D D':DiskA} (h:Fr pre D D') (ha:zqc pre D):zqc pre D':=λn hn=>by
 cases hx:(bl (z13 pre)).isPrefixOf (bl n) with
 | true=>rfl
 | false =>
  rw [h.other n hx] at hn
  rw [ha n hn] at hx;cases hx
theorem Cpl.exact {pre:ByteArray} {l:List SegA} {D:DiskA} (h:Cpl pre l D) (ha:zqc pre D):D.fs.length=l.length/\used D.fs=z2f l:=by
 have hn:=h.names
 have hfil:D.fs.filter (λf=>(bl (z13 pre)).isPrefixOf (bl f.name))=D.fs:=List.filter_eq_self.2 λf hf=>by
  have h1:=z5x (z1j h.ok.sorted) hf
  exact ha f.name (by rw [h1];rfl)
 have e:D.fs.map (·.name)=l.map λs=>ze pre s.base zo:=by
  rw [<- hn]
  conv=>lhs;rw [<- hfil]
  unfold z11
  rw [List.filter_map]
  congr 1
  apply List.filter_congr
  intro f _
  show _=Go.Proofs.YtfnldnodhfkojaaGreat.preF (z13 pre) f.name
  rw [zgq]
 have hs:=zci e λf hf s hs hfs=>by
  have h1:=z5x (z1j h.ok.sorted) hf
  obtain ⟨k,hk⟩:=h.has s hs
  rw [hfs,hk] at h1
  simp only [Option.some.injEq,Prod.mk.injEq] at h1
  exact h1.1.symm
 have hl:=congrArg List.length e
 rw [List.length_map,List.length_map] at hl
 exact ⟨hl,hs⟩
structure PlP (k:Nat) (l:List SegA) (D:DiskA):Prop where
 cpl:Cpl qP l D
 calm:Calm D
 all:zqc qP D
 room:D.room=1048576
 sum:z2f l<=2100*k
 len:l.length<=k
 bs:(z0e l).length<=3*k
 next:zr l<=200*k
theorem PlP.free {k:Nat} {l:List SegA} {D:DiskA} (h:PlP k l D) (hk:k<=41):D.fs.length<=41/\900000<=D.free:=by
 obtain ⟨h1,h2⟩:=h.cpl.exact h.all
 have:=h.sum
 have:=h.len
 have:=h.room
 unfold DiskA.free
 omega
theorem PlP.mono {k k':Nat} {l:List SegA} {D:DiskA} (h:PlP k l D) (hk:k<=k'):PlP k' l D :=
 ⟨h.cpl,h.calm,h.all,h.room,by have:=h.sum;omega,by have:=h.len;omega,by have:=h.bs;omega,by have:=h.next;omega⟩
theorem zvw {s:Int} {l:List SegA} {bs:List BatM} (hok:z0b 0 l):(z0m s l bs).2.length<=l.length+1/\(z0e (z0m s l bs).2).length<=(z0e l).length+bs.length:=by
 by_cases h:bs=[]\/(zq (zr l) bs).1≠0
 ·rw [(z7u h).1];omega
 ·have hb:bs≠[]:=λe=>h (.inl e)
  have hp:(zq (zr l) bs).1=0:=Decidable.not_not.1 λe=>h (.inr e)
  rw [(z7r (seg:=s) hok hb hp).1,List.length_append,List.length_map]
  refine ⟨?_,?_⟩
  ·unfold z0m
   split
   ·simp only;omega
   split
   ·simp only;omega
   simp only
   split
   ·rename_i hr
    have hne:l≠[]:=by rintro rfl;cases hr
    obtain ⟨l0,s,rfl⟩:=z2d hne
    rw [z30]
    simp
   ·simp
  ·have:∀ (bs:List BatM) (n:Int),(zq n bs).2.length<=bs.length:=by
    intro bs
    induction bs with
    | nil=>intro n;exact Nat.le_refl _
    | cons b bs ih =>
     intro n
     unfold zq
     split
     ·exact Nat.zero_le _
     split
     ·exact Nat.zero_le _
     ·rename_i h1 h2
      simp only [List.length_cons]
      exact Nat.succ_le_succ (ih _)
   have:=this bs (zr l)
   omega
theorem PlP.stp {k:Nat} {l l':List SegA} {D D':DiskA} (h:PlP k l D) (hs:Stp qP l D l' D') (h1:z2f l'<=z2f l+2100) (h2:l'.length<=l.length+1) (h3:(z0e l').length<=(z0e l).length+3) (h4:zr l'<=zr l+200):PlP (k+1) l' D' :=
 ⟨hs.1,hs.2.2.2.2 h.calm,hs.2.1.allQ h.all,by rw [hs.2.1.room];exact h.room,by have:=h.sum;omega,by have:=h.len;omega,by have:=h.bs;omega,by have:=h.next;omega⟩
theorem zfv:∀ {bs:List BatM} {n:Int},(zq n bs).1=0->bs≠[]->z0c ((zq n bs).2.map BatM.p)<=n+64*(bs.length:Int)
 | [],_,_,h=>absurd rfl h
 | b::bs,n,hp,_=>by
  unfold zq at hp ⊢
  split at hp
  ·rename_i hv;exact absurd hp hv
  rename_i hv
  have hv:=Decidable.not_not.1 hv
  have h64:z01 (b.to n)<=64:=znq hv
  have h64:z01 b<=64:=h64
  split at hp
  ·rename_i hv2;exact absurd hp hv2
  rename_i h2
  have h2:=Decidable.not_not.1 h2
  rw [if_neg (by rw [hv];simp),if_neg (by rw [h2];simp)]
  simp only [List.length_cons,List.map_cons]
  by_cases hb:bs=[]
  ·subst hb
   show (b.to n).p.base+z01 (b.to n).p<=_
   have e1:(b.to n).p.base=n:=rfl
   have e2:z01 (b.to n).p=z01 b:=rfl
   simp only [List.length_nil]
   omega
  ·have hi:=zfv h2 hb
   have hne:(zq (n+z01 b) bs).2.map BatM.p≠[]:=λe=>by
    have h3:=(z74 h2).1
    have e:=List.map_eq_nil_iff.1 e
    rw [e] at h3
    cases bs with
    | nil=>exact hb rfl
    | cons=>simp at h3
   obtain ⟨c,cs,hc⟩:=List.exists_cons_of_ne_nil hne
   rw [hc] at hi ⊢
   have e:z0c ((b.to n).p::c::cs)=z0c (c::cs):=rfl
   rw [e]
   omega
theorem ztw {s:Int} {l:List SegA} {bs:List BatM} (h:z0b 0 l):zr (z0m s l bs).2<=zr l+64*(bs.length:Int):=by
 by_cases hq:bs=[]\/(zq (zr l) bs).1≠0
 ·rw [(z7u hq).1];omega
 ·have hb:bs≠[]:=λe=>hq (.inl e)
  have hp:(zq (zr l) bs).1=0:=Decidable.not_not.1 λe=>hq (.inr e)
  rw [(z7r (seg:=s) h hb hp).2]
  exact zfv hp hb
theorem PlP.app {k:Nat} {l:List SegA} {D:DiskA} (s:Int) {bs:List BatM} (h:PlP k l D) (hk:k<=40) (hbs:((zq (zr l) bs).2.flatMap frL).length<=2028) (h3:bs.length<=3) :
  (z0j qP s l D bs).1=(z0m s l bs).1/\(z0j qP s l D bs).2.1=(z0m s l bs).2/\PlP (k+1) (z0m s l bs).2 (z0j qP s l D bs).2.2:=by
 obtain ⟨f1,f2⟩:=h.free (by omega)
 have hsl:=z5k (zr l) 0
 have hst:=zeq s bs z6c h.cpl
 have hsum:=zkj (seg:=s) (l:=l) (bs:=bs)
 obtain ⟨n1,n2⟩:=zvw (s:=s) (bs:=bs) h.cpl.segs
 rcases zsm s bs z6c h.cpl h.calm with ⟨e1,e2⟩|⟨-,-,-,-,h5|h5⟩
 ·rw [e2] at hst
  have hna:=ztw (s:=s) (bs:=bs) h.cpl.segs
  exact ⟨e1,e2,h.stp hst (by omega) n1 (by omega) (by omega)⟩
 ·omega
 ·omega
theorem zlq (a b:List SegA):z2f (a++b)=z2f a+z2f b:=by simp [z2f]
theorem zlf (a b:List SegA):z0e (a++b)=z0e a++z0e b:=by simp [z0e]
theorem zst (l:List SegA) (k:Nat):z2f l=z2f (l.take k)+z2f (l.drop k)/\(z0e l).length=(z0e (l.take k)).length+(z0e (l.drop k)).length:=by
 have e:=List.take_append_drop k l
 constructor
 ·rw [<- zlq,e]
 ·rw [<- List.length_append,<- zlf,e]
section
variable {w:World} {l r:List HP} {rr:Nat} {R:RefM}
theorem zyj (i:Nat) (h:i<R.SR.length):((R.SR.take i).flatMap SegR.bs).length+R.SR[i].bs.length<=R.bs.length:=by
 unfold RefM.bs
 have e:R.SR=R.SR.take i++R.SR[i]::R.SR.drop (i+1):=by rw [<- List.drop_eq_getElem_cons h,List.take_append_drop]
 have:=congrArg (λx:List SegR=>(x.flatMap SegR.bs).length) e
 simp only [List.flatMap_append,List.flatMap_cons,List.length_append] at this
 omega
theorem z029 (n:Int) (ky:Sl) (ks:List Bool) [hf:Fo l rfP rr R r] (hk:FocR r ky 1 (ks.flatMap z7d)) (hsl:R.SR.length<=1000000) (hbl:R.bs.length<=1000000) (hs:Sat w l) :
  Ret P F.a106 #[.pointer (some ⟨rr,0,none⟩),.int .i64 n,ky.v] w λvs w'=>∃ (k:Nat) (upto:Int) (y:Sl) (outs:List BatM),vs=[.int .i64 upto,y.v] /\
   ((upto=0/\outs=[]/\R.SR.length<2)\/(0<k/\∃ h:k<R.SR.length,upto=R.SR[k].base/\outs.Sublist ((R.SR.take k).flatMap SegR.bs)))/\Sat w' (slc T.a1 7 y (outs.flatMap zj)::rfP rr R::r) :=
 zm7 _ n ky <| by
  unfold zw3
  obtain ⟨z,hs⟩:=z5a (hs.perm hf.perm)
  clear hf
  have hlz:=hs.slen z (xs:=R.SR) (enc:=z06)
  have hlk:=(show Sat w r from hs.tail.tail.tail).slen ky (xs:=ks) (enc:=z7d)
  refine zm ?_
  refine zb hs ?_
  refine zg (λh2=>?_) λh2=>?_
  ·exact ⟨rfl,0,0,⟨none,0,0⟩,[],rfl,.inl ⟨rfl,rfl,by omega⟩,(z2h R hs).slc_nil⟩
  refine zm ?_
  refine zb hs ?_
  have ew:IntKind.wrap .i64 (((z.len:Nat):Int)-1)=((R.SR.length-1:Nat):Int):=by rw [w64 (by omega) (by omega)];omega
  rw [ew]
  refine wp_must (by omega) ?_
  have hL:(0:Int)<((R.SR.length-1:Nat):Int):=by omega
  have hm1:=Int.tmod_lt_of_pos n hL
  have hm2 : -((R.SR.length-1:Nat):Int)<Int.tmod n ((R.SR.length-1:Nat):Int):=by
   have h1:=Int.neg_tmod n ((R.SR.length-1:Nat):Int)
   have h2:=Int.tmod_lt_of_pos (-n) hL
   omega
  generalize Int.tmod n ((R.SR.length-1:Nat):Int)=t at *
  refine wp_lt ?_
  refine zp (λq w'=>q=((t.natAbs:Int),())/\Sat w' (pt rr (.cells #[.int .i64 R.seg,.int .i64 R.gap,.slice z.a z.len z.cap] T.a32)::slc T.a33 3 z (R.SR.flatMap z06)::HP.all (R.SR.map z0s)::r)) ?_ ?_
  ·refine zg (λh=>?_) λh=>?_
   ·refine wp_lt ?_
    exact zh ⟨by rw [w64 (by omega) (by omega)];refine Prod.ext ?_ rfl;show (0:Int)-t=_;omega,hs⟩
   ·exact zh ⟨by refine Prod.ext ?_ rfl;show t=_;omega,hs⟩
  have hmL:t.natAbs+1<R.SR.length:=by omega
  clear hs
  rintro _ w ⟨rfl,hs⟩
  refine zk ?_
  generalize t.natAbs=m at *
  refine zp (λq w'=>∃ (y:Sl) (outs:List BatM),q=(y,())/\outs.Sublist ((R.SR.take (m+1)).flatMap SegR.bs)/\Sat w' (slc T.a1 7 y (outs.flatMap zj)::pt rr (.cells #[.int .i64 R.seg,.int .i64 R.gap,.slice z.a z.len z.cap] T.a32)::slc T.a33 3 z (R.SR.flatMap z06)::HP.all (R.SR.map z0s)::r)) ?_ ?_
  ·have hs:Sat w (slc T.a1 7 ⟨none,0,0⟩ (([]:List BatM).flatMap zj)::_):=hs.slc_nil
   refine z08 (λmm v w=>∃ (i c:Nat) (y:Sl) (outs:List BatM),v=(y,((c:Int),((i:Int),())))/\i<=m+1/\c<=((R.SR.take i).flatMap SegR.bs).length/\m+1-i=mm/\outs.Sublist ((R.SR.take i).flatMap SegR.bs)/\Sat w (slc T.a1 7 y (outs.flatMap zj)::pt rr (.cells #[.int .i64 R.seg,.int .i64 R.gap,.slice z.a z.len z.cap] T.a32)::slc T.a33 3 z (R.SR.flatMap z06)::HP.all (R.SR.map z0s)::r)) (m+1) ⟨0,0,⟨none,0,0⟩,[],rfl,by omega,by omega,rfl,.slnil,hs⟩ ?_
   clear hs
   rintro mm _ w ⟨i,c,y,outs,rfl,hi,hc,hmm,hsub,hs⟩
   refine zk ?_
   refine zg (λhci=>?_) λhci=>?_
   rotate_left
   ·have e:i=m+1:=by omega
    subst e
    exact zn (zh ⟨y,outs,rfl,hsub,hs⟩)
   have hil:i<R.SR.length:=by omega
   have htb:=zyj (R:=R) i hil
   have e1:(R.SR.take (i+1)).flatMap SegR.bs=(R.SR.take i).flatMap SegR.bs++R.SR[i].bs:=by
    rw [List.take_succ_eq_append_getElem hil,List.flatMap_append];simp
   refine zp (λq w'=>∃ (c':Nat) (y':Sl) (outs':List BatM),q=(y',((c':Int),()))/\c'<=((R.SR.take (i+1)).flatMap SegR.bs).length/\outs'.Sublist ((R.SR.take (i+1)).flatMap SegR.bs)/\Sat w' (slc T.a1 7 y' (outs'.flatMap zj)::pt rr (.cells #[.int .i64 R.seg,.int .i64 R.gap,.slice z.a z.len z.cap] T.a32)::slc T.a33 3 z (R.SR.flatMap z06)::HP.all (R.SR.map z0s)::r)) ?_ ?_
   ·refine zm ?_
    refine zb hs ?_
    have hR:FocR (HP.all (R.SR.map z0s)::r) R.SR[i].x 7 (R.SR[i].bs.flatMap zj):=z6k (List.getElem_mem hil)
    have hlx:=(hs.tail.tail.tail).slen R.SR[i].x (xs:=R.SR[i].bs) (enc:=zj)
    refine zal hs (xs:=R.SR) (enc:=z06) i hil ?_
    refine zp (λq w'=>∃ (c':Nat) (y':Sl) (outs':List BatM),q=(y',((c':Int),()))/\c'<=((R.SR.take (i+1)).flatMap SegR.bs).length/\outs'.Sublist ((R.SR.take (i+1)).flatMap SegR.bs)/\Sat w' (slc T.a1 7 y' (outs'.flatMap zj)::pt rr (.cells #[.int .i64 R.seg,.int .i64 R.gap,.slice z.a z.len z.cap] T.a32)::slc T.a33 3 z (R.SR.flatMap z06)::HP.all (R.SR.map z0s)::r)) ?_ ?_
    rotate_left
    ·rintro _ w ⟨c',y',outs',rfl,h1,h2,hs⟩
     refine zk ?_
     exact zh ⟨c',y',outs',rfl,h1,h2,hs⟩
    refine z08 (λmm v w=>∃ (j c':Nat) (y':Sl) (outs':List BatM),v=(y',((c':Int),((j:Int),())))/\j<=R.SR[i].bs.length/\c'<=((R.SR.take i).flatMap SegR.bs).length+j/\R.SR[i].bs.length-j=mm/\outs'.Sublist ((R.SR.take i).flatMap SegR.bs++R.SR[i].bs.take j)/\Sat w (slc T.a1 7 y' (outs'.flatMap zj)::pt rr (.cells #[.int .i64 R.seg,.int .i64 R.gap,.slice z.a z.len z.cap] T.a32)::slc T.a33 3 z (R.SR.flatMap z06)::HP.all (R.SR.map z0s)::r)) R.SR[i].bs.length ⟨0,c,y,outs,rfl,by omega,by omega,rfl,by simpa using hsub,hs⟩ ?_
    clear hs
    rintro mm2 _ w ⟨j,c',y',outs',rfl,hj,hc',hmm2,hsub',hs⟩
    refine zk ?_
    refine zg (λhcj=>?_) λhcj=>?_
    rotate_left
    ·have hcj:¬ ((j:Int)<((R.SR[i].x.len:Nat):Int)):=hcj
     have hle:R.SR[i].bs.length<=j:=by omega
     refine zn (zh ⟨c',y',outs',rfl,by rw [e1,List.length_append];omega,?_,hs⟩)
     rw [e1]
     rwa [List.take_of_length_le hle] at hsub'
    have hcj:(j:Int)<((R.SR[i].x.len:Nat):Int):=hcj
    have hjl:j<R.SR[i].bs.length:=by omega
    have e2:R.SR[i].bs.take (j+1)=R.SR[i].bs.take j++[R.SR[i].bs[j]]:=List.take_succ_eq_append_getElem hjl
    have hol:=hsub'.length_le
    rw [List.length_append,List.length_take] at hol
    refine z1p hs (xs:=R.SR[i].bs) (enc:=zj) j hjl ?_
    generalize R.SR[i].bs[j]=b at *
    refine zy hs λa30 w' hs=>?_
    refine z03 hs λw' hs=>?_
    refine zd5 hs (xs:=ks) (enc:=z7d) (ks[c']?.getD false) (λhg=>?_) ?_
    ·have hg:¬ ((ky.len:Nat):Int)<=(c':Int):=by simpa using hg
     have hil2:c'<ks.length:=by omega
     exact ⟨c',hil2,rfl,by rw [List.getElem?_eq_getElem hil2];rfl⟩
    refine zp (λq w'=>∃ (y2:Sl) (outs2:List BatM),q=(y2,())/\outs2.Sublist ((R.SR.take i).flatMap SegR.bs++R.SR[i].bs.take (j+1))/\Sat w' (slc T.a1 7 y2 (outs2.flatMap zj)::pt rr (.cells #[.int .i64 R.seg,.int .i64 R.gap,.slice z.a z.len z.cap] T.a32)::slc T.a33 3 z (R.SR.flatMap z06)::HP.all (R.SR.map z0s)::r)) ?_ ?_
    ·refine zg (λh=>?_) λh=>?_
     ·refine zt hs ?_
      refine z1w hs (enc:=zj) b λy2 w' hs=>?_
      refine wp_app' (xs:=outs') (ys:=[b]) (enc:=zj) hs (λy3 w' hs=>?_) (by simp only [List.length_cons,List.length_nil];omega)
      refine zh ⟨y3,outs'++[b],rfl,?_,hs.sub⟩
      rw [e2,<- List.append_assoc]
      exact hsub'.append (List.Sublist.refl _)
     ·refine zh ⟨y',outs',rfl,?_,hs.sub⟩
      rw [e2,<- List.append_assoc]
      exact hsub'.trans (List.sublist_append_left _ _)
    clear hs
    rintro _ w ⟨y2,outs2,rfl,hsub2,hs⟩
    refine zk ?_
    rw [show IntKind.wrap .i64 ((c':Int)+1)=((c'+1:Nat):Int) by rw [w64 (by omega) (by omega)];omega]
    refine wp_lt ?_
    rw [wS (i:=j) (by omega)]
    exact z0n (R.SR[i].bs.length-(j+1)) ⟨j+1,c'+1,y2,outs2,rfl,by omega,by omega,rfl,hsub2,hs⟩
   clear hs
   rintro _ w ⟨c',y',outs',rfl,hc',hsub',hs⟩
   refine zk ?_
   rw [wS (i:=i) (by omega)]
   refine wp_lt ?_
   exact z0n (m+1-(i+1)) ⟨i+1,c',y',outs',rfl,by omega,hc',rfl,hsub',hs⟩
  clear hs
  rintro _ w ⟨y,outs,rfl,hsub,hs⟩
  refine zk ?_
  rw [wS (i:=m) (by omega)]
  refine zm ?_
  refine zb hs ?_
  refine zal hs (xs:=R.SR) (enc:=z06) (m+1) hmL ?_
  refine wp_lt ?_
  exact ⟨rfl,m+1,R.SR[m+1].base,y,outs,rfl,.inr ⟨by omega,hmL,rfl,hsub⟩,(z2h R (hs.pick [1,1,1])).pick [1]⟩
end
theorem z012 {a b:List BatM} (h:a.Sublist b):(a.flatMap frL).length<=(b.flatMap frL).length:=by
 induction h with
 | slnil=>exact Nat.le_refl _
 | cons x _ ih=>rw [List.flatMap_cons,List.length_append];omega
 | cons_cons x _ ih=>rw [List.flatMap_cons,List.flatMap_cons,List.length_append,List.length_append];omega
theorem zze (bs:List BatM):(bs.map BatM.p).flatMap frL=bs.flatMap frL:=by
 rw [List.flatMap_map];rfl
theorem zns:∀ l:List SegA,((z0e l).flatMap frL).length<=z2f l
 | []=>Nat.le_refl _
 | s::l=>by
  have ih:=zns l
  have e1:z0e (s::l)=s.bs++z0e l:=by simp [z0e]
  have e2:z2f (s::l)=s.file.length+z2f l:=by simp [z2f]
  have e3:=z2a s
  rw [e1,e2,List.flatMap_append,List.length_append]
  omega
theorem zts {R:RefM} (k:Nat):((R.SR.take k).flatMap SegR.bs).map BatM.p=z0e (R.l.take k):=by
 unfold RefM.l z0e
 rw [<- List.map_take,List.flatMap_map,List.map_flatMap]
 rfl
theorem zxv {R:RefM} {k:Nat} {outs:List BatM} (h:outs.Sublist ((R.SR.take k).flatMap SegR.bs)):(outs.flatMap frL).length<=z2f (R.l.take k)/\outs.length<=(z0e (R.l.take k)).length:=by
 have h1:=z012 h
 have h2:=zns (R.l.take k)
 rw [<- zts,zze] at h2
 have h3:=h.length_le
 have h4:=congrArg List.length (zts (R:=R) k)
 rw [List.length_map] at h4
 omega
theorem zu7 (fg upto:Int) (bs:List BatM):((⟨fg,upto,[]⟩:SegA).add bs).file.length<=29+(bs.flatMap frL).length:=by
 have h1:=z5k fg upto
 rw [z4x]
 rw [List.length_append]
 show ((⟨fg,upto,[]⟩:SegA).file).length+_<=_
 have e:(⟨fg,upto,[]⟩:SegA).file=shL fg upto:=by simp [SegA.file]
 rw [e]
 omega
section
variable {w:World} {l r:List HP} {lg rr:Nat} {R:RefM} {A:LogA} {D:DiskA}
theorem zxo (b c:BatM) [hb:FocR l b.x 4 (b.rs.flatMap zx)] [hc:FocR l c.x 4 (c.rs.flatMap zx)] (hlen:b.rs.length<=1000000000) (hs:Sat w l):Ret P F.a118 #[.agg (zj b).toArray,.agg (zj c).toArray] w λvs w'=>(∃ q:Bool,vs=[.bool q])/\Sat w' l :=
 ze4 b.base b.pid b.epoch b.seq b.kind b.time b.x c.base c.pid c.epoch c.seq c.kind c.time c.x <| by
  unfold zpa
  have hl1:=hs.slen b.x (xs:=b.rs) (enc:=zx)
  have hl2:=hs.slen c.x (xs:=c.rs) (enc:=zx)
  refine z00 hs λa0 w' hs=>?_
  refine z00 hs λa1 w' hs=>?_
  refine zb hs ?_
  refine zb hs ?_
  refine zg (λh=>?_) λh=>?_
  ·exact ⟨rfl,⟨false,rfl⟩,hs.tail.tail⟩
  have hll:b.rs.length=c.rs.length:=by omega
  refine zb hs ?_
  refine zp (λ_ w'=>Sat w' (pt a1 (.cells [.int .i64 c.base,.int .i64 c.pid,.int .i64 c.epoch,.int .i64 c.seq,.int .i64 c.kind,.int .i64 c.time,.slice c.x.a c.x.len c.x.cap].toArray T.a1)::pt a0 (.cells [.int .i64 b.base,.int .i64 b.pid,.int .i64 b.epoch,.int .i64 b.seq,.int .i64 b.kind,.int .i64 b.time,.slice b.x.a b.x.len b.x.cap].toArray T.a1)::l)) ?_ ?_
  ·refine z08 (λm v w=>∃ i:Nat,v=((i:Int),())/\i<=b.rs.length/\b.rs.length-i=m/\Sat w (pt a1 (.cells [.int .i64 c.base,.int .i64 c.pid,.int .i64 c.epoch,.int .i64 c.seq,.int .i64 c.kind,.int .i64 c.time,.slice c.x.a c.x.len c.x.cap].toArray T.a1)::pt a0 (.cells [.int .i64 b.base,.int .i64 b.pid,.int .i64 b.epoch,.int .i64 b.seq,.int .i64 b.kind,.int .i64 b.time,.slice b.x.a b.x.len b.x.cap].toArray T.a1)::l)) b.rs.length ⟨0,rfl,by omega,rfl,hs⟩ ?_
   clear hs
   rintro m _ w ⟨i,rfl,hi,hm,hs⟩
   refine zk ?_
   refine zg (λhcc=>?_) λhcc=>?_
   rotate_left
   ·exact zn (zh hs)
   have hil:i<b.rs.length:=by omega
   have hil2:i<c.rs.length:=by omega
   refine wp_lt ?_
   refine z07 hs λw' hs=>?_
   refine zb hs ?_
   refine z1p hs (xs:=b.rs) (enc:=zx) i hil ?_
   refine zb hs ?_
   refine z1p hs (xs:=c.rs) (enc:=zx) i hil2 ?_
   refine zi ?_
   refine zg (λh=>?_) λh=>?_
   ·exact zn (zn ⟨rfl,⟨false,rfl⟩,hs.tail.tail⟩)
   rw [wS (i:=i) (by omega)]
   exact z0n (b.rs.length-(i+1)) ⟨i+1,rfl,by omega,rfl,hs⟩
  clear hs
  rintro _ w hs
  refine zk ?_
  refine zb hs ?_
  refine zb hs ?_
  refine zb hs ?_
  refine zb hs ?_
  refine zb hs ?_
  refine zb hs ?_
  refine zb hs ?_
  refine zb hs ?_
  refine zb hs ?_
  refine zb hs ?_
  refine zb hs ?_
  refine zb hs ?_
  refine wp_lt ?_
  exact ⟨rfl,⟨_,rfl⟩,hs.tail.tail⟩
theorem zp3 (x y:Sl) (bs cs:List BatM) (hx:FocR l x 7 (bs.flatMap zj)) (hy:FocR l y 7 (cs.flatMap zj)) (hb:∀ b ∈ bs,FocR l b.x 4 (b.rs.flatMap zx)) (hc:∀ b ∈ cs,FocR l b.x 4 (b.rs.flatMap zx)) (hlen:bs.length<=1000000000) (hrl:∀ b ∈ bs,b.rs.length<=1000000000) (hs:Sat w l) :
  Ret P F.a119 #[x.v,y.v] w λvs w'=>(∃ q:Bool,vs=[.bool q])/\Sat w' l :=
 zdk x y <| by
  unfold zra
  have hl1:=hs.slen x (xs:=bs) (enc:=zj)
  have hl2:=hs.slen y (xs:=cs) (enc:=zj)
  refine zg (λh=>?_) λh=>?_
  ·exact ⟨rfl,⟨false,rfl⟩,hs⟩
  have hll:bs.length=cs.length:=by omega
  refine zp (λ_ w'=>Sat w' l) ?_ ?_
  rotate_left
  ·rintro _ w2 hs
   exact ⟨rfl,⟨true,rfl⟩,hs⟩
  refine z08 (λm v w=>∃ i:Nat,v=((i:Int),())/\i<=bs.length/\bs.length-i=m/\Sat w l) bs.length ⟨0,rfl,by omega,rfl,hs⟩ ?_
  clear hs
  rintro m _ w ⟨i,rfl,hi,hm,hs⟩
  refine zk ?_
  refine zg (λhcc=>?_) λhcc=>?_
  rotate_left
  ·exact zn (zh hs)
  have hil:i<bs.length:=by omega
  have hil2:i<cs.length:=by omega
  have hr1:=hb _ (List.getElem_mem hil)
  have hr2:=hc _ (List.getElem_mem hil2)
  refine wp_lt ?_
  refine z07 hs λw' hs=>?_
  refine z1p hs (xs:=bs) (enc:=zj) i hil ?_
  refine z1p hs (xs:=cs) (enc:=zj) i hil2 ?_
  refine za (zxo bs[i] cs[i] (hrl _ (List.getElem_mem hil)) hs) λ_ w' hs=>?_
  obtain ⟨⟨q,rfl⟩,hs⟩:=hs
  refine zd ?_
  refine zi ?_
  refine zg (λh=>?_) λh=>?_
  ·exact zn (zn ⟨rfl,⟨false,rfl⟩,hs⟩)
  rw [wS (i:=i) (by omega)]
  exact z0n (bs.length-(i+1)) ⟨i+1,rfl,by omega,rfl,hs⟩
theorem z027 {r1 r2:List HP} [hf:Fo l lgP lg A r1] [hf2:Fo r1 dk A.d D r2] [hf3:Fo r2 rfP rr R r] [hok:okR R r] (hsegs:z0b 0 A.l) (hlen:A.l.length<=1000000) (hall:(z0e A.l).length<=1000000) (hhas:zc4 A.pre A.l D) (hs:Sat w l) :
  Ret P F.a108 #[.pointer (some ⟨lg,0,none⟩),.pointer (some ⟨rr,0,none⟩)] w λvs w'=>(∃ q:Bool,vs=[.bool q])/\Sat w' (lgP lg A::dk A.d D::rfP rr R::r) :=
 zdw _ _ <| by
  unfold zp2
  have hs:=hs.perm (hf.perm.trans (.cons _ (hf2.perm.trans (.cons _ hf3.perm))))
  clear hf hf2 hf3
  refine zp (λq w'=>(∃ t:Bool,q=(t,()))/\Sat w' (lgP lg A::dk A.d D::rfP rr R::r)) ?_ ?_
  ·refine z0g ?_ (by simp)
   obtain ⟨M,hM,hs⟩:=z4w hs
   have hMl:M.l=A.l:=congrArg LogA.l hM
   have hll:M.l.length=M.SM.length:=List.length_map ..
   have hback:∀ {w:World},Sat w (lgQ lg M::dk A.d D::rfP rr R::r)->Sat w (lgP lg A::dk A.d D::rfP rr R::r):=λhs=>by
    have hs:=z2w M hs
    rw [hM] at hs
    exact hs
   refine za (za7 (lg:=lg) hs) λ_ w' hs=>?_
   obtain ⟨rfl,hs⟩:=hs
   refine zd ?_
   refine za (zao (a:=rr) hs) λ_ w' hs=>?_
   obtain ⟨rfl,hs⟩:=hs
   refine zd ?_
   refine zg (λh=>?_) λh=>?_
   ·exact zh ⟨⟨true,rfl⟩,hback hs.sub⟩
   refine za (z8z (lg:=lg) (by rw [<- hll,hMl];omega) hs) λ_ w' hs=>?_
   obtain ⟨rfl,hs⟩:=hs
   refine zd ?_
   refine za (zny (a:=rr) hs) λ_ w' hs=>?_
   obtain ⟨rfl,hs⟩:=hs
   refine zd ?_
   refine zg (λh=>?_) λh=>?_
   ·exact zh ⟨⟨true,rfl⟩,hback hs.sub⟩
   have hs:Sat w' (lgQ lg M::dk A.d D::rfP rr R::r):=hs.sub
   have hs:=hback hs
   refine za (zsq (lg:=lg) (A:=A) (D:=D) hsegs hhas hlen hall hs) λ_ w' hs=>?_
   obtain ⟨z,outs,rfl,hmap,hs⟩:=hs
   refine zd ?_
   refine za (zg4 (a:=rr) hs) λ_ w' hs=>?_
   obtain ⟨y,rfl,hs⟩:=hs
   refine zd ?_
   have hs:Sat w' (z0p outs::slc T.a1 7 y (R.bs.flatMap zj)::slc T.a1 7 z (outs.flatMap zj)::lgP lg A::dk A.d D::rfP rr R::r):=hs.sub
   have hol:outs.length<=1000000:=by
    have:=congrArg List.length hmap
    simp only [List.length_map] at this
    omega
   have hvo:∀ b ∈ outs,z02 b=0:=λb hb=>by
    have h1:b.p ∈ z0e A.l:=by rw [<- hmap];exact List.mem_map.2 ⟨b,hb,rfl⟩
    obtain ⟨s,hs,hbs⟩:=List.mem_flatMap.1 h1
    exact ((hsegs.mem s hs).1.bs.valid _ hbs).1
   refine za (zp3 z y outs R.bs inferInstance inferInstance (λb hb=>zd7 hb) (λb hb=>by have:=hok.rd b hb;infer_instance) (by omega) (λb hb=>by have:=(z2l (hvo b hb)).1;omega) hs) λ_ w' hs=>?_
   obtain ⟨⟨q,rfl⟩,hs⟩:=hs
   refine zd ?_
   exact zh ⟨⟨_,rfl⟩,hs.sub⟩
  rintro _ w2 ⟨⟨t,rfl⟩,hs⟩
  refine zk ?_
  refine zg (λh=>?_) λh=>?_
  ·exact ⟨rfl,⟨false,rfl⟩,hs⟩
  obtain ⟨M,hM,hs⟩:=z4w hs
  have hMl:M.l=A.l:=congrArg LogA.l hM
  have hll:M.l.length=M.SM.length:=List.length_map ..
  refine za (zb3 (lg:=lg) (by rw [<- hll,hMl];omega) hs) λ_ w' hs=>?_
  obtain ⟨z,rfl,hs⟩:=hs
  refine zd ?_
  obtain ⟨u,hs⟩:=z5a (hs.pick [3])
  have hls:=hs.slen z (xs:=M.l.map SegA.base) (enc:=z21)
  have hlu:=hs.slen u (xs:=R.SR) (enc:=z06)
  rw [List.length_map] at hls
  refine zm ?_
  refine zb hs ?_
  have hfin:∀ {w:World},Sat w (pt rr (.cells #[.int .i64 R.seg,.int .i64 R.gap,.slice u.a u.len u.cap] T.a32)::slc T.a33 3 u (R.SR.flatMap z06)::HP.all (R.SR.map z0s)::slc T.a11 1 z ((M.l.map SegA.base).flatMap z21)::lgQ lg M::dk A.d D::r)->Sat w (lgP lg A::dk A.d D::rfP rr R::r):=λhs=>by
   have hs:=z2h R hs
   have hs:Sat _ (lgQ lg M::dk A.d D::rfP rr R::r):=hs.sub
   have hs:=z2w M hs
   rw [hM] at hs
   exact hs
  refine zg (λh=>?_) λhne=>?_
  ·exact ⟨rfl,⟨false,rfl⟩,hfin hs⟩
  refine zp (λ_ w'=>Sat w' (lgP lg A::dk A.d D::rfP rr R::r)) ?_ ?_
  rotate_left
  ·rintro _ w3 hs
   exact ⟨rfl,⟨true,rfl⟩,hs⟩
  refine z08 (λm v w=>∃ i:Nat,v=((i:Int),())/\i<=R.SR.length/\R.SR.length-i=m/\Sat w (pt rr (.cells #[.int .i64 R.seg,.int .i64 R.gap,.slice u.a u.len u.cap] T.a32)::slc T.a33 3 u (R.SR.flatMap z06)::HP.all (R.SR.map z0s)::slc T.a11 1 z ((M.l.map SegA.base).flatMap z21)::lgQ lg M::dk A.d D::r)) R.SR.length ⟨0,rfl,by omega,rfl,hs⟩ ?_
  clear hs
  rintro m _ w ⟨i,rfl,hi,hm,hs⟩
  refine zk ?_
  refine zg (λhcc=>?_) λhcc=>?_
  rotate_left
  ·exact zn (zh (hfin hs))
  have hln:=hok.len
  have hil:i<R.SR.length:=by omega
  have hil2:i<(M.l.map SegA.base).length:=by rw [List.length_map];omega
  refine wp_lt ?_
  refine z07 hs λw' hs=>?_
  refine z1k hs (xs:=M.l.map SegA.base) (enc:=z21) i hil2 ?_
  refine zm ?_
  refine zb hs ?_
  refine zal hs (xs:=R.SR) (enc:=z06) i hil ?_
  refine zi ?_
  refine zg (λh=>?_) λh=>?_
  ·exact zn (zn ⟨rfl,⟨false,rfl⟩,hfin hs⟩)
  rw [wS (i:=i) (by omega)]
  exact z0n (R.SR.length-(i+1)) ⟨i+1,rfl,by omega,rfl,hs⟩
end
abbrev cP (b:BatM) (k:Nat) (q:Int) (z:Sl):Array Value:=#[.int .i64 (b.base+(k:Int)),.int .i64 b.pid,.int .i64 b.epoch,.int .i64 q,.int .i64 b.kind,.int .i64 b.time,.slice z.a z.len z.cap]
def InB (pool bs:List BatM):Prop:=∀ b ∈ bs,∃ c ∈ pool,b.x=c.x/\b.rs=c.rs
theorem InB.rd {pool bs:List BatM} {l:List HP} (h:InB pool bs):∀ b ∈ bs,FocR (z0p pool::l) b.x 4 (b.rs.flatMap zx):=λb hb=>by
 obtain ⟨c,hc,e1,e2⟩:=h b hb
 rw [e1,e2]
 exact zd7 hc
theorem InB.more {pool bs:List BatM} (h:InB pool bs) (q:List BatM):InB (pool++q) bs:=λb hb=>by
 obtain ⟨c,hc,e⟩:=h b hb
 exact ⟨c,List.mem_append_left _ hc,e⟩
theorem InB.app {pool a b:List BatM} (h1:InB pool a) (h2:InB pool b):InB pool (a++b):=λx hx=>by
 rcases List.mem_append.1 hx with hx|hx
 ·exact h1 x hx
 ·exact h2 x hx
section
variable {w:World} {l r:List HP}
set_option maxHeartbeats 1000000 in
theorem z035 (seg n:Int) (x ky:Sl) (bs:List BatM) (ks:List Bool) (fuse:Int) (px:Sl) (ps:List Int) (hfu : -9223372036854775808<=fuse/\fuse<=9223372036854775807)
  (hx:FocR l x 7 (bs.flatMap zj)) (hbs:∀ b ∈ bs,FocR l b.x 4 (b.rs.flatMap zx)) (hky:FocR l ky 1 (ks.flatMap z7d)) (hpx:FocR l px 1 (ps.flatMap z21)) (hpc:px.len<=px.cap) (hs:Sat w l) :
  Ret P F.a101 #[.int .i64 seg,x.v,.int .i64 n,ky.v,.int .i64 fuse,px.v] w λvs w'=>vs=[.bool true]/\Sat w' l :=
 zl2 seg x n ky fuse px <| by
  unfold zx5
  have hlp:=hs.slen px (xs:=ps) (enc:=z21)
  refine za (zuv seg 9 hs) λ_ w' hs=>?_
  obtain ⟨s,g,hsr,hgr,rfl,hs⟩:=hs
  refine ⟨(s,g,()),rfl,trivial,z33 _ _ ?_⟩
  have hcfg:zft s g:=⟨by omega,by omega⟩
  refine zy hs λa2 w' hs=>?_
  refine z03 hs λw' hs=>?_
  refine zp (λq w'=>∃ (px':Sl) (ps':List Int),q=(px',())/\FocR l px' 1 (ps'.flatMap z21)/\ps'.length<=20/\Sat w' (pt a2 (.cells #[.int .i64 s,.int .i64 g] T.a27)::l)) ?_ ?_
  ·refine zg (λh=>?_) λh=>?_
   ·refine wp_must (by omega) ?_
    exact zh ⟨⟨px.a,20,px.cap⟩,ps.take 20,rfl,FocR.pre (by omega),by rw [List.length_take];omega,hs⟩
   ·exact zh ⟨px,ps,rfl,hpx,by omega,hs⟩
  clear hs hlp hpc hpx
  rintro _ w ⟨px,ps,rfl,hpx,hpl,hs⟩
  refine zk ?_
  refine za (zkh 1048576 (by omega) hs) λ_ w' hs=>?_
  obtain ⟨d,rfl,hs⟩:=hs
  refine ⟨(some ⟨d,0,none⟩,0,()),rfl,trivial,z33 _ _ ?_⟩
  refine wp_lt ?_
  refine zt hs ?_
  refine za (zu0 d x ⟨none,0,0⟩ bs [] s g True (D:=⟨1048576,-1,false,[]⟩) rfl (zti _ _ (by omega)) rfl rfl rfl (λ_=>⟨rfl,rfl⟩) hcfg inferInstance (λb hb=>by have:=hbs b hb;infer_instance) (FocR.nil' 1) hs) λ_ w' hs=>?_
  obtain ⟨lg,y,outs,n0,D,l',pool,rfl,hE,hs⟩:=hs
  refine ⟨(some ⟨lg,0,none⟩,y,(n0:Int),()),rfl,trivial,zqm _ _ _ ?_⟩
  refine wp_lt ?_
  obtain ⟨k1,k2,k3⟩:=hE.cpl.len
  obtain ⟨hcalm,hall⟩:=hE.calm trivial
  obtain ⟨y1,y2,y3,y4,y5⟩:=z5y hE.cpl
  have y5:=y5 hcalm
  have hlast:=((hE.syn.sync hE.cpl).2 y5).2
  have hol:outs.length<=21:=hE.num
  refine zp (λq w'=>q=(false,())/\Sat w' (lgP lg ⟨d,qP,s,g,l'⟩::dk d (z0h qP l' D).2::slc T.a1 7 y (outs.flatMap zj)::z0p pool::pt a2 (.cells #[.int .i64 s,.int .i64 g] T.a27)::l)) ?_ ?_
  ·refine z0g ?_ (by simp)
   refine za (zk4 (lg:=lg) (A:=⟨d,qP,s,g,l'⟩) (D:=D) (by show l'.length<=_;omega) hE.cpl.segs hs) λ_ w' hs=>?_
   obtain ⟨rfl,hs⟩:=hs
   refine zd ?_
   have y5:(z0h (⟨d,qP,s,g,l'⟩:LogA).pre (⟨d,qP,s,g,l'⟩:LogA).l D).1=0:=y5
   exact zh ⟨by rw [y5];rfl,hs⟩
  clear hs
  rintro _ w ⟨rfl,hs⟩
  have hused:used (z0h qP l' D).2.fs<=14805:=by rw [y3];exact hE.used
  have hflen:(z0h qP l' D).2.fs.length<=21:=by rw [y4];exact hE.len
  have hroom:(z0h qP l' D).2.room=1048576:=by rw [y2.room];exact hE.room
  generalize (z0h qP l' D).2=D1 at *
  refine zk ?_
  refine z0g ?_ (by simp)
  refine zb hs ?_
  refine zb hs ?_
  refine z00 hs λa17 w' hs=>?_
  have hs:=ztr hs
  have hly:=hs.slen y (xs:=outs) (enc:=zj)
  refine zp (λ_ w'=>∃ R:RefM,R.seg=s/\R.gap=g/\R.l=l'/\InP pool R/\R.SR.length<=21/\R.bs.length<=21/\Sat w' (rfP a17 R::lgP lg ⟨d,qP,s,g,l'⟩::dk d D1::slc T.a1 7 y (outs.flatMap zj)::z0p pool::pt a2 (.cells #[.int .i64 s,.int .i64 g] T.a27)::l)) ?_ ?_
  ·refine z08 (λm v w=>∃ (i:Nat) (R:RefM),v=((i:Int),())/\i<=outs.length/\outs.length-i=m/\R.seg=s/\R.gap=g/\R.l=z6o s ((outs.take i).map BatM.p)/\InP pool R/\R.SR.length<=i/\R.bs.length<=i/\Sat w (rfP a17 R::lgP lg ⟨d,qP,s,g,l'⟩::dk d D1::slc T.a1 7 y (outs.flatMap zj)::z0p pool::pt a2 (.cells #[.int .i64 s,.int .i64 g] T.a27)::l)) outs.length ⟨0,_,rfl,by omega,rfl,rfl,rfl,rfl,(λb hb=>by cases hb),Nat.le_refl _,Nat.le_refl _,hs⟩ ?_
   clear hs
   rintro m _ w ⟨i,R,rfl,hi,hm,hRs,hRg,hRl,hin,hsr,hbr,hs⟩
   refine zk ?_
   refine zg (λhc=>?_) λhc=>?_
   rotate_left
   ·refine zn (zh ⟨R,hRs,hRg,?_,hin,by omega,by omega,hs⟩)
    rw [hRl,List.take_of_length_le (by omega),hall]
    exact hE.rep.symm
   have hil:i<outs.length:=by omega
   have hRb:FocR (z0p pool::pt a2 (.cells #[.int .i64 s,.int .i64 g] T.a27)::l) outs[i].x 4 (outs[i].rs.flatMap zx):=InB.rd hE.in1 _ (List.getElem_mem hil)
   have hinb:=hE.in1 _ (List.getElem_mem hil)
   have hx1:outs.take (i+1)=outs.take i++[outs[i]]:=List.take_succ_eq_append_getElem hil
   have hsegs:z0b 0 R.l:=by rw [hRl];exact (zmh s _).1
   have hok:okR R (z0p pool::pt a2 (.cells #[.int .i64 s,.int .i64 g] T.a27)::l):=zad hsegs (by omega) (by omega) hin
   refine z1p hs (xs:=outs) (enc:=zj) i hil ?_
   generalize outs[i]=b at *
   refine zy hs λa28 w' hs=>?_
   refine z03 hs λw' hs=>?_
   refine zt hs ?_
   refine z1w hs (enc:=zj) b λyb w' hs=>?_
   refine za (zce (a:=a17) (R:=R) yb [b] (by omega) (by omega) (by rw [hRs];omega) (by show 1<=900;omega) inferInstance (λc hc=>by rw [List.mem_singleton.1 hc];infer_instance) hs) λ_ w' hs=>?_
   obtain ⟨rfl,R',q1,q2,q3,q4,q5,q6,-,hs⟩:=hs
   refine ⟨((z0m R.seg R.l [b]).1.1,(z0m R.seg R.l [b]).1.2,()),rfl,trivial,z33 _ _ ?_⟩
   rw [wS (i:=i) (by omega)]
   refine z0n (outs.length-(i+1)) ⟨i+1,R',rfl,by omega,rfl,q1.trans hRs,q2.trans hRg,?_,λc hc=>?_,by omega,by simp only [List.length_cons,List.length_nil] at q5;omega,hs.sub⟩
   ·rw [q3,hx1,List.map_append,List.map_singleton,za0,<- hRl,hRs,<- zfc s R.l [b]]
    rfl
   ·rcases q6 c hc with h|⟨c2,hc2,h1,h2⟩
    ·exact hin c h
    ·rw [List.mem_singleton.1 hc2] at h1 h2
     obtain ⟨e,he,e1,e2⟩:=hinb
     exact ⟨e,he,by rw [h1,e1],by rw [h2,e2]⟩
  clear hs
  rintro _ w ⟨R,hRs,hRg,hRl,hin,hsr,hbr,hs⟩
  refine zk ?_
  have hok:okR R (z0p pool::pt a2 (.cells #[.int .i64 s,.int .i64 g] T.a27)::l):=zad (by rw [hRl];exact y1.segs) (by omega) (by omega) hin
  refine za (zbz (lg:=lg) (rr:=a17) (A:=⟨d,qP,s,g,l'⟩) (D:=D1) (R:=R) hRl.symm y1.has hs) λ_ w' hs=>?_
  obtain ⟨rfl,hs⟩:=hs
  refine zd ?_
  refine z0g ?_ (by simp)
  refine za (z029 (rr:=a17) (R:=R) n ky ks inferInstance (by omega) (by omega) hs) λ_ w' hs=>?_
  obtain ⟨kk,upto,yk,stay,rfl,hkept,hs⟩:=hs
  refine ⟨(upto,yk,()),rfl,trivial,z33 _ _ ?_⟩
  refine wp_lt ?_
  have hstR:∀ b ∈ stay,b ∈ R.bs:=λb hb=>by
   rcases hkept with ⟨-,e,-⟩|⟨-,-,-,h⟩
   ·rw [e] at hb;cases hb
   ·obtain ⟨t,ht,hbt⟩:=List.mem_flatMap.1 (h.subset hb)
    exact List.mem_flatMap.2 ⟨t,List.mem_of_mem_take ht,hbt⟩
  have hstl:stay.length<=21/\(stay.flatMap frL).length<=z2f l':=by
   rcases hkept with ⟨-,e,-⟩|⟨-,-,-,h⟩
   ·rw [e];exact ⟨Nat.zero_le _,Nat.zero_le _⟩
   ·obtain ⟨e1,-⟩:=zxv h
    obtain ⟨e2,-⟩:=zst R.l kk
    rw [hRl] at e1 e2
    have e3:=h.length_le
    have e4:((R.SR.take kk).flatMap SegR.bs).length<=R.bs.length:=by
     unfold RefM.bs
     have e:R.SR=R.SR.take kk++R.SR.drop kk:=(List.take_append_drop ..).symm
     have:=congrArg (λx:List SegR=>(x.flatMap SegR.bs).length) e
     simp only [List.flatMap_append,List.length_append] at this
     omega
    omega
  have hstb:InB pool stay:=λb hb=>hin b (hstR b hb)
  refine za (ztz (a:=a17) (R:=R) (by omega) (by omega) hs) λ_ w' hs=>?_
  obtain ⟨cw,Rw,rfl,w1,w2,w3,w4,hs⟩:=hs
  refine zd ?_
  have hsw:Rw.SR.length<=21:=by
   have h1:=z8v (R:=Rw)
   have h2:=z8v (R:=R)
   rw [w3] at h1;omega
  have hinw:InP pool Rw:=λb hb=>hin b (by rw [<- w4];exact hb)
  have hokw:okR Rw (z0p pool::pt a2 (.cells #[.int .i64 s,.int .i64 g] T.a27)::l):=zad (by rw [w3,hRl];exact y1.segs) (by omega) (by rw [w4];omega) hinw
  refine za (zqd (a:=a17) (R:=R) yk stay upto (by omega) (by omega) inferInstance (λb hb=>by have:=InB.rd (l:=pt a2 (.cells #[.int .i64 s,.int .i64 g] T.a27)::l) hstb b hb;infer_instance) hs) λ_ w' hs=>?_
  obtain ⟨rfl,R2,u1,u2,u3,u4,hs⟩:=hs
  refine zd ?_
  rw [hRl] at u3 ⊢
  have hsegs2:z0b 0 R2.l:=by rw [u3];exact z8n y1.segs
  have hin2:InP pool R2:=λb hb=>by
   rcases u4 b hb with h|h
   ·exact hin b h
   ·exact hstb b h
  refine wp_lt ?_
  refine za (z023 (d:=d) fuse hfu hs) λ_ w' hs=>?_
  obtain ⟨rfl,hs⟩:=hs
  refine zd ?_
  have hcf:=ztu y1 fuse hfu
  obtain ⟨v1,v2⟩:=zgt D1 fuse
  have hlf:z2r qP l' (z5p D1 fuse):=z2r.of (D:=D1) hlast λt _=>by rw [v1]
  have husf:used (z5p D1 fuse).fs<=14805:=by rw [v1];exact hused
  have hlnf:(z5p D1 fuse).fs.length<=21:=by rw [v1];exact hflen
  have hrmf:(z5p D1 fuse).room=1048576:=by rw [v2];exact hroom
  generalize z5p D1 fuse=D2 at *
  obtain ⟨-,sz2⟩:=hcf.sizes
  have hnf:=zu7 (zl l') upto stay
  have hcr:=zkx upto stay z6c hcf hlf (by unfold DiskA.free;omega) (by omega)
  refine za (zr4 (lg:=lg) (A:=⟨d,qP,s,g,l'⟩) (D:=D2) yk stay upto hcf.segs (by show l'.length<=_;omega) (by omega) inferInstance (λb hb=>by have:=InB.rd (l:=pt a2 (.cells #[.int .i64 s,.int .i64 g] T.a27)::l) hstb b hb;infer_instance) hs) λ_ w' hs=>?_
  obtain ⟨rfl,hs⟩:=hs
  refine zd ?_
  refine wp_lt ?_
  have hs:Sat w' (lgP lg ⟨d,qP,s,g,(z2g qP l' D2 upto stay).2.1⟩::dk d (z2g qP l' D2 upto stay).2.2::rfP cw Rw::rfP a17 R2::z0p pool::pt a2 (.cells #[.int .i64 s,.int .i64 g] T.a27)::l):=(show Sat w' (lgP lg ⟨d,qP,s,g,(z2g qP l' D2 upto stay).2.1⟩::dk d (z2g qP l' D2 upto stay).2.2::_) from hs).sub
  have hqa:(z2g (⟨d,qP,s,g,l'⟩:LogA).pre (⟨d,qP,s,g,l'⟩:LogA).l D2 upto stay)=z2g qP l' D2 upto stay:=rfl
  rw [hqa]
  generalize z2g qP l' D2 upto stay=Q at *
  obtain ⟨e,l3,D3⟩:=Q
  simp only at hcr hs ⊢
  refine za (zso (d:=d) (A:=D3) hs) λ_ w' hs=>?_
  obtain ⟨rfl,hs⟩:=hs
  refine zd ?_
  have hs:Sat w' (lgP lg ⟨d,qP,s,g,l3⟩::dk d D3::rfP cw Rw::rfP a17 R2::z0p pool::pt a2 (.cells #[.int .i64 s,.int .i64 g] T.a27)::l):=hs.sub
  have hnl:∀ {k:Nat} {D4:DiskA} {L:List SegA},Cpl qP L D4->L.length<=1000000/\(z0e L).length<=1000000:=λh=>by
   obtain ⟨h1,h2,-⟩:=h.len
   omega
  have hr2l:=z8n (upto:=upto) (bs:=stay) y1.segs
  have hok2:Cpl qP R2.l (z1c D3 ps)\/True:=.inr trivial
  have hokR2:∀ {D4:DiskA},Cpl qP R2.l D4->okR R2 (z0p pool::pt a2 (.cells #[.int .i64 s,.int .i64 g] T.a27)::l):=λh=>zzv h hin2.rd
  rcases hcr with ⟨he9,hgo,hops⟩|⟨he,hne,hl3,hc3,hops⟩
  ·refine z17 ?_ ⟨hgo,he9⟩
   have hs:Sat w' (dk d D3::rfP cw Rw::rfP a17 R2::z0p pool::pt a2 (.cells #[.int .i64 s,.int .i64 g] T.a27)::l):=hs.tail
   have hops:∃ l4 D4,z2y qP (z1c D3 ps)=(0,l4,D4)/\Cpl qP l4 D4/\(l4=Rw.l\/l4=R2.l):=by
    rcases hops with h|h
    ·obtain ⟨D4,h1,h2⟩:=h ps
     exact ⟨l',D4,h1,h2,.inl (by rw [w3,hRl])⟩
    ·obtain ⟨D4,h1,h2⟩:=h ps
     exact ⟨_,D4,h1,h2,.inr u3.symm⟩
   obtain ⟨l4,D4,ho,hc4,hl4⟩:=hops
   obtain ⟨n1,n2⟩:=hnl (k:=0) hc4
   refine zp (λq w'=>∃ h:Nat,q=(some ⟨h,0,none⟩,(0:Int),())/\∃ c:Nat,Sat w' (lgP h ⟨c,qP,s,g,l4⟩::dk c D4::rfP cw Rw::rfP a17 R2::z0p pool::pt a2 (.cells #[.int .i64 s,.int .i64 g] T.a27)::l)) ?_ ?_
   ·refine z07 hs λw' hs=>?_
    refine zgd hs ?_
    refine za (znw (d:=d) (A:=D3) px ps (by omega) hs) λ_ w' hs=>?_
    obtain ⟨c,rfl,hs⟩:=hs
    refine zd ?_ (by first|trivial|(repeat (first|exact trivial|exact λ_=>z0i hs|exact λ_=>z0o hs|refine And.intro ?_ ?_)))
    refine zi ?_
    have hs:Sat w' (dk c (z1c D3 ps)::rfP cw Rw::rfP a17 R2::z0p pool::pt a2 (.cells #[.int .i64 s,.int .i64 g] T.a27)::l):=hs.sub
    refine za (zd3 (d:=c) (D:=z1c D3 ps) qP s g z6c hcfg (z8k D3 ps).2.2.2.gone hs) λ_ w' hs=>?_
    rw [ho] at hs
    rcases hs with ⟨he,-,-⟩|⟨-,h,rfl,hs⟩
    ·exact absurd rfl he
    refine ⟨(some ⟨h,0,none⟩,0,()),rfl,trivial,z33 _ _ ?_⟩
    refine wp_lt ?_
    refine zi ?_
    exact zh ⟨h,rfl,c,hs⟩
   clear hs
   rintro _ w ⟨h,rfl,c,hs⟩
   refine zk ?_
   refine zp (λq w'=>q=(true,())/\Sat w' l) ?_ ?_
   rotate_left
   ·rintro _ w2 ⟨rfl,hs⟩
    exact ⟨rfl,rfl,hs⟩
   refine z17 ?_ (by simp)
   rcases hl4 with hl4|hl4
   ·have hs:Sat w (lgP h ⟨c,qP,s,g,l4⟩::dk c D4::rfP cw Rw::z0p pool::pt a2 (.cells #[.int .i64 s,.int .i64 g] T.a27)::l):=hs.sub
    refine za (zbz (lg:=h) (rr:=cw) (A:=⟨c,qP,s,g,l4⟩) (D:=D4) (R:=Rw) hl4 hc4.has hs) λ_ w' hs=>?_
    obtain ⟨rfl,hs⟩:=hs
    refine zd ?_
    refine z17 ?_ (by simp)
    have hs:Sat w' l:=hs.sub
    refine za (zat hs) λ_ _ hs=>?_
    obtain ⟨rfl,hs⟩:=hs
    refine zd ?_
    refine wp_lt ?_
    exact zh ⟨rfl,hs⟩
   ·refine za (z027 (lg:=h) (rr:=cw) (A:=⟨c,qP,s,g,l4⟩) (D:=D4) (R:=Rw) hc4.segs n1 n2 hc4.has hs) λ_ w' hs=>?_
    obtain ⟨⟨q,rfl⟩,hs⟩:=hs
    refine zd ?_
    refine zg (λhq=>?_) λhq=>?_
    ·have hs:Sat w' l:=hs.sub
     refine za (zat hs) λ_ _ hs=>?_
     obtain ⟨rfl,hs⟩:=hs
     refine zd ?_
     refine wp_lt ?_
     exact zh ⟨rfl,hs⟩
    have hok3:=hokR2 (D4:=D4) (by rw [<- hl4];exact hc4)
    have hs:Sat w' (lgP h ⟨c,qP,s,g,l4⟩::dk c D4::rfP a17 R2::z0p pool::pt a2 (.cells #[.int .i64 s,.int .i64 g] T.a27)::l):=hs.sub
    refine za (zbz (lg:=h) (rr:=a17) (A:=⟨c,qP,s,g,l4⟩) (D:=D4) (R:=R2) hl4 hc4.has hs) λ_ w' hs=>?_
    obtain ⟨rfl,hs⟩:=hs
    refine zd ?_
    refine z17 ?_ (by simp)
    have hs:Sat w' l:=hs.sub
    refine za (zat hs) λ_ _ hs=>?_
    obtain ⟨rfl,hs⟩:=hs
    refine zd ?_
    refine wp_lt ?_
    exact zh ⟨rfl,hs⟩
  ·refine z0g ?_ (by rintro ⟨-,h⟩;exact hne h)
   have hl3:l3=R2.l:=hl3.trans u3.symm
   rw [hl3] at hs
   have hc3:Cpl qP R2.l D3:=by rw [u3];exact hc3
   have hok3:=hokR2 hc3
   refine zp (λq w'=>q=(false,())/\Sat w' (dk d D3::rfP a17 R2::z0p pool::pt a2 (.cells #[.int .i64 s,.int .i64 g] T.a27)::l)) ?_ ?_
   ·refine z0g ?_ (by rw [he];simp)
    refine za (zbz (lg:=lg) (rr:=a17) (A:=⟨d,qP,s,g,R2.l⟩) (D:=D3) (R:=R2) rfl hc3.has hs) λ_ w' hs=>?_
    obtain ⟨rfl,hs⟩:=hs
    refine zd ?_
    exact zh ⟨rfl,hs.sub⟩
   clear hs
   rintro _ w ⟨rfl,hs⟩
   refine zk ?_
   refine z0g ?_ (by simp)
   obtain ⟨D4,ho,hc4⟩:=hops ps
   rw [<- u3] at ho hc4
   refine zp (λq w'=>∃ h:Nat,q=(some ⟨h,0,none⟩,(0:Int),())/\∃ c:Nat,Sat w' (lgP h ⟨c,qP,s,g,R2.l⟩::dk c D4::rfP a17 R2::z0p pool::pt a2 (.cells #[.int .i64 s,.int .i64 g] T.a27)::l)) ?_ ?_
   ·refine z07 hs λw' hs=>?_
    refine zgd hs ?_
    refine za (znw (d:=d) (A:=D3) px ps (by omega) hs) λ_ w' hs=>?_
    obtain ⟨c,rfl,hs⟩:=hs
    refine zd ?_ (by first|trivial|(repeat (first|exact trivial|exact λ_=>z0i hs|exact λ_=>z0o hs|refine And.intro ?_ ?_)))
    refine zi ?_
    have hs:Sat w' (dk c (z1c D3 ps)::rfP a17 R2::z0p pool::pt a2 (.cells #[.int .i64 s,.int .i64 g] T.a27)::l):=hs.sub
    refine za (zd3 (d:=c) (D:=z1c D3 ps) qP s g z6c hcfg (z8k D3 ps).2.2.2.gone hs) λ_ w' hs=>?_
    rw [ho] at hs
    rcases hs with ⟨he,-,-⟩|⟨-,h,rfl,hs⟩
    ·exact absurd rfl he
    refine ⟨(some ⟨h,0,none⟩,0,()),rfl,trivial,z33 _ _ ?_⟩
    refine wp_lt ?_
    refine zi ?_
    exact zh ⟨h,rfl,c,hs⟩
   clear hs
   rintro _ w ⟨h,rfl,c,hs⟩
   refine zk ?_
   refine zp (λq w'=>q=(true,())/\Sat w' l) ?_ ?_
   rotate_left
   ·rintro _ w2 ⟨rfl,hs⟩
    exact ⟨rfl,rfl,hs⟩
   refine z17 ?_ (by simp)
   refine za (zbz (lg:=h) (rr:=a17) (A:=⟨c,qP,s,g,R2.l⟩) (D:=D4) (R:=R2) rfl hc4.has hs) λ_ w' hs=>?_
   obtain ⟨rfl,hs⟩:=hs
   refine zd ?_
   refine z17 ?_ (by simp)
   have hs:Sat w' l:=hs.sub
   refine za (zat hs) λ_ _ hs=>?_
   obtain ⟨rfl,hs⟩:=hs
   refine zd ?_
   refine wp_lt ?_
   exact zh ⟨rfl,hs⟩
end
open Go.ChangeShapes Go.WideShapes Go.RowKit Go.Deep
section
variable {H:Type} {enc:TypeId × Value->H} {P:Program} {w:World} {base:Nat} {spare:Nat->Bool} {held:Bool}
theorem ze3 {t:TypeId} {fs:Array Field} {n C:Nat} {cs:List Value} {y:DataW H × List MemPlace} (ht:P.underlying t=some (.struct fs)) (hd:DataW.trod enc P w base spare held n t cs=some y) (hC:P.cellsOf t=C) :
  cs.length=C/\∃ n',∀ (j:Nat) (f:Field),fs[j]? = some f->∃ y,DataW.trod enc P w base spare held n' f.type ((cs.drop f.offset).take (P.cellsOf f.type))=some y:=by
 obtain ⟨ys,n',hn',hy,hlen,hyl,hf⟩:=DataW.trod_struct ht hd
 refine ⟨by rw [hlen,hC],n',λj f hj=>?_⟩
 have hjl:j<fs.size:=(Array.getElem?_eq_some_iff.1 hj).1
 have h1:=hf j f hj
 rw [List.getElem?_eq_getElem (by omega)] at h1
 exact ⟨_,h1⟩
theorem z03j {t:TypeId} {f0 f1 f2 f3:Field} {n:Nat} {cs:List Value} {y:DataW H × List MemPlace} (ht:P.underlying t=some (.struct #[f0,f1,f2,f3])) (hC:P.cellsOf t=4) (k0:P.underlying f0.type=some .string) (k1:P.underlying f1.type=some .string) (k2:P.underlying f2.type=some .bool) (k3:P.underlying f3.type=some (.int .i64))
  (o0:f0.offset=0) (o1:f1.offset=1) (o2:f2.offset=2) (o3:f3.offset=3) (c0:P.cellsOf f0.type=1) (c1:P.cellsOf f1.type=1) (c2:P.cellsOf f2.type=1) (c3:P.cellsOf f3.type=1)
  (hd:DataW.trod enc P w base spare held n t cs=some y):∃ r:RecM,cs=zx r/\True:=by
 obtain ⟨hl,n',hf⟩:=ze3 ht hd hC
 match cs,hl with
 | [v0,v1,v2,v3],_ =>
  obtain ⟨y0,h0⟩:=hf 0 f0 rfl
  obtain ⟨y1,h1⟩:=hf 1 f1 rfl
  obtain ⟨y2,h2⟩:=hf 2 f2 rfl
  obtain ⟨y3,h3⟩:=hf 3 f3 rfl
  rw [o0,c0] at h0
  rw [o1,c1] at h1
  rw [o2,c2] at h2
  rw [o3,c3] at h3
  obtain ⟨s0,q0,-,-⟩:=DataW.trod_string k0 h0
  obtain ⟨s1,q1,-,-⟩:=DataW.trod_string k1 h1
  obtain ⟨b2,q2,-⟩:=DataW.trod_bool k2 h2
  obtain ⟨n3,q3,-,-⟩:=DataW.trod_int k3 h3
  simp at q0 q1 q2 q3
  subst q0 q1 q2 q3
  exact ⟨⟨s0,s1,b2,n3⟩,rfl,trivial⟩
theorem z03r {t tr:TypeId} {b0 b1 b2 b3 b4 b5 b6:Field} {n:Nat} {cs:List Value} {y:DataW H × List MemPlace} (ht:P.underlying t=some (.struct #[b0,b1,b2,b3,b4,b5,b6])) (hC:P.cellsOf t=7)
  (hone:oneCellFields P #[b0,b1,b2,b3,b4,b5,b6]=true) (l0:P.underlying b0.type=some (.int .i64)) (l1:P.underlying b1.type=some (.int .i64)) (l2:P.underlying b2.type=some (.int .i64)) (l3:P.underlying b3.type=some (.int .i64)) (l4:P.underlying b4.type=some (.int .i64)) (l5:P.underlying b5.type=some (.int .i64))
  (l6:P.underlying b6.type=some (.slice tr)) (hR:P.cellsOf tr=4) (hrec:∀ (n:Nat) (cs:List Value) (y:DataW H × List MemPlace),cs.length=4->DataW.trod enc P w base spare held n tr cs=some y->∃ r:RecM,cs=zx r/\True)
  (hd:DataW.trod enc P w base spare held n t cs=some y):∃ b:BatM,cs=zj b/\Rd w 4 b.x (b.rs.flatMap zx)/\(-9223372036854775808<=b.base/\b.base<9223372036854775808):=by
 obtain ⟨hl,m,hg⟩:=ze3 ht hd hC
 match cs,hl with
 | [v1,v2,v3,v4,v5,v6,v7],_ =>
  have one:∀ (j:Nat) (f:Field) (u:Value),#[b0,b1,b2,b3,b4,b5,b6][j]? = some f->[v1,v2,v3,v4,v5,v6,v7][j]? = some u->∃ y,DataW.trod enc P w base spare held m f.type [u]=some y:=λj f u hj hu=>by
   obtain ⟨ho,hk⟩:=hone_of hone j f hj
   obtain ⟨y,h1⟩:=hg j f hj
   rw [ho,hk] at h1
   obtain ⟨hjl,rfl⟩:=List.getElem?_eq_some_iff.1 hu
   have hone':([v1,v2,v3,v4,v5,v6,v7].drop j).take 1=[[v1,v2,v3,v4,v5,v6,v7][j]]:=by
    rw [List.drop_eq_getElem_cons hjl];rfl
   rw [hone'] at h1
   exact ⟨y,h1⟩
  obtain ⟨z0,e0⟩:=one 0 b0 v1 rfl rfl
  obtain ⟨z1,e1⟩:=one 1 b1 v2 rfl rfl
  obtain ⟨z2,e2⟩:=one 2 b2 v3 rfl rfl
  obtain ⟨z3,e3⟩:=one 3 b3 v4 rfl rfl
  obtain ⟨z4,e4⟩:=one 4 b4 v5 rfl rfl
  obtain ⟨z5,e5⟩:=one 5 b5 v6 rfl rfl
  obtain ⟨z6,e6⟩:=one 6 b6 v7 rfl rfl
  obtain ⟨m0,p0,-,w0⟩:=DataW.trod_int l0 e0
  obtain ⟨m1,p1,-,-⟩:=DataW.trod_int l1 e1
  obtain ⟨m2,p2,-,-⟩:=DataW.trod_int l2 e2
  obtain ⟨m3,p3,-,-⟩:=DataW.trod_int l3 e3
  obtain ⟨m4,p4,-,-⟩:=DataW.trod_int l4 e4
  obtain ⟨m5,p5,-,-⟩:=DataW.trod_int l5 e5
  obtain ⟨x,rs,p6,-,-,-,-,hrd⟩:=ztm l6 hR (by decide) hrec e6
  simp at p0 p1 p2 p3 p4 p5
  subst p0 p1 p2 p3 p4 p5 p6
  exact ⟨⟨m0,m1,m2,m3,m4,m5,x,rs⟩,rfl,hrd,z03n w0⟩
theorem z03p {t e:TypeId} {r:Reach} {b0:Nat} {v:Value} {d:DataW H} {ps:List MemPlace} (ht:P.underlying t=some (.slice e)) (hval:Value.okWide P w r b0 t v) (hd:DataW.Trod enc P w base spare held t v d ps):∃ (fuel:Nat) (y:DataW H × List MemPlace),DataW.trod enc P w base spare held fuel t [v]=some y:=by
 obtain ⟨a0,len0,cap0,rfl⟩:=okWide_slice ht hval
 obtain ⟨fuel,hf⟩:=hd
 exact ⟨fuel,_,hf⟩
theorem z03b {W:World} {sz:Nat} {x:Sl} {cs:List Value} (h:Rd W sz x cs):FocR [whole W] x sz cs:=⟨λw hs=>zyu hs.of_whole.1 h⟩
end
open Go.ChangeShapes Go.WideShapes Go.RowKit Go.Deep
section
variable {H:Type} {enc:TypeId × Value->H} {P:Program} {w:World} {base:Nat} {spare:Nat->Bool} {held:Bool}
theorem z03q {t:TypeId} {n:Nat} {cs:List Value} {y:DataW H × List MemPlace} (ht:P.underlying t=some .bool) (hl:cs.length=1) (hd:DataW.trod enc P w base spare held n t cs=some y):∃ b:Bool,cs=z7d b/\True:=by
 match cs,hl with
 | [v],_ =>
  obtain ⟨b,q,-⟩:=DataW.trod_bool ht hd
  simp at q
  subst q
  exact ⟨b,rfl,trivial⟩
end
end Go.Dec
